/- Any properties have the document's byte, or none, and any byte its properties, or none: the 256 bytes by evaluation, the properties by cases. -/
import Derived.Test.YtoeapobpdfidkaaPLzmaPropsx2
import Derived.Test.YtoeapobpdfidkaaRd
namespace Go.Proofs.Ytoeapobpdfidkaa
set_option linter.unusedVariables false
open Go.RowKit Go.Proofs.Ytoeapobpdfidkaa.PLzmaProps Go.Proofs.YtoeapobpdfidkaaW.PrintWords Go.Proofs.YtoeapobpdfidkaaW.PrintLast Go.Proofs.YtoeapobpdfidkaaW.PrintMore

def okProps (a b c : Int) : Bool := decide (0 ≤ a ∧ a ≤ 4 ∧ 0 ≤ b ∧ b ≤ 4 ∧ a + b ≤ 4 ∧ 0 ≤ c ∧ c ≤ 4)

theorem valid_is (a b c : Int) : lzma_Props_Valid.f a b c = some (okProps a b c) := by
  unfold lzma_Props_Valid.f okProps
  by_cases h1 : mn (mn a b) c ≥ 0
  · rw [if_pos h1]
    by_cases h2 : mx (mx a b) c ≤ 4
    · rw [if_pos h2]
      unfold mn at h1
      unfold mx at h2
      have : wrap64 (a + b) = a + b := by unfold wrap64; omega
      rw [this]
      congr 1
      rw [decide_eq_decide]
      omega
    · rw [if_neg h2]
      unfold mx at h2
      congr 1
      symm
      rw [decide_eq_false_iff_not]
      omega
  · rw [if_neg h1]
    unfold mn at h1
    congr 1
    symm
    rw [decide_eq_false_iff_not]
    omega

theorem refValid_is (a b c : Int) : hamperref14_Valid.f a b c = some (okProps a b c) := by
  unfold hamperref14_Valid.f okProps
  by_cases h1 : a ≥ 0
  case neg => rw [if_neg h1]; congr 1; symm; rw [decide_eq_false_iff_not]; omega
  by_cases h2 : a ≤ 4
  case neg => rw [if_pos h1, if_neg h2]; congr 1; symm; rw [decide_eq_false_iff_not]; omega
  by_cases h3 : b ≥ 0
  case neg => rw [if_pos h1, if_pos h2, if_neg h3]; congr 1; symm; rw [decide_eq_false_iff_not]; omega
  by_cases h4 : b ≤ 4
  case neg => rw [if_pos h1, if_pos h2, if_pos h3, if_neg h4]; congr 1; symm; rw [decide_eq_false_iff_not]; omega
  have hw : wrap64 (a + b) = a + b := by unfold wrap64; omega
  rw [if_pos h1, if_pos h2, if_pos h3, if_pos h4, hw]
  by_cases h5 : a + b ≤ 4
  case neg => rw [if_neg h5]; congr 1; symm; rw [decide_eq_false_iff_not]; omega
  rw [if_pos h5]
  by_cases h6 : c ≥ 0
  case neg => rw [if_neg h6]; congr 1; symm; rw [decide_eq_false_iff_not]; omega
  rw [if_pos h6]
  congr 1
  rw [decide_eq_decide]
  omega

theorem wrap_small (x : Int) (h0 : 0 ≤ x) (h1 : x < 1000) : wrap64 x = x := by unfold wrap64; omega
theorem byte_is (a b c : Int) (ha : 0 ≤ a ∧ a ≤ 8) (hb : 0 ≤ b ∧ b ≤ 8) (hc : 0 ≤ c ∧ c ≤ 8) : hamperref14_Byte.f a b c = some ((c * 5 + b) * 9 + a) := by
  unfold hamperref14_Byte.f
  rw [wrap_small (c * 5) (by omega) (by omega), wrap_small (c * 5 + b) (by omega) (by omega), wrap_small ((c * 5 + b) * 9) (by omega) (by omega), wrap_small _ (by omega) (by omega)]
/-- A step of the innermost search. -/
theorem l2_step (k : Nat) (x pb lp lc : Int) (h1 : 0 ≤ pb ∧ pb ≤ 4) (h2 : 0 ≤ lp ∧ lp ≤ 4) (h3 : 0 ≤ lc ∧ lc ≤ 4) :
    hamperref14_Of.l2 (k + 1) x pb lp lc = if lc + lp ≤ 4 ∧ (pb * 5 + lp) * 9 + lc = x then some (lc, lp, pb, 0) else hamperref14_Of.l2 k x pb lp (lc + 1) := by
  rw [hamperref14_Of.l2, if_pos h3.2, refValid_is, byte_is lc lp pb (by omega) (by omega) (by omega), wrap_small (lc + 1) (by omega) (by omega)]
  simp only [Option.bind_some]
  by_cases hv : lc + lp ≤ 4
  · rw [if_pos (by simp only [okProps, decide_eq_true_eq]; omega)]
    by_cases hx : (pb * 5 + lp) * 9 + lc = x
    · rw [if_pos hx, if_pos ⟨hv, hx⟩]
    · rw [if_neg hx, if_neg (fun h => hx h.2)]
  · rw [if_neg (by simp only [okProps, decide_eq_true_eq]; omega), if_neg (fun h => hv h.1)]
theorem l2_end (k : Nat) (x pb lp : Int) (h2 : 0 ≤ lp ∧ lp ≤ 4) : hamperref14_Of.l2 (k + 1) x pb lp 5 = hamperref14_Of.l1 k x pb (lp + 1) := by
  rw [hamperref14_Of.l2, if_neg (by omega), wrap_small (lp + 1) (by omega) (by omega)]
theorem l1_is (k : Nat) (x pb lp : Int) (hx : 0 ≤ x ∧ x ≤ 255) (h1 : 0 ≤ pb ∧ pb ≤ 4) (h2 : 0 ≤ lp ∧ lp ≤ 4) :
    hamperref14_Of.l1 (k + 7) x pb lp = if pb = x / 45 ∧ lp = x / 9 % 5 ∧ x % 9 + lp ≤ 4 then some (x % 9, lp, pb, 0) else hamperref14_Of.l1 k x pb (lp + 1) := by
  rw [hamperref14_Of.l1, if_pos h2.2, l2_step _ _ _ _ _ h1 h2 (by omega), l2_step _ _ _ _ _ h1 h2 (by omega), l2_step _ _ _ _ _ h1 h2 (by omega), l2_step _ _ _ _ _ h1 h2 (by omega), l2_step _ _ _ _ _ h1 h2 (by omega)]
  rw [show (0 : Int) + 1 + 1 + 1 + 1 + 1 = 5 from rfl, l2_end _ _ _ _ h2]
  by_cases hC : pb = x / 45 ∧ lp = x / 9 % 5 ∧ x % 9 + lp ≤ 4
  · rw [if_pos hC]
    obtain h | h | h | h | h : x % 9 = 0 ∨ x % 9 = 1 ∨ x % 9 = 2 ∨ x % 9 = 3 ∨ x % 9 = 4 := by omega
    · rw [if_pos (by omega), h]
    · rw [if_neg (by omega), if_pos (by omega), h]; rfl
    · rw [if_neg (by omega), if_neg (by omega), if_pos (by omega), h]; rfl
    · rw [if_neg (by omega), if_neg (by omega), if_neg (by omega), if_pos (by omega), h]; rfl
    · rw [if_neg (by omega), if_neg (by omega), if_neg (by omega), if_neg (by omega), if_pos (by omega), h]; rfl
  · rw [if_neg hC, if_neg (by omega), if_neg (by omega), if_neg (by omega), if_neg (by omega), if_neg (by omega)]
theorem l1_end (k : Nat) (x pb : Int) (h1 : 0 ≤ pb ∧ pb ≤ 4) : hamperref14_Of.l1 (k + 1) x pb 5 = hamperref14_Of.l0 k x (pb + 1) := by
  rw [hamperref14_Of.l1, if_neg (by omega), wrap_small (pb + 1) (by omega) (by omega)]
theorem l0_is (k : Nat) (x pb : Int) (hx : 0 ≤ x ∧ x ≤ 255) (h1 : 0 ≤ pb ∧ pb ≤ 4) :
    hamperref14_Of.l0 (k + 37) x pb = if pb = x / 45 ∧ x % 9 + x / 9 % 5 ≤ 4 then some (x % 9, x / 9 % 5, pb, 0) else hamperref14_Of.l0 k x (pb + 1) := by
  rw [hamperref14_Of.l0, if_pos h1.2, show k + 36 = (k + 1) + 7 + 7 + 7 + 7 + 7 from rfl]
  rw [l1_is _ _ _ _ hx h1 (by omega), l1_is _ _ _ _ hx h1 (by omega), l1_is _ _ _ _ hx h1 (by omega), l1_is _ _ _ _ hx h1 (by omega), l1_is _ _ _ _ hx h1 (by omega)]
  rw [show (0 : Int) + 1 + 1 + 1 + 1 + 1 = 5 from rfl, l1_end _ _ _ h1]
  by_cases hC : pb = x / 45 ∧ x % 9 + x / 9 % 5 ≤ 4
  · rw [if_pos hC]
    obtain h | h | h | h | h : x / 9 % 5 = 0 ∨ x / 9 % 5 = 1 ∨ x / 9 % 5 = 2 ∨ x / 9 % 5 = 3 ∨ x / 9 % 5 = 4 := by omega
    · rw [if_pos (by omega), h]
    · rw [if_neg (by omega), if_pos (by omega), h]; rfl
    · rw [if_neg (by omega), if_neg (by omega), if_pos (by omega), h]; rfl
    · rw [if_neg (by omega), if_neg (by omega), if_neg (by omega), if_pos (by omega), h]; rfl
    · rw [if_neg (by omega), if_neg (by omega), if_neg (by omega), if_neg (by omega), if_pos (by omega), h]; rfl
  · rw [if_neg hC, if_neg (by omega), if_neg (by omega), if_neg (by omega), if_neg (by omega), if_neg (by omega)]
theorem l0_end (k : Nat) (x : Int) : hamperref14_Of.l0 (k + 1) x 5 = some (0, 0, 0, 11) := by
  rw [hamperref14_Of.l0, if_neg (by omega)]
theorem refOf_is (x : Int) (hx : 0 ≤ x ∧ x ≤ 255) : hamperref14_Of.f 300 x = if x / 45 ≤ 4 ∧ x % 9 + x / 9 % 5 ≤ 4 then some (x % 9, x / 9 % 5, x / 45, 0) else some (0, 0, 0, 11) := by
  unfold hamperref14_Of.f
  rw [show 300 = 115 + 37 + 37 + 37 + 37 + 37 from rfl]
  rw [l0_is _ _ _ hx (by omega), l0_is _ _ _ hx (by omega), l0_is _ _ _ hx (by omega), l0_is _ _ _ hx (by omega), l0_is _ _ _ hx (by omega)]
  rw [show (0 : Int) + 1 + 1 + 1 + 1 + 1 = 5 from rfl, show (115 : Nat) = 114 + 1 from rfl, l0_end]
  by_cases hC : x / 45 ≤ 4 ∧ x % 9 + x / 9 % 5 ≤ 4
  · rw [if_pos hC]
    obtain h | h | h | h | h : x / 45 = 0 ∨ x / 45 = 1 ∨ x / 45 = 2 ∨ x / 45 = 3 ∨ x / 45 = 4 := by omega
    · rw [if_pos (by omega), h]
    · rw [if_neg (by omega), if_pos (by omega), h]; rfl
    · rw [if_neg (by omega), if_neg (by omega), if_pos (by omega), h]; rfl
    · rw [if_neg (by omega), if_neg (by omega), if_neg (by omega), if_pos (by omega), h]; rfl
    · rw [if_neg (by omega), if_neg (by omega), if_neg (by omega), if_neg (by omega), if_pos (by omega), h]; rfl
  · rw [if_neg hC, if_neg (by omega), if_neg (by omega), if_neg (by omega), if_neg (by omega), if_neg (by omega)]
theorem of_is (x : Int) (hx : 0 ≤ x ∧ x ≤ 255) : lzma_Of.f x = if x / 45 ≤ 4 ∧ x % 9 + x / 9 % 5 ≤ 4 then some (x % 9, x / 9 % 5, x / 45, 0) else some (0, 0, 0, 11) := by
  unfold lzma_Of.f
  rw [wrap_small x hx.1 (by omega), Int.tmod_eq_emod_of_nonneg hx.1, Int.tdiv_eq_ediv_of_nonneg hx.1, Int.tdiv_eq_ediv_of_nonneg hx.1, wrap_small (x / 9) (by omega) (by omega), wrap_small (x / 45) (by omega) (by omega), Int.tmod_eq_emod_of_nonneg (by omega), valid_is]
  simp only [Option.bind_some]
  by_cases hC : x / 45 ≤ 4 ∧ x % 9 + x / 9 % 5 ≤ 4
  · rw [if_pos hC, if_pos (by simp only [okProps, decide_eq_true_eq]; omega)]
  · rw [if_neg hC, if_neg (by simp only [okProps, decide_eq_true_eq]; omega)]
theorem sameOf_at (b : Int) (h0 : 0 ≤ b) (h1 : b ≤ 255) : ∃ x y z e, lzma_Of.f b = some (x, y, z, e) ∧ hamperref14_Of.f 300 b = some (x, y, z, e) := by
  rw [of_is b ⟨h0, h1⟩, refOf_is b ⟨h0, h1⟩]
  by_cases hC : b / 45 ≤ 4 ∧ b % 9 + b / 9 % 5 ≤ 4
  · rw [if_pos hC]; exact ⟨_, _, _, _, rfl, rfl⟩
  · rw [if_neg hC]; exact ⟨_, _, _, _, rfl, rfl⟩
end Go.Proofs.Ytoeapobpdfidkaa
