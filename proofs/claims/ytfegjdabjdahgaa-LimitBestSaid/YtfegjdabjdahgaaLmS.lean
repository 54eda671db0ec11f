/- hamperlaw05.same. -/
import Derived.Test.YtfegjdabjdahgaaCost
namespace Go.Proofs.Ytfegjdabjdahgaa
open Go.RowKit
set_option linter.unusedVariables false
set_option linter.unusedSimpArgs false

set_option maxRecDepth 4000 in
set_option maxHeartbeats 1000000 in
theorem same05_is (w : World) (A0 A1 : Option Addr) (n0 n1 c0 c1 : Nat) (xs ys : List Int) (h0 : Nums .i64 w A0 n0 c0 xs) (h1 : Nums .i64 w A1 n1 c1 ys) (hn0 : n0 ≤ 140737488355328) (hn1 : n1 ≤ 140737488355328) :
    Calls Try.prog 8 #[.slice A0 n0 c0, .slice A1 n1 c1] w fun e w' => e = .returned (.bool (decide (xs = ys))) ∧ Grow w w' := by
  have hl0 := h0.len
  have hl1 := h1.len
  by_cases hl : n0 = n1
  case neg =>
    have hR : decide (xs = ys) = false := decide_eq_false fun e => hl (by rw [← hl0, ← hl1, e])
    rw [hR]
    have hlz : ¬ (n0 : Int) = (n1 : Int) := by omega
    clear h0 h1 hl0 hl1 hR
    go_enter Try.func8, Try.ntmps8
    go_wp2_with fail
    go_ret
    exact ⟨rfl, Keeps.refl _ _⟩
  subst hl
  obtain ⟨R, hR⟩ : ∃ R, R = decide (xs = ys) := ⟨_, rfl⟩
  rw [← hR]
  have HR := Lib.hid hR
  have H0 := Lib.hid h0
  have H1 := Lib.hid h1
  have HL0 := Lib.hid hl0
  have HL1 := Lib.hid hl1
  clear hR h0 h1 hl0 hl1
  go_enter Try.func8, Try.ntmps8
  go_wp2_with fail
  go_loopw [4, 5] (fun _ vi wr => ∃ (i : Nat), i ≤ n0 ∧ vi = .int .i64 (i : Nat) ∧ Hid (Grow w wr) ∧ Hid (∀ j, j < i → xs.getD j 0 = ys.getD j 0)) (fun _ vi _ => n0 - (intOf vi).toNat)
  case atStart => exact ⟨0, Nat.zero_le _, by simp, Keeps.refl _ _, fun j hj => by omega⟩
  case round =>
    obtain ⟨i, hi, rfl, HG, HE⟩ := hrel
    by_cases hin : i < n0
    · have hini : (i : Int) < (n0 : Int) := by omega
      obtain ⟨b0, o0, rfl, g0⟩ := (H0.out.grow HG.out).at_ (by omega)
      obtain ⟨b1, o1, rfl, g1⟩ := (H1.out.grow HG.out).at_ (by omega)
      have cx := g0 i hin
      have cy := g1 i hin
      clear g0 g1
      by_cases he : xs.getD i 0 = ys.getD i 0
      · have HE2 : Hid (∀ j, j < i + 1 → xs.getD j 0 = ys.getD j 0) := fun j hj => by
          rcases Nat.lt_succ_iff_lt_or_eq.1 hj with h | h
          · exact HE.out j h
          · rw [h]; exact he
        rw [← he] at cy
        clear he
        generalize xs.getD i 0 = x at *
        go_wp2_with (go_quiet (fail))
        go_roundw
        case rel => exact ⟨i + 1, hin, by go_num, HG.out.drewN _, HE2.out⟩
        case measure => simp [intOf]; omega
      · have hR2 : R = false := by
          rw [HR.out]
          exact decide_eq_false fun e => he (by rw [e])
        subst hR2
        generalize xs.getD i 0 = x at *
        generalize ys.getD i 0 = y at *
        go_wp2_with (go_quiet (fail))
        go_ret
        exact ⟨rfl, HG.out.drewN _⟩
    · obtain rfl : n0 = i := by omega
      have hini : ¬ (n0 : Int) < (n0 : Int) := by omega
      have hR2 : R = true := by
        rw [HR.out]
        refine decide_eq_true (List.ext_getElem (by rw [HL0.out, HL1.out]) fun j h1 h2 => ?_)
        have h3 := HE.out j (by rw [← HL0.out]; exact h1)
        simpa [List.getD_eq_getElem?_getD, h1, h2] using h3
      subst hR2
      go_wp2_with fail
      go_ret
      exact ⟨rfl, HG.out⟩
theorem names05_is (w : World) : Calls Try.prog 9 #[] w fun e w' => e = .returned (.bool true) ∧ w = w' := by
  go_enter Try.func9, Try.ntmps9
  go_wp2_with fail
  go_ret
  exact ⟨rfl, rfl⟩
end Go.Proofs.Ytfegjdabjdahgaa
