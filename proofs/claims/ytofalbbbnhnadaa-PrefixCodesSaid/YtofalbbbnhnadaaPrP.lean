/- PrefixReads: plain: a full code reads any bits; the cost of what was put. -/
import Derived.Test.YtofalbbbnhnadaaPbW
namespace Go.Proofs.Ytofalbbbnhnadaa
open Go.RowKit
set_option linter.unusedVariables false
set_option linter.unusedSimpArgs false

theorem kpk_full (ls : List Nat) (M : Nat) (h : ∀ i, ls.getD i 0 ≤ M) : ∀ k, k ≤ ls.length → kpk ls M k = sumK (ls.take k)
  | 0, _ => by simp [kpk, sumK]
  | k + 1, hk => by
    rw [List.take_add_one, show ls[k]?.toList = [ls.getD k 0] by simp [List.getD_eq_getElem?_getD, show k < ls.length by omega], sumK_snoc, ← kpk_full ls M h k (by omega)]
    show kpk ls M k + kq M (ls.getD k 0) = kpk ls M k + kr (ls.getD k 0)
    congr 1
    unfold kq kr
    by_cases h0 : 0 < ls.getD k 0
    · rw [if_pos ⟨h0, h k⟩, if_pos h0]
    · rw [if_neg (fun h9 => h0 h9.1), if_neg h0]
/-- A full code's words of the greatest length reach to the end. -/
theorem Nn_full {ls : List Nat} (hk : Kraft ls) {M : Nat} (hM : M ≤ 20) (h : ∀ i, ls.getD i 0 ≤ M) (hs : sumK ls = 1048576) : Nn ls M = 2 ^ M := by
  obtain ⟨h1, _⟩ := Nn_kraft hk M hM
  have h2 := kpk_full ls M h ls.length (Nat.le_refl _)
  rw [List.take_length, hs] at h2
  rw [h2] at h1
  have h3 : 2 ^ M * 2 ^ (20 - M) = 1048576 := by rw [← Nat.pow_add, show M + (20 - M) = 20 by omega]
  exact Nat.eq_of_mul_eq_mul_right (Nat.two_pow_pos (20 - M)) (h1.trans h3.symm)
/-- Where no word stood, the number is beyond them. -/
theorem beyond {ls : List Nat} (hk : Kraft ls) {M : Nat} (hM : M ≤ 20) (hi : Bool) (xs : List Int) (a : Nat) : ∀ l, l ≤ M → (∀ j, 1 ≤ j → j ≤ l → ¬ hitK ls (vN hi xs a j) j) → Nn ls l ≤ vN hi xs a l
  | 0, _, _ => by show (0 : Nat) ≤ _; omega
  | l + 1, hl, h => by
    have h1 := beyond hk hM hi xs a l (by omega) (fun j h1 h2 => h j h1 (by omega))
    obtain ⟨e1, e2⟩ := Ff_eq hk (l + 1) (by omega) (by omega)
    rw [Nat.add_sub_cancel] at e1
    have h2 := h (l + 1) (by omega) (Nat.le_refl _)
    have h3 : vN hi xs a (l + 1) = 2 * vN hi xs a l + bt hi xs (a + l) := rfl
    unfold hitK at h2
    omega
/-- A greater length has a word that goes on. -/
theorem goes_on {ls : List Nat} (hk : Kraft ls) {M : Nat} (hM : M ≤ 20) (hN : Nn ls M = 2 ^ M) {v l : Nat} (hl : 1 ≤ l) (hlM : l < M) (hv : v < 2 ^ l) (hb : Nn ls l ≤ v) : ∃ k, l < k ∧ k ≤ M ∧ liveK ls v l k := by
  -- the least k where the number lies ahead of the words' end
  have hex : ∀ d, l + d ≤ M → (Nn ls (l + d) ≤ v * 2 ^ d) ∨ ∃ k, l < k ∧ k ≤ M ∧ liveK ls v l k := by
    intro d
    induction d with
    | zero => intro _; left; simpa using hb
    | succ d ih =>
      intro hd
      rcases ih (by omega) with h | h
      · by_cases hlt : v * 2 ^ (d + 1) < Nn ls (l + (d + 1))
        · right
          obtain ⟨e1, e2⟩ := Ff_eq hk (l + (d + 1)) (by omega) (by omega)
          rw [show l + (d + 1) - 1 = l + d by omega] at e1
          have h2 : v * 2 ^ (d + 1) = 2 * (v * 2 ^ d) := by rw [Nat.pow_succ, ← Nat.mul_assoc, Nat.mul_comm]
          refine ⟨l + (d + 1), by omega, hd, ?_⟩
          unfold liveK
          rw [show l + (d + 1) - l = d + 1 by omega]
          refine ⟨by omega, ?_, ?_⟩
          · have h3 : Ff ls (l + (d + 1)) ≤ v * 2 ^ (d + 1) := by omega
            have h4 := Nat.div_le_div_right (c := 2 ^ (d + 1)) h3
            rw [Nat.mul_div_cancel _ (Nat.two_pow_pos _)] at h4
            exact h4
          · rw [Nat.le_div_iff_mul_le (Nat.two_pow_pos _)]
            omega
        · left; omega
      · right; exact h
  rcases hex (M - l) (by omega) with h | h
  · exfalso
    rw [show l + (M - l) = M by omega, hN] at h
    have h2 : v * 2 ^ (M - l) < 2 ^ l * 2 ^ (M - l) := Nat.mul_lt_mul_of_pos_right hv (Nat.two_pow_pos _)
    rw [← Nat.pow_add, show l + (M - l) = M by omega] at h2
    omega
  · exact h
/-- What a full code gets. -/
theorem get_full {ls : List Nat} (hk : Kraft ls) {M : Nat} (hM : M ≤ 20) (h : ∀ i, ls.getD i 0 ≤ M) (hs : sumK ls = 1048576) {w w' : World} {gr mr cr at0 : Nat} {hi : Bool} {Ar : Option Addr} {xs : List Int} {e : Ending} (hp : GetPost ls M w gr mr cr at0 hi Ar xs e w') :
    Keeps (fun k => k = gr) w w' ∧ (e = .returned (.tuple #[.int .i64 0, .int .i64 10]) ∧ Rr w' gr hi Ar mr cr xs (8 * mr) ∨ ∃ s l : Nat, e = .returned (.tuple #[.int .i64 (s : Nat), .int .i64 0]) ∧ s < ls.length ∧ 0 < ls.getD s 0 ∧ 1 ≤ l ∧ at0 + l ≤ 8 * mr ∧ Rr w' gr hi Ar mr cr xs (at0 + l)) := by
  obtain ⟨s, er, l, he, hl1, hlM, hop, hkp, hcase⟩ := hp
  refine ⟨hkp, ?_⟩
  rcases hcase with ⟨rfl, rfl, _, hr⟩ | ⟨hroom, hr, ⟨rfl, hhit, hid⟩ | ⟨rfl, rfl, hno, hdead⟩⟩
  · exact .inl ⟨he, hr⟩
  · obtain ⟨a, b⟩ := idx_mem ls l ls.length s (List.mem_of_getElem? hid)
    exact .inr ⟨s, l, he, a, by omega, hl1, hroom, hr⟩
  · exfalso
    have hb := beyond hk hM hi xs at0 l hlM (fun j h1 h2 => by
      by_cases hj : j = l
      · rw [hj]; exact hno
      · exact (hop j h1 (by omega)).1)
    have hv := vN_lt hi xs at0 l
    have hN := Nn_full hk hM h hs
    by_cases hlm : l = M
    · subst hlm; omega
    · obtain ⟨k, k1, k2, k3⟩ := goes_on hk hM hN hl1 (by omega) hv hb
      exact hdead k k1 k2 k3
/-- What symbols so often cost. -/
def psum (ls cs : List Nat) : Nat → Nat
  | 0 => 0
  | k + 1 => psum ls cs k + cs.getD k 0 * ls.getD k 0
theorem psum_mono (ls cs : List Nat) {a b : Nat} (h : a ≤ b) : psum ls cs a ≤ psum ls cs b := by
  induction b with
  | zero => obtain rfl : a = 0 := by omega
            exact Nat.le_refl _
  | succ b ih =>
    by_cases hb : a = b + 1
    · rw [hb]; exact Nat.le_refl _
    · exact Nat.le_trans (ih (by omega)) (Nat.le_add_right _ _)
theorem psum_set (ls cs : List Nat) (s : Nat) (hs : s < cs.length) : ∀ k, psum ls (cs.set s (cs.getD s 0 + 1)) k = psum ls cs k + if s < k then ls.getD s 0 else 0
  | 0 => by simp [psum]
  | k + 1 => by
    have h1 := psum_set ls cs s hs k
    show psum ls (cs.set s (cs.getD s 0 + 1)) k + (cs.set s (cs.getD s 0 + 1)).getD k 0 * ls.getD k 0 = psum ls cs k + cs.getD k 0 * ls.getD k 0 + _
    rw [h1]
    by_cases hk : s = k
    · subst hk
      rw [if_neg (by omega), if_pos (by omega)]
      have h2 : (cs.set s (cs.getD s 0 + 1)).getD s 0 = cs.getD s 0 + 1 := by simp [List.getD_eq_getElem?_getD, hs]
      rw [h2, Nat.add_mul, Nat.one_mul]
      omega
    · have h2 : (cs.set s (cs.getD s 0 + 1)).getD k 0 = cs.getD k 0 := by simp [List.getD_eq_getElem?_getD, List.getElem?_set_ne hk]
      rw [h2]
      by_cases hlt : s < k
      · rw [if_pos hlt, if_pos (by omega)]; omega
      · rw [if_neg hlt, if_neg (by omega)]
        omega
theorem psum_zero (ls : List Nat) (n : Nat) : ∀ k, psum ls (List.replicate n 0) k = 0
  | 0 => rfl
  | k + 1 => by
    show psum ls (List.replicate n 0) k + (List.replicate n 0).getD k 0 * ls.getD k 0 = 0
    rw [psum_zero ls n k]
    have : (List.replicate n 0).getD k 0 = 0 := by
      rw [List.getD_eq_getElem?_getD, List.getElem?_replicate]
      split <;> rfl
    rw [this, Nat.zero_mul]
/-- The program's sum is that. -/
theorem cst_psum (ls : List Nat) (ws : List (Nat × Nat)) (cs : List Nat) (m : Nat) (hw : ∀ k, k < m → (ws.getD k (0, 0)).2 = ls.getD k 0) (hb : psum ls cs m ≤ 1000000000000000) : ∀ k, k ≤ m → cst ws (cs.map fun c => ((c : Nat) : Int)) k = some (psum ls cs k)
  | 0, _ => rfl
  | k + 1, hk => by
    have h1 := cst_psum ls ws cs m hw hb k (by omega)
    have hy : ((cs.map fun c => ((c : Nat) : Int)).getD k 0).toNat = cs.getD k 0 := by
      rw [List.getD_eq_getElem?_getD, List.getElem?_map, List.getD_eq_getElem?_getD]
      cases cs[k]? <;> simp
    rw [cst_step h1 (hw k (by omega)) hy]
    have h2 := psum_mono ls cs hk
    have h3 : psum ls cs (k + 1) = psum ls cs k + cs.getD k 0 * ls.getD k 0 := rfl
    rw [if_neg (by
      rintro ⟨a, b⟩
      have h4 : cs.getD k 0 ≤ (4611686018427387904 - psum ls cs k) / ls.getD k 0 := by
        rw [Nat.le_div_iff_mul_le a]
        omega
      omega)]
    rfl
/-- The cost of what was put: its bits. -/
theorem cost_put {ls : List Nat} {ws : List (Nat × Nat)} {cs : List Nat} {m : Nat} (hw : ∀ k, k < m → (ws.getD k (0, 0)).2 = ls.getD k 0) (hwl : ws.length = m) (hcl : cs.length = m) (hb : psum ls cs m ≤ 1000000000000000) (hz : ∀ k, k < m → 0 < cs.getD k 0 → 0 < ls.getD k 0) {e : Ending} {w w' : World} (h : CostPost ws (cs.map fun c => ((c : Nat) : Int)) e w w') :
    e = .returned (.tuple #[.int .i64 (psum ls cs m : Nat), .int .i64 0]) ∧ Grow w w' := by
  obtain ⟨v, er, rfl, hg, hc⟩ := h
  have hs := cst_psum ls ws cs m hw hb m (Nat.le_refl _)
  have hy : ∀ k, (cs.map fun c => ((c : Nat) : Int)).getD k 0 = ((cs.getD k 0 : Nat) : Int) := fun k => by
    rw [List.getD_eq_getElem?_getD, List.getElem?_map, List.getD_eq_getElem?_getD]
    cases cs[k]? <;> simp
  rcases hc with ⟨h1 | ⟨i, hi, h1⟩, _⟩ | ⟨_, h1⟩
  · rw [List.length_map] at h1; omega
  · exfalso
    rw [List.length_map] at hi
    unfold badY at h1
    rw [hy] at h1
    rcases h1 with h1 | ⟨h1, h2⟩
    · omega
    · rw [hw i (by omega)] at h2
      have := hz i (by omega) (by omega)
      omega
  · rw [List.length_map, hcl] at h1
    rcases h1 with ⟨h1, _⟩ | ⟨h1, rfl⟩
    · rw [hs] at h1; cases h1
    · rw [hs] at h1
      injection h1 with h1
      subst h1
      exact ⟨rfl, hg⟩
theorem fullK_sum {ls : List Nat} (h : fullK ls false = true) : sumK ls = 1048576 := by
  unfold fullK at h
  simpa using h
end Go.Proofs.Ytofalbbbnhnadaa
