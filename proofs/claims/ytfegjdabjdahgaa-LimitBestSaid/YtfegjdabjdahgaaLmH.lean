/- Of LimitBest: plain. -/
import Derived.Test.YtfegjdabjdahgaaLmM
namespace Go.Proofs.Ytfegjdabjdahgaa
open Go.RowKit
set_option linter.unusedVariables false
set_option linter.unusedSimpArgs false

def comeN (xs : List Int) (L : Nat) (i : Nat) : Nat := pS (fun j => if 0 < lenN xs L j then 1 else 0) i
def sumN (xs : List Int) (L : Nat) (i : Nat) : Nat := pS (fun j => if 0 < lenN xs L j then 2 ^ (20 - lenN xs L j) else 0) i
def fullN (ys : List Int) (i : Nat) : Nat := pS (fun j => if 0 < ys.getD j 0 then 2 ^ (20 - (ys.getD j 0).toNat) else 0) i
theorem pow20 (k : Nat) : 2 ^ (20 - k) ≤ 1048576 := Nat.pow_le_pow_right (by decide) (show 20 - k ≤ 20 by omega) (n := 2)
theorem pS_bd {f : Nat → Nat} {c : Nat} (h : ∀ j, f j ≤ c) : ∀ i, pS f i ≤ i * c
  | 0 => by simp [pS]
  | i + 1 => by
    have h1 := pS_bd h i
    have h2 := h i
    simp only [pS]
    rw [Nat.succ_mul]
    omega
theorem comeN_le (xs : List Int) (L i : Nat) : comeN xs L i ≤ i * 1 := pS_bd (fun j => by split <;> omega) i
theorem sumN_le (xs : List Int) (L i : Nat) : sumN xs L i ≤ i * 1048576 := pS_bd (fun j => by
  split
  · exact pow20 _
  · omega) i
theorem fullN_le (ys : List Int) (i : Nat) : fullN ys i ≤ i * 1048576 := pS_bd (fun j => by
  split
  · exact pow20 _
  · omega) i
theorem comeN_all {xs : List Int} {L : Nat} (hL : 1 ≤ L) (hn : (baseP xs).length ≤ 2 ^ L) : comeN xs L xs.length = (baseP xs).length := by
  rw [base_len_pS]
  exact pS_congr _ fun j hj => by
    have := (lenN_rng hL hn hj).2
    by_cases h : 0 < xs.getD j 0
    · rw [if_pos h, if_pos (this.2 h)]
    · rw [if_neg h, if_neg (fun h9 => h (this.1 h9))]
theorem comeN_pos {xs : List Int} {L i : Nat} (h : 0 < lenN xs L i) : comeN xs L (i + 1) = comeN xs L i + 1 := by
  simp only [comeN, pS]; rw [if_pos h]
theorem comeN_zero {xs : List Int} {L i : Nat} (h : ¬ 0 < lenN xs L i) : comeN xs L (i + 1) = comeN xs L i := by
  simp only [comeN, pS]; rw [if_neg h]; rfl
theorem sumN_pos {xs : List Int} {L i : Nat} (h : 0 < lenN xs L i) : sumN xs L (i + 1) = sumN xs L i + 2 ^ (20 - lenN xs L i) := by
  simp only [sumN, pS]; rw [if_pos h]
theorem sumN_zero {xs : List Int} {L i : Nat} (h : ¬ 0 < lenN xs L i) : sumN xs L (i + 1) = sumN xs L i := by
  simp only [sumN, pS]; rw [if_neg h]; rfl
theorem fullN_pos {ys : List Int} {i : Nat} (h : 0 < ys.getD i 0) : fullN ys (i + 1) = fullN ys i + 2 ^ (20 - (ys.getD i 0).toNat) := by
  simp only [fullN, pS]; rw [if_pos h]
theorem fullN_zero {ys : List Int} {i : Nat} (h : ¬ 0 < ys.getD i 0) : fullN ys (i + 1) = fullN ys i := by
  simp only [fullN, pS]; rw [if_neg h]; rfl
/-- Others cost no less. -/
theorem other_cost {xs ys : List Int} {L : Nat} (hL : 1 ≤ L) (hL2 : L ≤ 20) (hn : (baseP xs).length ≤ 2 ^ L) (hk : 2 ≤ (baseP xs).length) (hl : ys.length = xs.length) (hx : ∀ x ∈ xs, 0 ≤ x) (hs : sumF (·.1) ((baseP xs).map coinOf) ≤ 1099511627776)
    (hy : ∀ j, j < xs.length → 0 ≤ ys.getD j 0 ∧ ys.getD j 0 ≤ (L : Int) ∧ (ys.getD j 0 = 0 → ¬ 0 < xs.getD j 0)) :
    ∃ q : Nat, costR xs ys = ((q : Int), 0) ∧ (fullN ys xs.length ≤ 1048576 → costN xs (lenN xs L) ≤ q) := by
  have hyn : ∀ y ∈ ys, 0 ≤ y := fun y hy9 => by
    obtain ⟨j, hj, e⟩ := List.getElem_of_mem hy9
    have h1 := (hy j (by omega)).1
    rw [List.getD_eq_getElem?_getD, List.getElem?_eq_getElem hj] at h1
    simp only [Option.getD_some] at h1
    omega
  have hb := costN_bd (xs := xs) (o := fun j => (ys.getD j 0).toNat) hs fun j hj => by have := hy j hj; omega
  refine ⟨_, costR_ok hl.symm hx hyn (by omega), fun hf => best_cost hL hn hk _ (fun j hj hpos => ?_) ?_⟩
  · have := hy j hj
    have h9 : ys.getD j 0 ≠ 0 := fun e => this.2.2 e hpos
    omega
  · have h1 : pS (fun j => (if 0 < xs.getD j 0 then 2 ^ (L - (ys.getD j 0).toNat) else 0) * 2 ^ (20 - L)) xs.length ≤ fullN ys xs.length := pS_le _ fun j hj => by
      have h9 := hy j hj
      by_cases h : 0 < xs.getD j 0
      · have h8 : ys.getD j 0 ≠ 0 := fun e => h9.2.2 e h
        rw [if_pos h, if_pos (by omega), ← Nat.pow_add]
        exact Nat.le_of_eq (by congr 1; omega)
      · rw [if_neg h, Nat.zero_mul]; exact Nat.zero_le _
    rw [pS_mul] at h1
    have h2 : 2 ^ L * 2 ^ (20 - L) = 1048576 := by rw [← Nat.pow_add, show L + (20 - L) = 20 by omega]
    exact Nat.le_of_mul_le_mul_right (Nat.le_trans h1 (by rw [h2]; exact hf)) (Nat.two_pow_pos _)
theorem base_lit : baseP [1, 1, 2, 4] = [(1, 0), (1, 1), (2, 2), (4, 3)] := by
  simp [baseP, comers, insB]
theorem lim_lit : limP [1, 1, 2, 4] 3 = ([3, 3, 2, 1], 0) := by
  have hw : wrongP [1, 1, 2, 4] 3 = 0 := by
    unfold wrongP
    simp [sumPos]
  have hb : (baseP [1, 1, 2, 4]).length = 4 := by rw [base_lit]; rfl
  unfold limP
  rw [hw, hb]
  have h1 : lensP [1, 1, 2, 4] 3 = [3, 3, 2, 1] := by
    unfold lensP
    rw [hb, base_lit]
    simp [List.range_succ, lenP, rounds, coinOf, pairsP, mergeBy_cons, mergeBy_nil, mergeBy_nil2, sumF, cntX]
  simp [h1]
end Go.Proofs.Ytfegjdabjdahgaa
