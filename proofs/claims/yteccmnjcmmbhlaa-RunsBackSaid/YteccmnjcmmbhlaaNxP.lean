/- The column's next rows: the plain law of a counting sort. No program stands here. -/
import Derived.Test.YteccmnjcmmbhlaaNums
namespace Go.Proofs.Yteccmnjcmmbhlaa
set_option linter.unusedVariables false
set_option linter.unusedSimpArgs false

def posL (c : Nat) : List Int → Nat → List Int
  | [], _ => []
  | x :: r, o => if x = (c : Int) then (o : Int) :: posL c r (o + 1) else posL c r (o + 1)
def nextL (xs : List Int) : List Int := (List.range 256).flatMap fun c => posL c xs 0
def cntE (xs : List Int) (c : Nat) : Nat := xs.countP (fun x => decide (x = (c : Int)))
def cntL (xs : List Int) (c : Nat) : Nat := xs.countP (fun x => decide (x < (c : Int)))

theorem posL_len (c : Nat) : ∀ (xs : List Int) (o : Nat), (posL c xs o).length = cntE xs c
  | [], _ => rfl
  | x :: r, o => by
    have := posL_len c r (o + 1)
    by_cases h : x = (c : Int)
    · simp [posL, cntE, h] at this ⊢; exact this
    · simp [posL, cntE, h] at this ⊢; exact this
theorem posL_get (c : Nat) : ∀ (xs : List Int) (o i : Nat), i < xs.length → xs.getD i 0 = (c : Int) → (posL c xs o)[cntE (xs.take i) c]? = some ((o + i : Nat) : Int)
  | [], _, _, h, _ => by simp at h
  | x :: r, o, 0, _, h => by
    have h : x = (c : Int) := h
    simp [posL, cntE, h]
  | x :: r, o, i + 1, hl, h => by
    have ih := posL_get c r (o + 1) i (by simpa using hl) (by simpa using h)
    by_cases hx : x = (c : Int)
    · simp [posL, cntE, hx] at ih ⊢; rw [ih]; congr 1; omega
    · simp [posL, cntE, hx] at ih ⊢; rw [ih]; congr 1; omega
theorem posL_in (c : Nat) : ∀ (xs : List Int) (o : Nat) (y : Int), y ∈ posL c xs o → (o : Int) ≤ y ∧ y < ((o + xs.length : Nat) : Int)
  | [], _, y, h => by simp [posL] at h
  | x :: r, o, y, h => by
    by_cases hx : x = (c : Int)
    · simp only [posL, hx, if_true, List.mem_cons] at h
      rcases h with rfl | h
      · simp; omega
      · have := posL_in c r (o + 1) y h; simp at this ⊢; omega
    · simp only [posL, hx, if_false] at h
      have := posL_in c r (o + 1) y h; simp at this ⊢; omega
theorem flat_len (xs : List Int) : ∀ N : Nat, (∀ x ∈ xs, 0 ≤ x) → ((List.range N).flatMap fun c => posL c xs 0).length = cntL xs N
  | 0, h => by
    symm
    simp only [List.range_zero, List.flatMap_nil, List.length_nil]
    unfold cntL
    rw [List.countP_eq_zero]
    intro x hx
    have := h x hx
    simp
    omega
  | N + 1, h => by
    rw [List.range_succ, List.flatMap_append, List.length_append, flat_len xs N h]
    simp only [List.flatMap_cons, List.flatMap_nil, List.append_nil, posL_len]
    clear h
    induction xs with
    | nil => rfl
    | cons x r ih =>
      simp only [cntL, cntE, List.countP_cons] at ih ⊢
      by_cases h1 : x < (N : Int)
      · have h2 : ¬ x = (N : Int) := by omega
        have h3 : x < (N : Int) + 1 := by omega
        simp [h1, h2, h3] at ih ⊢
        omega
      · by_cases h2 : x = (N : Int)
        · have h3 : (N : Int) < (N : Int) + 1 := by omega
          simp [h2, h3] at ih ⊢
          omega
        · have h3 : ¬ x < ((N + 1 : Nat) : Int) := by omega
          have h4 : ¬ x < (N : Int) + 1 := by omega
          simp [h1, h2, h3, h4] at ih ⊢
          omega
theorem cntL_succ (xs : List Int) (h : ∀ x ∈ xs, 0 ≤ x) (N : Nat) : cntL xs (N + 1) = cntL xs N + cntE xs N := by
  have h1 := flat_len xs (N + 1) h
  rw [List.range_succ, List.flatMap_append, List.length_append, flat_len xs N h] at h1
  simp only [List.flatMap_cons, List.flatMap_nil, List.append_nil, posL_len] at h1
  exact h1.symm
theorem cntL_zero (xs : List Int) (h : ∀ x ∈ xs, 0 ≤ x) : cntL xs 0 = 0 := (flat_len xs 0 h).symm
theorem cntL_top (xs : List Int) (h : ∀ x ∈ xs, x < 256) : cntL xs 256 = xs.length := by
  unfold cntL
  rw [List.countP_eq_length]
  intro x hx
  have := h x hx
  simp
  omega
theorem nextL_len (xs : List Int) (h : ∀ x ∈ xs, 0 ≤ x ∧ x < 256) : (nextL xs).length = xs.length := by
  rw [nextL, flat_len xs 256 fun x hx => (h x hx).1, cntL_top xs fun x hx => (h x hx).2]
theorem nextL_in (xs : List Int) (y : Int) (h : y ∈ nextL xs) : 0 ≤ y ∧ y < xs.length := by
  obtain ⟨c, _, hc⟩ := List.mem_flatMap.1 h
  have := posL_in c xs 0 y hc
  omega
theorem flat_get (xs : List Int) (h : ∀ x ∈ xs, 0 ≤ x) (c t : Nat) (ht : t < cntE xs c) : ∀ N : Nat, c < N → ((List.range N).flatMap fun c => posL c xs 0)[cntL xs c + t]? = (posL c xs 0)[t]?
  | 0, hc => by omega
  | N + 1, hc => by
    rw [List.range_succ, List.flatMap_append]
    by_cases hcN : c = N
    · subst hcN
      rw [List.getElem?_append_right (by rw [flat_len xs c h]; omega), flat_len xs c h]
      simp
    · rw [List.getElem?_append_left]
      · exact flat_get xs h c t ht N (by omega)
      · rw [flat_len xs N h]
        have h1 := cntL_succ xs h c
        have h2 : ∀ M, c + 1 ≤ M → cntL xs (c + 1) ≤ cntL xs M := by
          intro M hM
          induction M with
          | zero => omega
          | succ M ih =>
            have h3 := cntL_succ xs h M
            rcases Nat.lt_or_ge c M with h4 | h4
            · have := ih (by omega); omega
            · have : c + 1 = M + 1 := by omega
              rw [this]; exact Nat.le_refl _
        have := h2 N (by omega)
        omega
theorem cntE_lt (xs : List Int) (i : Nat) (hi : i < xs.length) (c : Nat) (hx : xs.getD i 0 = (c : Int)) : cntE (xs.take i) c < cntE xs c := by
  have h1 := posL_get c xs 0 i hi hx
  have h2 := (List.getElem?_eq_some_iff.1 h1).1
  rwa [posL_len] at h2
theorem nextL_get (xs : List Int) (h : ∀ x ∈ xs, 0 ≤ x ∧ x < 256) (i : Nat) (hi : i < xs.length) (c : Nat) (hx : xs.getD i 0 = (c : Int)) (hc : c < 256) : (nextL xs)[cntL xs c + cntE (xs.take i) c]? = some ((i : Nat) : Int) := by
  rw [nextL, flat_get xs (fun x hx => (h x hx).1) c _ (cntE_lt xs i hi c hx) 256 hc, posL_get c xs 0 i hi hx, Nat.zero_add]
theorem cover (xs : List Int) (h : ∀ x ∈ xs, 0 ≤ x ∧ x < 256) (k : Nat) (hk : k < xs.length) : ∃ c, c < 256 ∧ cntL xs c ≤ k ∧ k < cntL xs c + cntE xs c := by
  have h0 : ∀ x ∈ xs, 0 ≤ x := fun x hx => (h x hx).1
  have key : ∀ N, k < cntL xs N → ∃ c, c < N ∧ cntL xs c ≤ k ∧ k < cntL xs c + cntE xs c := by
    intro N
    induction N with
    | zero => intro hN; rw [cntL_zero xs h0] at hN; omega
    | succ N ih =>
      intro hN
      rcases Nat.lt_or_ge k (cntL xs N) with h1 | h1
      · obtain ⟨c, hc, h2⟩ := ih h1
        exact ⟨c, by omega, h2⟩
      · rw [cntL_succ xs h0] at hN
        exact ⟨N, by omega, h1, hN⟩
  exact key 256 (by rw [cntL_top xs fun x hx => (h x hx).2]; exact hk)
theorem cntE_take_succ (xs : List Int) (i : Nat) (hi : i < xs.length) (c : Nat) : cntE (xs.take (i + 1)) c = cntE (xs.take i) c + if xs.getD i 0 = (c : Int) then 1 else 0 := by
  have e : xs.take (i + 1) = xs.take i ++ [xs.getD i 0] := by
    rw [List.take_add_one]
    simp [List.getD_eq_getElem?_getD, hi]
  rw [e, cntE, List.countP_append]
  simp only [List.countP_cons, List.countP_nil, Nat.zero_add, cntE, decide_eq_true_eq]
end Go.Proofs.Yteccmnjcmmbhlaa
