/- volume: the joining, plain. -/
import Derived.Test.YtnjdhkaabpmahaaVsP
namespace Go.Proofs.Ytnjdhkaabpmahaa
open Go.RowKit
set_option linter.unusedVariables false
set_option linter.unusedSimpArgs false

/-- A number out of its bytes, the lowest first. -/
def leV : List Int → Nat
  | [] => 0
  | x :: r => x.toNat + 256 * leV r
theorem leV_lt : ∀ (xs : List Int), (∀ x ∈ xs, inKind .u8 x) → leV xs < 256 ^ xs.length
  | [], _ => by decide
  | x :: r, h => by
    have h1 := inKind_u8 (h x (List.mem_cons_self ..))
    have h2 := leV_lt r fun y hy => h y (List.mem_cons_of_mem _ hy)
    rw [List.length_cons, Nat.pow_succ]
    unfold leV
    omega
theorem leV_append : ∀ (xs ys : List Int), leV (xs ++ ys) = leV xs + 256 ^ xs.length * leV ys
  | [], ys => by simp [leV]
  | x :: r, ys => by
    have h := leV_append r ys
    rw [List.length_cons, Nat.pow_succ, Nat.mul_assoc, Nat.mul_left_comm]
    show x.toNat + 256 * leV (r ++ ys) = x.toNat + 256 * leV r + _
    rw [h, Nat.mul_add]
    omega
def magicN : List Int := [72, 86, 79, 76]
def numB (b : List Int) : Nat := leV ((b.drop 4).take 2)
def cntB (b : List Int) : Nat := leV ((b.drop 6).take 2)
def allB (b : List Int) : Nat := leV ((b.drop 8).take 8)
def sumB (b : List Int) : Nat := leV ((b.drop 16).take 4)
def ownB (b : List Int) : Nat := leV ((b.drop 20).take 4)
/-- What is wrong with a volume by itself. -/
def readE (b : List Int) : Nat :=
  if b.length < 24 then 10 else if b.take 4 ≠ magicN then 11 else if ownB b ≠ crcP (b.take 20) then 12
  else if cntB b < 1 ∨ 1024 < cntB b ∨ cntB b ≤ numB b ∨ 268435456 < allB b then 11 else 0
def agree (a b : List Int) : Prop := cntB b = cntB a ∧ allB b = allB a ∧ sumB b = sumB a
instance (a b : List Int) : Decidable (agree a b) := inferInstanceAs (Decidable (_ ∧ _ ∧ _))
/-- .. in its row, at its place. -/
def stepE (l : List (List Int)) (i : Nat) : Nat :=
  if readE (l.getD i []) ≠ 0 then readE (l.getD i []) else if ¬ agree (l.getD 0 []) (l.getD i []) then 11
  else if ∃ j, j < i ∧ numB (l.getD j []) = numB (l.getD i []) then 30 else 0
def scanF (l : List (List Int)) : Nat → Nat → Nat
  | 0, _ => 0
  | f + 1, i => if stepE l i ≠ 0 then stepE l i else scanF l f (i + 1)
def scanE (l : List (List Int)) : Nat := if l = [] then 2 else scanF l l.length 0
theorem scanF_at (l : List (List Int)) : ∀ (f i k : Nat), i ≤ k → k < i + f → (∀ j, i ≤ j → j < k → stepE l j = 0) → stepE l k ≠ 0 → scanF l f i = stepE l k
  | 0, i, k, h1, h2, _, _ => by omega
  | f + 1, i, k, h1, h2, h3, h4 => by
    unfold scanF
    by_cases hik : i = k
    · subst hik; rw [if_pos h4]
    · rw [if_neg (by rw [h3 i (Nat.le_refl _) (by omega)]; simp)]
      exact scanF_at l f (i + 1) k (by omega) (by omega) (fun j hj => h3 j (by omega)) h4
theorem scanF_end (l : List (List Int)) : ∀ (f i : Nat), (∀ j, i ≤ j → j < i + f → stepE l j = 0) → scanF l f i = 0
  | 0, i, _ => rfl
  | f + 1, i, h => by
    unfold scanF
    rw [if_neg (by rw [h i (Nat.le_refl _) (by omega)]; simp)]
    exact scanF_end l f (i + 1) fun j hj hj2 => h j (by omega) (by omega)
theorem scanF_zero (l : List (List Int)) : ∀ (f i : Nat), scanF l f i = 0 → ∀ j, i ≤ j → j < i + f → stepE l j = 0
  | 0, i, _, j, h1, h2 => by omega
  | f + 1, i, h, j, h1, h2 => by
    unfold scanF at h
    split at h
    · rename_i h9; exact absurd h h9
    · rename_i h9
      by_cases hij : i = j
      · subst hij; exact Classical.not_not.1 h9
      · exact scanF_zero l f (i + 1) h j (by omega) (by omega)
theorem scanE_nil : scanE [] = 2 := rfl
theorem scanE_at {l : List (List Int)} {k : Nat} (hk : k < l.length) (h : ∀ j, j < k → stepE l j = 0) (h4 : stepE l k ≠ 0) : scanE l = stepE l k := by
  unfold scanE
  rw [if_neg (by intro e; subst e; simp at hk)]
  exact scanF_at l _ 0 k (Nat.zero_le _) (by omega) (fun j _ => h j) h4
theorem scanE_end {l : List (List Int)} (hl : l ≠ []) (h : ∀ j, j < l.length → stepE l j = 0) : scanE l = 0 := by
  unfold scanE
  rw [if_neg hl]
  exact scanF_end l _ 0 fun j _ hj => h j (by omega)
/-- What is right where nothing is wrong. -/
structure Good (l : List (List Int)) : Prop where
  ne : l ≠ []
  each : ∀ j, j < l.length → readE (l.getD j []) = 0 ∧ agree (l.getD 0 []) (l.getD j [])
  apart : ∀ i j, i < j → j < l.length → numB (l.getD i []) ≠ numB (l.getD j [])
theorem stepE_zero {l : List (List Int)} {i : Nat} (h : stepE l i = 0) : readE (l.getD i []) = 0 ∧ agree (l.getD 0 []) (l.getD i []) ∧ ∀ j, j < i → numB (l.getD j []) ≠ numB (l.getD i []) := by
  unfold stepE at h
  split at h
  · rename_i h1; exact absurd h h1
  · rename_i h1
    split at h
    · cases h
    · rename_i h2
      split at h
      · cases h
      · rename_i h3
        exact ⟨Classical.not_not.1 h1, Classical.not_not.1 h2, fun j hj e => h3 ⟨j, hj, e⟩⟩
theorem good_of {l : List (List Int)} (h : scanE l = 0) : Good l := by
  unfold scanE at h
  split at h
  · cases h
  · rename_i hl
    have h1 := fun j (hj : j < l.length) => stepE_zero (scanF_zero l _ 0 h j (Nat.zero_le _) (by omega))
    exact ⟨hl, fun j hj => ⟨(h1 j hj).1, (h1 j hj).2.1⟩, fun i j hij hj => (h1 j hj).2.2 i hij⟩
theorem readE_zero {b : List Int} (h : readE b = 0) : 24 ≤ b.length ∧ b.take 4 = magicN ∧ 1 ≤ cntB b ∧ cntB b ≤ 1024 ∧ numB b < cntB b ∧ allB b ≤ 268435456 := by
  unfold readE at h
  split at h
  · cases h
  split at h
  · cases h
  split at h
  · cases h
  split at h
  · cases h
  rename_i h1 h2 h3 h4
  exact ⟨by omega, Classical.not_not.1 h2, by omega, by omega, by omega, by omega⟩
/-- Of how many volumes they are. -/
def cntL (l : List (List Int)) : Nat := cntB (l.getD 0 [])
def hasN (l : List (List Int)) (k : Nat) : Bool := l.any fun b => numB b == k
def shareN (l : List (List Int)) (k : Nat) : List Int := ((l.find? fun b => numB b == k).getD []).drop 24
def cutOK (S : List (List Int)) : Prop := S.length = 1 ∨ ((∀ i, i < S.length - 1 → (S.getD i []).length = (S.getD 0 []).length) ∧ 0 < (S.getD 0 []).length ∧ 0 < (S.getD (S.length - 1) []).length ∧ (S.getD (S.length - 1) []).length ≤ (S.getD 0 []).length)
noncomputable instance (S : List (List Int)) : Decidable (cutOK S) := Classical.propDecidable _
/-- What is left to tell of shares in their order. -/
noncomputable def tellP (h : List Int) (S : List (List Int)) : Nat × List Int :=
  if ¬ cutOK S then (11, []) else if S.flatten.length ≠ allB h then (11, []) else if crcP S.flatten ≠ sumB h then (12, []) else (0, S.flatten)
noncomputable def joinP (l : List (List Int)) : Nat × List Int :=
  if scanE l ≠ 0 then (scanE l, []) else if ∃ k, k < cntL l ∧ hasN l k = false then (31, [])
  else tellP (l.getD 0 []) ((List.range (cntL l)).map (shareN l))
def lacksP (l : List (List Int)) : Nat × List Nat :=
  if scanE l ≠ 0 then (scanE l, []) else (0, (List.range (cntL l)).filter fun k => !hasN l k)
theorem mem_at {l : List (List Int)} {b : List Int} : b ∈ l ↔ ∃ j, j < l.length ∧ l.getD j [] = b := by
  rw [List.mem_iff_getElem?]
  refine ⟨fun ⟨j, hj⟩ => ⟨j, (List.getElem?_eq_some_iff.1 hj).1, by rw [List.getD_eq_getElem?_getD, hj]; rfl⟩, fun ⟨j, hj, e⟩ => ⟨j, ?_⟩⟩
  rw [← e, List.getD_eq_getElem?_getD, List.getElem?_eq_getElem hj]; rfl
theorem hasN_iff {l : List (List Int)} {k : Nat} : hasN l k = true ↔ ∃ j, j < l.length ∧ numB (l.getD j []) = k := by
  unfold hasN
  rw [List.any_eq_true]
  constructor
  · rintro ⟨b, hb, he⟩
    obtain ⟨j, hj, rfl⟩ := mem_at.1 hb
    exact ⟨j, hj, by simpa using he⟩
  · rintro ⟨j, hj, he⟩
    exact ⟨_, mem_at.2 ⟨j, hj, rfl⟩, by simpa using he⟩
theorem shareN_at {l : List (List Int)} (G : Good l) {j : Nat} (hj : j < l.length) : shareN l (numB (l.getD j [])) = (l.getD j []).drop 24 := by
  unfold shareN
  cases hf : l.find? fun b => numB b == numB (l.getD j []) with
  | none =>
    have := List.find?_eq_none.1 hf _ (mem_at.2 ⟨j, hj, rfl⟩)
    simp at this
  | some b =>
    have h1 := List.find?_some hf
    obtain ⟨i, hi, rfl⟩ := mem_at.1 (List.mem_of_find?_eq_some hf)
    have h1 : numB (l.getD i []) = numB (l.getD j []) := by simpa using h1
    have : i = j := by
      rcases Nat.lt_trichotomy i j with h | h | h
      · exact absurd h1 (G.apart i j h hj)
      · exact h
      · exact absurd h1.symm (G.apart j i h hi)
    subst this
    rfl
theorem pigeon : ∀ (a b : List Nat), a.Nodup → (∀ x ∈ a, x ∈ b) → a.length ≤ b.length
  | [], _, _, _ => Nat.zero_le _
  | x :: a, b, h, hs => by
    have hx := hs x (List.mem_cons_self ..)
    have h1 := pigeon a (b.erase x) (List.nodup_cons.1 h).2 fun y hy => by
      have hne : y ≠ x := fun e => (List.nodup_cons.1 h).1 (e ▸ hy)
      exact (List.mem_erase_of_ne hne).2 (hs y (List.mem_cons_of_mem _ hy))
    have h2 := List.length_erase_of_mem hx
    have h3 : 0 < b.length := List.length_pos_of_mem hx
    rw [List.length_cons]
    omega
/-- The rows in the order of their numbers. -/
structure Ordered (l l' : List (List Int)) : Prop where
  perm : l'.Perm l
  up : l'.Pairwise fun a b => numB a < numB b
theorem Ordered.len {l l' : List (List Int)} (h : Ordered l l') : l'.length = l.length := h.perm.length_eq
theorem pair_get {l : List (List Int)} (h : l.Pairwise fun a b => numB a < numB b) (i j : Nat) (hij : i < j) (hj : j < l.length) : numB (l.getD i []) < numB (l.getD j []) := by
  have := List.pairwise_iff_getElem.1 h i j (by omega) hj hij
  rw [List.getD_eq_getElem?_getD, List.getD_eq_getElem?_getD, List.getElem?_eq_getElem hj, List.getElem?_eq_getElem (by omega : i < l.length)]
  exact this
theorem Ordered.mem {l l' : List (List Int)} (h : Ordered l l') (G : Good l) {i : Nat} (hi : i < l'.length) : readE (l'.getD i []) = 0 ∧ agree (l.getD 0 []) (l'.getD i []) ∧ numB (l'.getD i []) < cntL l := by
  obtain ⟨j, hj, e⟩ := mem_at.1 (h.perm.mem_iff.1 (mem_at.2 ⟨i, hi, rfl⟩))
  rw [← e]
  have h1 := G.each j hj
  have h2 := (readE_zero h1.1).2.2.2.2.1
  have h3 := h1.2.1
  exact ⟨h1.1, h1.2, by unfold cntL; omega⟩
theorem Ordered.ge {l l' : List (List Int)} (h : Ordered l l') : ∀ i, i < l'.length → i ≤ numB (l'.getD i [])
  | 0, _ => Nat.zero_le _
  | i + 1, hi => by
    have h1 := h.ge i (by omega)
    have h2 := pair_get h.up i (i + 1) (by omega) hi
    omega
theorem Ordered.gap {l l' : List (List Int)} (h : Ordered l l') (G : Good l) : ∀ k i, i + k + 1 = l'.length → numB (l'.getD i []) + k < cntL l
  | 0, i, hi => (h.mem G (by omega)).2.2
  | k + 1, i, hi => by
    have h1 := h.gap G k (i + 1) (by omega)
    have h2 := pair_get h.up i (i + 1) (by omega) (by omega)
    omega
theorem Ordered.le {l l' : List (List Int)} (h : Ordered l l') (G : Good l) : l.length ≤ cntL l := by
  have hl : 0 < l'.length := by rw [h.len]; exact List.length_pos_iff.2 G.ne
  have h1 := h.gap G (l'.length - 1) 0 (by omega)
  rw [← h.len]
  omega
theorem Ordered.all {l l' : List (List Int)} (h : Ordered l l') (G : Good l) (hc : l.length = cntL l) {i : Nat} (hi : i < l'.length) : numB (l'.getD i []) = i := by
  have h1 := h.gap G (l'.length - 1 - i) i (by omega)
  have h2 := h.ge i hi
  have := h.len
  omega
theorem Ordered.lacks {l l' : List (List Int)} (h : Ordered l l') (G : Good l) : (∃ k, k < cntL l ∧ hasN l k = false) ↔ l.length < cntL l := by
  constructor
  · rintro ⟨k, hk, hf⟩
    refine Classical.byContradiction fun hn => ?_
    have hc : l.length = cntL l := Nat.le_antisymm (h.le G) (by omega)
    have hkl : k < l'.length := by rw [h.len]; omega
    have h1 := h.all G hc hkl
    obtain ⟨j, hj, e⟩ := mem_at.1 (h.perm.mem_iff.1 (mem_at.2 ⟨k, hkl, rfl⟩))
    rw [hasN_iff.2 ⟨j, hj, by rw [e, h1]⟩] at hf
    cases hf
  · intro hlt
    refine Classical.byContradiction fun hn => ?_
    have h1 := pigeon (List.range (cntL l)) (l.map numB) List.nodup_range fun x hx => by
      have hx := List.mem_range.1 hx
      have h2 : hasN l x = true := by
        cases h9 : hasN l x with
        | true => rfl
        | false => exact absurd ⟨x, hx, h9⟩ hn
      obtain ⟨j, hj, e⟩ := hasN_iff.1 h2
      exact List.mem_map.2 ⟨_, mem_at.2 ⟨j, hj, rfl⟩, e⟩
    rw [List.length_range, List.length_map] at h1
    omega
theorem Ordered.shares {l l' : List (List Int)} (h : Ordered l l') (G : Good l) (hc : l.length = cntL l) : l'.map (·.drop 24) = (List.range (cntL l)).map (shareN l) := by
  refine List.ext_getElem? fun i => ?_
  rw [List.getElem?_map, List.getElem?_map]
  by_cases hi : i < cntL l
  · have hil : i < l'.length := by rw [h.len]; omega
    rw [List.getElem?_range hi, List.getElem?_eq_getElem hil]
    obtain ⟨j, hj, e⟩ := mem_at.1 (h.perm.mem_iff.1 (mem_at.2 ⟨i, hil, rfl⟩))
    have h1 := h.all G hc hil
    have h2 := shareN_at G hj
    rw [e, h1] at h2
    have h3 : l'.getD i [] = l'[i] := by rw [List.getD_eq_getElem?_getD, List.getElem?_eq_getElem hil]; rfl
    rw [h3] at h2
    simp [h2]
  · rw [List.getElem?_eq_none (by rw [h.len]; omega), List.getElem?_eq_none (by rw [List.length_range]; omega)]
    rfl
/-- What a join comes to, by the rows in their order. -/
theorem Ordered.join {l l' : List (List Int)} (h : Ordered l l') (hs : scanE l = 0) : joinP l = if l.length < cntL l then (31, []) else tellP (l.getD 0 []) (l'.map (·.drop 24)) := by
  have G := good_of hs
  unfold joinP
  rw [if_neg (by rw [hs]; simp)]
  by_cases hlt : l.length < cntL l
  · rw [if_pos hlt, if_pos ((h.lacks G).2 hlt)]
  · rw [if_neg hlt, if_neg (fun h9 => hlt ((h.lacks G).1 h9)), h.shares G (Nat.le_antisymm (h.le G) (by omega))]
theorem joinP_bad {l : List (List Int)} (hs : scanE l ≠ 0) : joinP l = (scanE l, []) := by unfold joinP; rw [if_pos hs]
theorem lacksP_bad {l : List (List Int)} (hs : scanE l ≠ 0) : lacksP l = (scanE l, []) := by unfold lacksP; rw [if_pos hs]
theorem lacksP_good {l : List (List Int)} (hs : scanE l = 0) : lacksP l = (0, (List.range (cntL l)).filter fun k => !hasN l k) := by unfold lacksP; rw [if_neg (by rw [hs]; simp)]
theorem Ordered.has {l l' : List (List Int)} (h : Ordered l l') (k : Nat) : hasN l' k = hasN l k := by
  rw [Bool.eq_iff_iff]
  unfold hasN
  rw [List.any_eq_true, List.any_eq_true]
  exact ⟨fun ⟨b, hb, e⟩ => ⟨b, h.perm.mem_iff.1 hb, e⟩, fun ⟨b, hb, e⟩ => ⟨b, h.perm.mem_iff.2 hb, e⟩⟩
end Go.Proofs.Ytnjdhkaabpmahaa
