/- runs.Front, runs.Unfront: the plain functions and laws. -/
import Derived.Test.YteccmnjcmmbhlaaNums
import Derived.Lib.SlicesCompact
namespace Go.Proofs.Yteccmnjcmmbhlaa
open Go.RowKit
set_option linter.unusedVariables false

theorem lt_ext : ∀ (l l' : List Int), l.Pairwise (fun a b => a < b) → l'.Pairwise (fun a b => a < b) → (∀ x, x ∈ l ↔ x ∈ l') → l = l'
  | [], [], _, _, _ => rfl
  | [], y :: r, _, _, h => by have := (h y).2 (List.mem_cons_self ..); cases this
  | x :: r, [], _, _, h => by have := (h x).1 (List.mem_cons_self ..); cases this
  | x :: r, y :: s, h1, h2, h => by
    rw [List.pairwise_cons] at h1 h2
    have hxy : x = y := by
      have a1 : x ∈ y :: s := (h x).1 (List.mem_cons_self ..)
      have a2 : y ∈ x :: r := (h y).2 (List.mem_cons_self ..)
      rcases List.mem_cons.1 a1 with e | e
      · exact e
      · rcases List.mem_cons.1 a2 with e2 | e2
        · exact e2.symm
        · have := h2.1 x e
          have := h1.1 y e2
          omega
    subst hxy
    congr 1
    refine lt_ext r s h1.2 h2.2 fun z => ?_
    constructor
    · intro hz
      rcases List.mem_cons.1 ((h z).1 (List.mem_cons_of_mem _ hz)) with e | e
      · have := h1.1 z hz
        omega
      · exact e
    · intro hz
      rcases List.mem_cons.1 ((h z).2 (List.mem_cons_of_mem _ hz)) with e | e
      · have := h2.1 z hz
        omega
      · exact e
/-- The bytes that come, rising. -/
def usedP (b : List Int) : List Int := ((List.range 256).map (fun c : Nat => (c : Int))).filter (fun c => decide (c ∈ b))
theorem usedP_lt (b : List Int) : (usedP b).Pairwise (fun x y => x < y) := by
  refine List.Pairwise.filter _ ?_
  rw [List.pairwise_map]
  exact List.Pairwise.imp (fun h => by omega) List.pairwise_lt_range
theorem mem_usedP {b : List Int} (hb : ∀ x ∈ b, inKind .u8 x) (x : Int) : x ∈ usedP b ↔ x ∈ b := by
  unfold usedP
  rw [List.mem_filter, decide_eq_true_iff]
  refine ⟨fun h => h.2, fun h => ⟨?_, h⟩⟩
  have := inKind_u8 (hb x h)
  rw [List.mem_map]
  exact ⟨x.toNat, List.mem_range.2 (by omega), by omega⟩
theorem usedP_in {b : List Int} : ∀ x ∈ usedP b, inKind .u8 x := by
  intro x hx
  unfold usedP at hx
  rw [List.mem_filter, List.mem_map] at hx
  obtain ⟨⟨c, hc, rfl⟩, _⟩ := hx
  rw [List.mem_range] at hc
  exact mk_u8 (by omega) (by omega)
theorem usedP_len (b : List Int) : (usedP b).length ≤ 256 := by
  unfold usedP
  refine Nat.le_trans (List.length_filter_le _ _) ?_
  simp
/-- Sorted and compact is 'usedP'. -/
theorem compact_sorted {ys : List Int} (hs : ys.Pairwise (fun a b => a ≤ b)) : (Lib.compact ys).Pairwise (fun a b => a < b) ∧ ∀ x, x ∈ Lib.compact ys ↔ x ∈ ys := by
  have hg : ∀ i, i < ys.length → ys.toArray[i]! = ys.getD i 0 := fun i hi => by
    rw [getElem!_pos ys.toArray i (by simpa using hi)]
    simp [List.getD_eq_getElem?_getD, hi]
  have hle : ∀ i j, i ≤ j → j < ys.length → ys.getD i 0 ≤ ys.getD j 0 := fun i j hij hj => by
    rcases Nat.eq_or_lt_of_le hij with rfl | h
    · exact Int.le_refl _
    · have := List.pairwise_iff_getElem.1 hs i j (by omega) hj h
      simpa [List.getD_eq_getElem?_getD, hj, show i < ys.length by omega] using this
  refine ⟨?_, fun x => ?_⟩
  · unfold Lib.compact Lib.compactUpTo
    rw [List.pairwise_map]
    refine List.Pairwise.imp_of_mem ?_ (List.Pairwise.filter _ List.pairwise_lt_range)
    intro i j hi hj hij
    rw [List.mem_filter, List.mem_range] at hi hj
    have hk := hj.2
    unfold Lib.keeps at hk
    simp only [decide_eq_true_eq] at hk
    rcases hk with hk | hk
    · omega
    · rw [hg j hj.1, hg (j - 1) (by omega)] at hk
      rw [hg i hi.1, hg j hj.1]
      have h1 := hle i (j - 1) (by omega) (by omega)
      have h2 := hle (j - 1) j (by omega) hj.1
      omega
  · unfold Lib.compact Lib.compactUpTo
    rw [List.mem_map]
    constructor
    · rintro ⟨i, hi, rfl⟩
      rw [List.mem_filter, List.mem_range] at hi
      rw [hg i hi.1, List.getD_eq_getElem?_getD, List.getElem?_eq_getElem hi.1]
      exact List.getElem_mem hi.1
    · intro hx
      obtain ⟨i, hi, he⟩ : ∃ i, ∃ (h : i < ys.length), ys.getD i 0 = x := by
        obtain ⟨i, hi, he⟩ := List.getElem_of_mem hx
        exact ⟨i, hi, by simpa [List.getD_eq_getElem?_getD, hi] using he⟩
      induction i with
      | zero => exact ⟨0, List.mem_filter.2 ⟨List.mem_range.2 hi, by simp [Lib.keeps]⟩, by rw [hg 0 hi]; exact he⟩
      | succ i ih =>
        by_cases hq : ys.getD i 0 = x
        · exact ih (by omega) hq
        · refine ⟨i + 1, List.mem_filter.2 ⟨List.mem_range.2 hi, ?_⟩, by rw [hg _ hi]; exact he⟩
          unfold Lib.keeps
          rw [decide_eq_true_iff]
          refine .inr ?_
          rw [hg (i + 1) hi, Nat.add_sub_cancel, hg i (by omega), he]
          exact fun h => hq h.symm
theorem compact_usedP {b ys : List Int} (hb : ∀ x ∈ b, inKind .u8 x) (hp : ys.Perm b) (hs : ys.Pairwise (fun a b => a ≤ b)) : Lib.compact ys = usedP b := by
  have h := compact_sorted hs
  exact lt_ext _ _ h.1 (usedP_lt b) fun x => by rw [h.2 x, hp.mem_iff, mem_usedP hb]

/-! ### To the front -/
/-- The list with the one at a place ahead. -/
def takeP (l : List Int) (k : Nat) : List Int := l.getD k 0 :: (l.take k ++ l.drop (k + 1))
theorem takeP_len {l : List Int} {k : Nat} (hk : k < l.length) : (takeP l k).length = l.length := by
  unfold takeP
  rw [List.length_cons, List.length_append, List.length_take, List.length_drop]
  omega
theorem takeP_get {l : List Int} {k : Nat} (hk : k < l.length) (j : Nat) : (takeP l k).getD j 0 = if j = 0 then l.getD k 0 else if j ≤ k then l.getD (j - 1) 0 else l.getD j 0 := by
  unfold takeP
  rcases j with _ | j
  · simp
  · simp only [List.getD_cons_succ, Nat.add_sub_cancel]
    rw [if_neg (by omega), List.getD_eq_getElem?_getD, List.getElem?_append]
    rw [List.length_take, Nat.min_eq_left (by omega)]
    by_cases hj : j < k
    · rw [if_pos hj, if_pos (by omega), List.getElem?_take, if_pos hj, List.getD_eq_getElem?_getD]
    · rw [if_neg hj, if_neg (by omega), List.getElem?_drop, List.getD_eq_getElem?_getD, show k + 1 + (j - k) = j + 1 by omega]
theorem takeP_mem {l : List Int} {k : Nat} (hk : k < l.length) (x : Int) : x ∈ takeP l k ↔ x ∈ l := by
  unfold takeP
  have h1 : l = l.take k ++ (l.getD k 0 :: l.drop (k + 1)) := by
    have h2 : l.drop k = l.getD k 0 :: l.drop (k + 1) := by
      rw [List.drop_eq_getElem_cons hk]
      simp [List.getD_eq_getElem?_getD, hk]
    rw [← h2, List.take_append_drop]
  rw [List.mem_cons, List.mem_append]
  constructor
  · intro h
    rw [h1, List.mem_append, List.mem_cons]
    rcases h with h | h | h
    · exact .inr (.inl h)
    · exact .inl h
    · exact .inr (.inr h)
  · intro h
    rw [h1, List.mem_append, List.mem_cons] at h
    rcases h with h | h | h
    · exact .inr (.inl h)
    · exact .inl h
    · exact .inr (.inr h)
/-- Where a byte stands first. -/
def idxP (l : List Int) (x : Int) : Nat := l.findIdx (fun y => decide (y = x))
theorem idxP_lt {l : List Int} {x : Int} (h : x ∈ l) : idxP l x < l.length := List.findIdx_lt_length_of_exists ⟨x, h, by simp⟩
theorem idxP_get {l : List Int} {x : Int} (h : x ∈ l) : l.getD (idxP l x) 0 = x := by
  have h1 := List.findIdx_getElem (xs := l) (p := fun y => decide (y = x)) (w := idxP_lt h)
  rw [decide_eq_true_iff] at h1
  rw [List.getD_eq_getElem?_getD, List.getElem?_eq_getElem (idxP_lt h)]
  exact h1
theorem idxP_not {l : List Int} {x : Int} {j : Nat} (hj : j < idxP l x) : l.getD j 0 ≠ x := by
  have h1 := List.not_of_lt_findIdx (xs := l) (p := fun y => decide (y = x)) hj
  have hl : j < l.length := Nat.lt_of_lt_of_le hj List.findIdx_le_length
  rw [List.getD_eq_getElem?_getD, List.getElem?_eq_getElem hl]
  simpa using h1
/-- The places of a text. -/
def mtfP : List Int → List Int → List Int
  | _, [] => []
  | l, x :: r => (idxP l x : Int) :: mtfP (takeP l (idxP l x)) r
theorem mtfP_len : ∀ (b l : List Int), (mtfP l b).length = b.length
  | [], _ => rfl
  | x :: r, l => by rw [mtfP, List.length_cons, List.length_cons, mtfP_len r]
/-- The text of places: none where one is out of range. -/
def unfP : List Int → List Int → Option (List Int)
  | _, [] => some []
  | l, k :: r => if k < 0 ∨ (l.length : Int) ≤ k then none else (unfP (takeP l k.toNat) r).map (l.getD k.toNat 0 :: ·)
theorem unf_mtf : ∀ (b l : List Int), (∀ x ∈ b, x ∈ l) → unfP l (mtfP l b) = some b
  | [], _, _ => rfl
  | x :: r, l, h => by
    have hx := h x (List.mem_cons_self ..)
    have hlt := idxP_lt hx
    rw [mtfP, unfP, if_neg (by omega), Int.toNat_natCast, unf_mtf r _ (fun y hy => by rw [takeP_mem hlt]; exact h y (List.mem_cons_of_mem _ hy)), idxP_get hx]
    rfl
end Go.Proofs.Yteccmnjcmmbhlaa
