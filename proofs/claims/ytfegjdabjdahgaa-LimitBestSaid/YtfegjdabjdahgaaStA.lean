/- Pointers sorted: a row of pointers as a function of the place; the order; cmp.Compare and the closure. -/
import Derived.Test.YtfegjdabjdahgaaNums
import Derived.Test.YtfegjdabjdahgaaHold
import Derived.Test.YtfegjdabjdahgaaHav
import Derived.BigQuiet
import Derived.Deep.QuietTactic
import Derived.Sort.Lot0
namespace Go.Proofs.Ytfegjdabjdahgaa
open Go.RowKit
set_option linter.unusedVariables false
set_option linter.unusedSimpArgs false

/-! ### Places: swaps, what is turned -/
def swapF (f : Nat → Nat) (i j : Nat) (p : Nat) : Nat := if p = j then f i else if p = i then f j else f p
/-- Turned between a and b alone. -/
structure Loc (a b : Nat) (f f' : Nat → Nat) : Prop where
  out : ∀ p, p < a ∨ b ≤ p → f' p = f p
  in_ : ∀ p, a ≤ p → p < b → ∃ q, a ≤ q ∧ q < b ∧ f' p = f q
theorem Loc.refl (a b : Nat) (f : Nat → Nat) : Loc a b f f := ⟨fun _ _ => rfl, fun p h1 h2 => ⟨p, h1, h2, rfl⟩⟩
theorem Loc.trans {a b : Nat} {f f1 f2 : Nat → Nat} (h : Loc a b f f1) (k : Loc a b f1 f2) : Loc a b f f2 :=
  ⟨fun p hp => (k.out p hp).trans (h.out p hp), fun p h1 h2 => by
    obtain ⟨q, q1, q2, e⟩ := k.in_ p h1 h2
    obtain ⟨r, r1, r2, e2⟩ := h.in_ q q1 q2
    exact ⟨r, r1, r2, e.trans e2⟩⟩
theorem Loc.mono {a b a' b' : Nat} {f f' : Nat → Nat} (h : Loc a b f f') (ha : a' ≤ a) (hb : b ≤ b') : Loc a' b' f f' :=
  ⟨fun p hp => h.out p (by omega), fun p h1 h2 => by
    by_cases hq : a ≤ p ∧ p < b
    · obtain ⟨q, q1, q2, e⟩ := h.in_ p hq.1 hq.2
      exact ⟨q, by omega, by omega, e⟩
    · exact ⟨p, h1, h2, h.out p (by omega)⟩⟩
theorem Loc.swap (f : Nat → Nat) {a b i j : Nat} (hi : a ≤ i ∧ i < b) (hj : a ≤ j ∧ j < b) : Loc a b f (swapF f i j) :=
  ⟨fun p hp => by unfold swapF; rw [if_neg (by omega), if_neg (by omega)], fun p h1 h2 => by
    unfold swapF
    split
    · exact ⟨i, hi.1, hi.2, rfl⟩
    · split
      · exact ⟨j, hj.1, hj.2, rfl⟩
      · exact ⟨p, h1, h2, rfl⟩⟩
/-- The same ones in another order. -/
def Pm (n : Nat) (f f' : Nat → Nat) : Prop := ((List.range n).map f').Perm ((List.range n).map f)
theorem Pm.refl (n : Nat) (f : Nat → Nat) : Pm n f f := List.Perm.refl _
theorem Pm.trans {n : Nat} {f f1 f2 : Nat → Nat} (h : Pm n f f1) (k : Pm n f1 f2) : Pm n f f2 := List.Perm.trans k h
theorem Pm.swap (f : Nat → Nat) {n i j : Nat} (hi : i < n) (hj : j < n) : Pm n f (swapF f i j) := by
  unfold Pm
  have e : (List.range n).map (swapF f i j) = (((List.range n).map f).set i (((List.range n).map f)[j]'(by simpa using hj))).set j (((List.range n).map f)[i]'(by simpa using hi)) := by
    apply List.ext_getElem
    · simp
    · intro p h1 h2
      simp only [List.getElem_map, List.getElem_range, List.getElem_set, swapF]
      by_cases h3 : p = j
      · rw [if_pos h3, if_pos h3.symm]
      · rw [if_neg h3, if_neg (show ¬ j = p from fun e => h3 e.symm)]
        by_cases h4 : p = i
        · rw [if_pos h4, if_pos h4.symm]
        · rw [if_neg h4, if_neg (show ¬ i = p from fun e => h4 e.symm)]
  rw [e]
  exact Go.Sort.perm_set_set _ i j (by simpa using hi) (by simpa using hj)
/-- Loc and Pm at once. -/
structure Turn (n a b : Nat) (f f' : Nat → Nat) : Prop where
  loc : Loc a b f f'
  pm : Pm n f f'
theorem Turn.refl (n a b : Nat) (f : Nat → Nat) : Turn n a b f f := ⟨Loc.refl _ _ _, Pm.refl _ _⟩
theorem Turn.trans {n a b : Nat} {f f1 f2 : Nat → Nat} (h : Turn n a b f f1) (k : Turn n a b f1 f2) : Turn n a b f f2 := ⟨h.loc.trans k.loc, h.pm.trans k.pm⟩
theorem Turn.mono {n a b a' b' : Nat} {f f' : Nat → Nat} (h : Turn n a b f f') (ha : a' ≤ a) (hb : b ≤ b') : Turn n a' b' f f' := ⟨h.loc.mono ha hb, h.pm⟩
theorem Turn.swap (f : Nat → Nat) {n a b i j : Nat} (hi : a ≤ i ∧ i < b) (hj : a ≤ j ∧ j < b) (hb : b ≤ n) : Turn n a b f (swapF f i j) := ⟨Loc.swap f hi hj, Pm.swap f (by omega) (by omega)⟩

/-! ### The order: by worth, then by what comes first -/
structure Ord where
  wo : Nat → Int
  ix : Nat → Nat
namespace Ord
def lt (o : Ord) (x y : Nat) : Prop := o.wo x < o.wo y ∨ (o.wo x = o.wo y ∧ o.ix x < o.ix y)
theorem trans {o : Ord} {x y z : Nat} (h : o.lt x y) (k : o.lt y z) : o.lt x z := by unfold lt at *; omega
theorem asymm {o : Ord} {x y : Nat} (h : o.lt x y) : ¬ o.lt y x := by unfold lt at *; omega
/-- A later one is ahead just where it is worth less. -/
theorem late {o : Ord} {x y : Nat} (h : o.ix y < o.ix x) : o.lt x y ↔ o.wo x < o.wo y := by unfold lt; omega
theorem not_late {o : Ord} {x y : Nat} (h : o.ix y < o.ix x) : ¬ o.lt x y ↔ o.lt y x := by unfold lt; omega
end Ord
/-- Rising from a to b. -/
def Up (o : Ord) (a b : Nat) (f : Nat → Nat) : Prop := ∀ p q, a ≤ p → p < q → q < b → o.lt (f p) (f q)
/-- What stands from a on came ahead of what stands from m on. -/
def Ahead (o : Ord) (a m b : Nat) (f : Nat → Nat) : Prop := ∀ p q, a ≤ p → p < m → m ≤ q → q < b → o.ix (f p) < o.ix (f q)

/-! ### The row -/
theorem keeps_swap (w : World) (g i j : Nat) (u v : Value) : Keeps (fun k => k = g) w ((w.setCell ⟨g, i, none⟩ u).setCell ⟨g, j, none⟩ v) :=
  Keeps.setCell (S := fun k => k = g) (Keeps.setCell (S := fun k => k = g) (Keeps.refl _ w) (p := ⟨g, i, none⟩) (fun _ => rfl) u) (p := ⟨g, j, none⟩) (fun _ => rfl) v
theorem cell_keep {S : Nat → Prop} {w w' : World} {p : Addr} {u : Value} (h : w.cell? p = some u) (k : Keeps S w w') (hp : ¬ S p.block) : w'.cell? p = some u := by
  rw [← h]
  exact World.cell?_of_block (k.block _ (World.block_lt_of_cell? w _ h) hp)
theorem perm_set_set (m : List Nat) (p q : Nat) (hp : p < m.length) (hq : q < m.length) : ((m.set p m[q]).set q m[p]).Perm m := Go.Sort.perm_set_set m p q hp hq
/-- The block's first cells are pointers to coins; each coin's worth can be read. -/
structure RowF (o : Ord) (w : World) (g cap n : Nat) (f : Nat → Nat) : Prop where
  blk : ∃ cur, w.heap[g]? = some (.cells cur 37 (0, 0)) ∧ cur.size = cap ∧ n ≤ cap ∧ ∀ j, j < n → cur[j]? = some (.pointer (some ⟨f j, 0, none⟩))
  coin : ∀ j, j < n → w.cell? ⟨f j, 0, none⟩ = some (.int .i64 (o.wo (f j))) ∧ f j ≠ g
  big : ∀ j, j < n → 0 ≤ o.wo (f j) ∧ o.wo (f j) ≤ 4611686018427387904
namespace RowF
variable {o : Ord} {w w' : World} {g cap n : Nat} {f : Nat → Nat}
theorem cell (h : RowF o w g cap n f) {j : Nat} (hj : j < n) : w.cell? ⟨g, j, none⟩ = some (.pointer (some ⟨f j, 0, none⟩)) := by
  obtain ⟨cur, hh, _, _, hc⟩ := h.blk
  rw [blk_cell hh]; exact hc j hj
theorem frz (h : RowF o w g cap n f) (j : Nat) : w.frozen? ⟨g, j, none⟩ = false := by
  obtain ⟨cur, hh, _⟩ := h.blk
  exact blk_frozen hh j
theorem lt (h : RowF o w g cap n f) : g < w.heap.size := by
  obtain ⟨cur, hh, _⟩ := h.blk
  exact blk_lt hh
theorem keep {S : Nat → Prop} (h : RowF o w g cap n f) (k : Keeps S w w') (hg : ¬ S g) (hS : ∀ j, j < n → ¬ S (f j)) : RowF o w' g cap n f := by
  obtain ⟨⟨cur, hh, r⟩, hc, hb⟩ := h
  exact ⟨⟨cur, block_keep hh k hg, r⟩, fun j hj => ⟨cell_keep (hc j hj).1 k (hS j hj), (hc j hj).2⟩, hb⟩
theorem drewN (h : RowF o w g cap n f) (q : Nat) : RowF o (w.drewN q) g cap n f := ⟨h.blk, h.coin, h.big⟩
theorem drew (h : RowF o w g cap n f) : RowF o w.drew g cap n f := ⟨h.blk, h.coin, h.big⟩
/-- 'data[i], data[j] = data[j], data[i]'. -/
theorem swap (h : RowF o w g cap n f) {i j : Nat} (hi : i < n) (hj : j < n) : RowF o ((w.setCell ⟨g, i, none⟩ (.pointer (some ⟨f j, 0, none⟩))).setCell ⟨g, j, none⟩ (.pointer (some ⟨f i, 0, none⟩))) g cap n (swapF f i j) := by
  obtain ⟨⟨cur, hh, hs, hd, hc⟩, hco, hb⟩ := h
  have hk := keeps_swap w g i j (.pointer (some ⟨f j, 0, none⟩)) (.pointer (some ⟨f i, 0, none⟩))
  refine ⟨⟨_, blk_set (blk_set hh i (.pointer (some ⟨f j, 0, none⟩))) j (.pointer (some ⟨f i, 0, none⟩)), by simp [hs], hd, fun k hkn => ?_⟩, fun k hkn => ?_, fun k hkn => ?_⟩
  · unfold swapF
    by_cases h2 : k = j
    · rw [if_pos h2, h2, Array.getElem?_setIfInBounds_self_of_lt (by simp; omega)]
    · rw [if_neg h2, Array.getElem?_setIfInBounds_ne (by omega)]
      by_cases h1 : k = i
      · rw [if_pos h1, h1, Array.getElem?_setIfInBounds_self_of_lt (by omega)]
      · rw [if_neg h1, Array.getElem?_setIfInBounds_ne (by omega)]
        exact hc k hkn
  · unfold swapF
    split
    · exact ⟨cell_keep (hco i hi).1 hk (hco i hi).2, (hco i hi).2⟩
    · split
      · exact ⟨cell_keep (hco j hj).1 hk (hco j hj).2, (hco j hj).2⟩
      · exact ⟨cell_keep (hco k hkn).1 hk (hco k hkn).2, (hco k hkn).2⟩
  · unfold swapF
    split
    · exact hb i hi
    · split
      · exact hb j hj
      · exact hb k hkn
end RowF
/-! ### The comparison -/
theorem nan_is (w : World) (x : Int) : Calls Try.prog 24 #[.int .i64 x] w fun e w' => e = .returned (.bool false) ∧ w = w' := by
  go_enter Try.func24, Try.ntmps24
  go_wp2_with fail
  go_ret
  exact ⟨by simp, rfl⟩
/-- What a comparison answers. -/
def cmpV (x y : Int) : Int := if x < y then -1 else if y < x then 1 else 0
theorem compare_is (w : World) (x y : Int) : Calls Try.prog 14 #[.int .i64 x, .int .i64 y] w fun e w' => e = .returned (.int .i64 (cmpV x y)) ∧ w' = w := by
  unfold cmpV
  by_cases h1 : x < y
  · rw [if_pos h1]
    go_enter Try.func14, Try.ntmps14
    go_wp2_with fail
    refine (nan_is w x).mono ?_
    rintro e w1 ⟨rfl, hw⟩
    rw [← hw]
    clear hw
    go_wp2_with fail
    refine (nan_is w y).mono ?_
    rintro e w1 ⟨rfl, hw⟩
    rw [← hw]
    clear hw
    go_wp2_with fail
    go_ret
    exact ⟨rfl, rfl⟩
  · rw [if_neg h1]
    by_cases h2 : y < x
    · rw [if_pos h2]
      go_enter Try.func14, Try.ntmps14
      go_wp2_with fail
      refine (nan_is w x).mono ?_
      rintro e w1 ⟨rfl, hw⟩
      rw [← hw]
      clear hw
      go_wp2_with fail
      refine (nan_is w y).mono ?_
      rintro e w1 ⟨rfl, hw⟩
      rw [← hw]
      clear hw
      go_wp2_with fail
      go_ret
      exact ⟨rfl, rfl⟩
    · rw [if_neg h2]
      go_enter Try.func14, Try.ntmps14
      go_wp2_with fail
      refine (nan_is w x).mono ?_
      rintro e w1 ⟨rfl, hw⟩
      rw [← hw]
      clear hw
      go_wp2_with fail
      refine (nan_is w y).mono ?_
      rintro e w1 ⟨rfl, hw⟩
      rw [← hw]
      clear hw
      go_wp2_with fail
      go_ret
      exact ⟨rfl, rfl⟩
theorem cmp_is (w : World) (p q : Nat) (x y : Int) (hx : w.cell? ⟨p, 0, none⟩ = some (.int .i64 x)) (hy : w.cell? ⟨q, 0, none⟩ = some (.int .i64 y)) :
    Calls Try.prog 13 #[.pointer (some ⟨p, 0, none⟩), .pointer (some ⟨q, 0, none⟩)] w fun e w' => e = .returned (.int .i64 (cmpV x y)) ∧ ∃ n, w' = w.drewN n := by
  have HC := Lib.hid (fun w => compare_is w x y)
  go_enter Try.func13, Try.ntmps13
  go_wp2_with fail
  go_quiet (refine Calls.quiet_of_same (HC.out _))
  go_wp2_with fail
  go_ret
  exact ⟨rfl, nq, rfl⟩
end Go.Proofs.Ytfegjdabjdahgaa
