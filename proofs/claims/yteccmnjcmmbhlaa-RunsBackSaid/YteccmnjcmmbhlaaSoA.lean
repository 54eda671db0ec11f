/- Bytes sorted: a row of bytes as an array; cmp.Less. -/
import Derived.Test.YteccmnjcmmbhlaaNums
import Derived.Test.YteccmnjcmmbhlaaHold
import Derived.Test.YteccmnjcmmbhlaaHav
import Derived.Sort.AssemblyPlain
import Derived.BigQuiet
import Derived.Deep.QuietTactic
namespace Go.Proofs.Yteccmnjcmmbhlaa
open Go.RowKit
open Go.Sort (swp ltInt)
set_option linter.unusedVariables false
set_option linter.unusedSimpArgs false

/-- The block's first cells hold the bytes d. -/
def RowD (w : World) (g cap : Nat) (d : Array Int) : Prop :=
  ∃ cur, w.heap[g]? = some (.cells cur 5 (0, 0)) ∧ cur.size = cap ∧ d.size ≤ cap ∧ ∀ j, j < d.size → cur[j]? = some (.int .u8 d[j]!) ∧ 0 ≤ d[j]! ∧ d[j]! < 256
namespace RowD
variable {w w' : World} {g cap : Nat} {d : Array Int}
theorem cell (h : RowD w g cap d) {j : Nat} (hj : j < d.size) : w.cell? ⟨g, j, none⟩ = some (.int .u8 d[j]!) := by
  obtain ⟨cur, hh, _, _, hc⟩ := h
  rw [blk_cell hh]; exact (hc j hj).1
theorem frz (h : RowD w g cap d) (j : Nat) : w.frozen? ⟨g, j, none⟩ = false := by
  obtain ⟨cur, hh, _⟩ := h
  exact blk_frozen hh j
theorem rng (h : RowD w g cap d) {j : Nat} (hj : j < d.size) : 0 ≤ d[j]! ∧ d[j]! < 256 := by
  obtain ⟨cur, _, _, _, hc⟩ := h
  exact (hc j hj).2
theorem lt (h : RowD w g cap d) : g < w.heap.size := by
  obtain ⟨cur, hh, _⟩ := h
  exact blk_lt hh
theorem keep {S : Nat → Prop} (h : RowD w g cap d) (k : Keeps S w w') (hg : ¬ S g) : RowD w' g cap d := by
  obtain ⟨cur, hh, r⟩ := h
  exact ⟨cur, block_keep hh k hg, r⟩
theorem drewN (h : RowD w g cap d) (n : Nat) : RowD (w.drewN n) g cap d := h
theorem drew (h : RowD w g cap d) : RowD w.drew g cap d := h
/-- 'data[i], data[j] = data[j], data[i]'. -/
theorem swap (h : RowD w g cap d) {i j : Nat} (hi : i < d.size) (hj : j < d.size) : RowD ((w.setCell ⟨g, i, none⟩ (.int .u8 d[j]!)).setCell ⟨g, j, none⟩ (.int .u8 d[i]!)) g cap (swp d i j) := by
  obtain ⟨cur, hh, hs, hd, hc⟩ := h
  refine ⟨_, blk_set (blk_set hh i (.int .u8 d[j]!)) j (.int .u8 d[i]!), by simp [hs], by rw [Go.Sort.swp_size]; exact hd, fun k hk => ?_⟩
  rw [Go.Sort.swp_size] at hk
  unfold swp
  by_cases h2 : k = j
  · subst h2
    rw [Go.Sort.getElem!_set_same _ _ _ (by simpa using hj), Array.getElem?_setIfInBounds_self_of_lt (by simp; omega)]
    exact ⟨rfl, (hc i hi).2⟩
  · rw [Go.Sort.getElem!_set_other _ _ _ _ h2, Array.getElem?_setIfInBounds_ne (by omega)]
    by_cases h1 : k = i
    · subst h1
      rw [Go.Sort.getElem!_set_same _ _ _ hi, Array.getElem?_setIfInBounds_self_of_lt (by omega)]
      exact ⟨rfl, (hc j hj).2⟩
    · rw [Go.Sort.getElem!_set_other _ _ _ _ h1, Array.getElem?_setIfInBounds_ne (by omega)]
      exact hc k hk
end RowD
theorem keeps_swap (w : World) (g i j : Nat) (u v : Value) : Keeps (fun k => k = g) w ((w.setCell ⟨g, i, none⟩ u).setCell ⟨g, j, none⟩ v) :=
  Keeps.setCell (S := fun k => k = g) (Keeps.setCell (S := fun k => k = g) (Keeps.refl _ w) (p := ⟨g, i, none⟩) (fun _ => rfl) u) (p := ⟨g, j, none⟩) (fun _ => rfl) v
theorem nan_is (w : World) (x : Int) : Calls Try.prog 69 #[.int .u8 x] w fun e w' => e = .returned (.bool false) ∧ w = w' := by
  go_enter Try.func69, Try.ntmps69
  go_wp2_with fail
  go_ret
  exact ⟨by simp, rfl⟩
theorem less_is (w : World) (x y : Int) (hx : 0 ≤ x) (hx2 : x < 256) (hy : 0 ≤ y) (hy2 : y < 256) : Calls Try.prog 59 #[.int .u8 x, .int .u8 y] w fun e w' => e = .returned (.bool (ltInt x y)) ∧ ∃ n, w' = w.drewN n := by
  unfold ltInt
  go_enter Try.func59, Try.ntmps59
  go_wp2_with fail
  refine (nan_is w x).mono ?_
  rintro e w1 ⟨rfl, hw⟩
  rw [← hw]
  clear hw
  go_wp2_with fail
  go_ret
  exact ⟨rfl, 0, rfl⟩
end Go.Proofs.Yteccmnjcmmbhlaa
