/- slices.Compact, slices.Index at bytes: off the shelf. -/
import Derived.Test.YteccmnjcmmbhlaaSoO
import Derived.Test.YteccmnjcmmbhlaaRow
import Derived.Shelf.SlicesE.Compact
import Derived.Shelf.SlicesE.Index
import Derived.Ground.SlgnProg
import Derived.Lib.SortBridge
namespace Go.Proofs
open Go.Shelf
set_option maxRecDepth 100000 in
shelf_lay_g SlLaysE.n43 Slgn 43 at Try 35 as Try.compB
set_option maxRecDepth 100000 in
shelf_lay_g SlLaysE.n29 Slgn 29 at Try 38 as Try.idxB
end Go.Proofs
namespace Go.Proofs.Yteccmnjcmmbhlaa
open Go.RowKit Go.Shelf
set_option linter.unusedVariables false
set_option linter.unusedSimpArgs false

theorem own_setCells1 {w : World} {B e g n c : Nat} {xs ys : List Value} (h : w.ownsRow B e 1 (.slice (some ⟨g, 0, none⟩) n c) n xs) (hl : ys.length = n * 1) : (w.setCells g 0 ys).ownsRow B e 1 (.slice (some ⟨g, 0, none⟩) n c) n ys := by
  rcases h.2 with ⟨hv, _⟩ | ⟨g', cap, cur, hv, hB, hh, hnc, hcm, hcs, htk⟩
  · cases hv
  · injection hv with e1 _ e3
    injection e1 with e1
    injection e1 with e1 _
    subst e1
    subst e3
    refine ⟨hl, .inr ⟨g, c, setAll cur 0 ys, rfl, hB, blk_setCells ys 0 w cur hh, hnc, hcm, by rw [setAll_size]; exact hcs, ?_⟩⟩
    refine List.ext_getElem? fun j => ?_
    by_cases hj : j < n * 1
    · rw [List.getElem?_take, if_pos hj, Array.getElem?_toList, setAll_get ys 0 cur j (by omega), if_pos (by omega), Nat.sub_zero]
    · rw [List.getElem?_eq_none (by rw [List.length_take]; omega), List.getElem?_eq_none (by omega)]
theorem own_take {w : World} {B e g n c m : Nat} {xs : List Value} (h : w.ownsRow B e 1 (.slice (some ⟨g, 0, none⟩) n c) n xs) (hm : m ≤ n) : w.ownsRow B e 1 (.slice (some ⟨g, 0, none⟩) m c) m (xs.take m) := by
  have hl := h.1
  rcases h.2 with ⟨hv, _⟩ | ⟨g', cap, cur, hv, hB, hh, hnc, hcm, hcs, htk⟩
  · cases hv
  · injection hv with e1 _ e3
    injection e1 with e1
    injection e1 with e1 _
    subst e1
    subst e3
    refine ⟨by rw [List.length_take]; omega, .inr ⟨g, c, cur, rfl, hB, hh, by omega, hcm, hcs, ?_⟩⟩
    rw [← htk, List.take_take, Nat.min_eq_left (by omega), Nat.mul_one]
theorem compB_is (w : World) (B g n c : Nat) (xs : List Int) (h : w.ownsRow B 5 1 (.slice (some ⟨g, 0, none⟩) n c) n (xs.map (Value.int .u8))) (hx : ∀ x ∈ xs, inKind .u8 x) (hnb : n ≤ 1048576) :
    Calls Try.prog 35 #[.slice (some ⟨g, 0, none⟩) n c] w fun e w' => e = .returned (.slice (some ⟨g, 0, none⟩) (Lib.compact xs).length c) ∧ w'.ownsRow B 5 1 (.slice (some ⟨g, 0, none⟩) (Lib.compact xs).length c) (Lib.compact xs).length ((Lib.compact xs).map (Value.int .u8)) ∧ Keeps (fun k => k = g) w w' := by
  obtain ⟨hr, hsz⟩ := rowD_of h hx
  have hH : Go.Sort.Holds (Value.int .u8) w g 0 xs.toArray := fun j hj => by
    rw [Nat.zero_add]
    exact ⟨hr.cell hj, hr.frz j⟩
  have hcap : xs.toArray.size ≤ c := hr.choose_spec.2.2.1
  have hcon := AnyE.slices_Compact Try.compB (Value.int .u8) (fun x => rfl) ⟨fun x y w => by simp [binOp, Op.intCmp]; rfl, (EqlAt.int _ _ .u8).2⟩ ⟨fun x y w => by simp [binOp, Op.intCmp, bne]; rfl, (EqlAt.int _ _ .u8).2⟩ 0 (fun w => (by exact Try.zeroValue5 w)) g 0 c xs.toArray w hH (by omega) hcap
  rw [hsz] at hcon
  have hle : (Lib.compactUpTo xs.toArray n).length ≤ n := by
    unfold Lib.compactUpTo
    rw [List.length_map]
    exact Nat.le_trans (List.length_filter_le _ _) (by simp)
  have hcu : Lib.compactUpTo xs.toArray n = Lib.compact xs := by
    unfold Lib.compact
    rw [show xs.length = n by simpa using hsz]
  rw [hcu] at hcon hle
  refine hcon.mono ?_
  rintro e w' ⟨rfl, q, hw⟩
  have hlen : (Lib.compact xs ++ List.replicate (n - (Lib.compact xs).length) (0 : Int)).length = xs.toArray.size := by
    rw [List.length_append, List.length_replicate]
    omega
  have hput := Go.Lib.putRow_eq_setCells (Value.int .u8) w g 0 xs.toArray (Lib.compact xs ++ List.replicate (n - (Lib.compact xs).length) (0 : Int)) q hH hlen
  rw [hput] at hw
  subst hw
  refine ⟨rfl, ?_, ?_⟩
  · have h1 := own_setCells1 (w := w.drewN q) (ys := (Lib.compact xs ++ List.replicate (n - (Lib.compact xs).length) (0 : Int)).map (Value.int .u8)) h (by rw [List.length_map]; omega)
    have h2 := own_take h1 hle
    rwa [← List.map_take, List.take_left] at h2
  · refine Keeps.trans ((Keeps.refl (fun k => k = g) w).drewN q) ?_ fun _ _ h => h
    exact keeps_setCells (S := fun k => k = g) rfl _ _ _ _ (Keeps.refl _ _)
theorem compB_nil (w : World) : Calls Try.prog 35 #[.slice none 0 0] w fun e w' => e = .returned (.slice none 0 0) ∧ w' = w := by
  go_enter Try.func35, Try.ntmps35
  go_wp2_with fail
  go_ret
  exact ⟨rfl, rfl⟩
end Go.Proofs.Yteccmnjcmmbhlaa
