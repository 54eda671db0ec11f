/- Prefix: the document's Put. -/
import Derived.Test.YtofalbbbnhnadaaPgG
import Derived.Test.YtofalbbbnhnadaaRef01
namespace Go.Proofs.Ytofalbbbnhnadaa
open Go.RowKit
set_option linter.unusedVariables false
set_option linter.unusedSimpArgs false

set_option maxRecDepth 8000 in
set_option maxHeartbeats 4000000 in
theorem rPut_is (w : World) (gw m : Nat) (ws : List (Nat × Nat)) (h : RefW w gw m ws) (hm65 : m ≤ 65536) (s x l : Nat) (hs : ws[s]? = some (x, l)) (hx : x < 1048576) (hl : l ≤ 20) :
    Calls Try.prog 22 #[.slice (some ⟨gw, 0, none⟩) m m, .int .i64 s] w fun e w' => ∃ A c, e = .returned (.slice A l c) ∧ w'.ownsRow w.heap.size 3 1 (.slice A l c) l ((bitsOf true x l).map (Value.int .i64)) ∧ Grow w w' := by
  have hsm : s < m := by
    rcases Nat.lt_or_ge s m with h9 | h9
    · exact h9
    · rw [List.getElem?_eq_none (by rw [h.2]; exact h9)] at hs; cases hs
  have HCL : Hid (∀ w', Grow w w' → w'.cell? ⟨gw, s * 2, none⟩ = some (.int .u32 (x : Nat)) ∧ w'.cell? ⟨gw, s * 2 + 1, none⟩ = some (.int .i64 (l : Nat))) := fun w' hg => (h.1.keep hg (fun h => h)).cell0 s (x, l) hs
  have hmi : (m : Int) ≤ 65536 := by omega
  have hsi : (s : Int) < (m : Int) := by omega
  have hxi : (x : Int) < 1048576 := by omega
  have hli : (l : Int) ≤ 20 := by omega
  have HB := Lib.hid fun w => refBits_is w (x : Int) l true (by omega) (by omega) (by omega)
  clear h hs hm65 hx hl
  go_enter Try.func22, Try.ntmps22
  go_wp2_with fail
  refine wp_region_hold Grow Grow.refl Grow.trans [4, 10] [(0, [0, 1, 2, 3, 6, 7, 8, 9]), (1, [4]), (0, [5]), (1, [10]), (2, [11]), (0, [12])] [(0, [?o0, ?o1, ?o2, ?o3, ?o6, ?o7, ?o8, ?o9]), (1, [?o4]), (0, [?o5]), (1, [?o10]), (2, [?o11]), (0, [?o12])] [?o0, ?o1, ?o2, ?o3, ?o4, ?o5, ?o6, ?o7, ?o8, ?o9, ?o10, ?o11, ?o12] (by kernel_rfl) (by kernel_rfl) (by kernel_rfl) ?_
  refine seg_calm ?_
  go_wp2_with fail
  have HG1 : Hid (Grow w w.drew) := (Keeps.refl _ _).drew
  have HSZ : Hid (w.drew.heap.size = w.heap.size) := rfl
  generalize w.drew = w1 at *
  refine seg_held (by kernel_rfl) (.int .u32 (x : Nat)) (fun w7 hk7 => ?_) ?_
  · have c7 := (HCL.out w7 (Grow.trans _ _ _ HG1.out hk7)).1
    go_simp
  refine seg_calm ?_
  go_wp2_with fail
  refine seg_held (by kernel_rfl) (.int .i64 (l : Nat)) (fun w7 hk7 => ?_) ?_
  · have c7 := (HCL.out w7 (Grow.trans _ _ _ HG1.out hk7)).2
    go_simp
  refine seg_call ?_
  go_wp2_with fail
  refine (HB.out w1).mono ?_
  rintro e w2 ⟨A, c, rfl, ho, hg⟩
  have HO := Lib.hid ho
  have HG := Lib.hid hg
  clear ho hg
  go_wp2_with fail
  refine ⟨HG.out, ?_⟩
  refine seg_calm ?_
  go_wp2_with fail
  refine seg_end ⟨by kernel_rfl, ?_⟩
  go_wp2_with fail
  go_ret
  exact ⟨A, c, rfl, by rw [← HSZ.out]; exact HO.out, Grow.trans _ _ _ HG1.out HG.out⟩
end Go.Proofs.Ytofalbbbnhnadaa
