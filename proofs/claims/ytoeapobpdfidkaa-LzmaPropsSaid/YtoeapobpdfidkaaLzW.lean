/- Any properties have the document's byte, or none, and any byte its properties, or none: the 256 bytes by evaluation, the properties by cases. -/
import Derived.Test.YtoeapobpdfidkaaLzP
import Derived.Test.YtoeapobpdfidkaaPLzmaPropsx2
import Derived.Test.YtoeapobpdfidkaaHold
import Derived.Test.YtoeapobpdfidkaaRd
namespace Go.Proofs.Ytoeapobpdfidkaa
open Go.RowKit Go.Proofs.Ytoeapobpdfidkaa.PLzmaProps Go.Proofs.YtoeapobpdfidkaaW.PrintWords Go.Proofs.YtoeapobpdfidkaaW.PrintLast Go.Proofs.YtoeapobpdfidkaaW.PrintMore

theorem drawn_grow {w w' : World} (h : Drawn0 w w') : Grow w w' := Keeps.of_below h.below
theorem cell_keep {S : Nat → Prop} {w w' : World} {p : Addr} {u : Value} (h : w.cell? p = some u) (k : Keeps S w w') (hp : ¬ S p.block) : w'.cell? p = some u := by
  rw [← h]
  exact World.cell?_of_block (k.block _ (World.block_lt_of_cell? w _ h) hp)
/-- A block of three numbers. -/
def Three (w : World) (g : Nat) (a b c : Int) : Prop := w.cell? ⟨g, 0, none⟩ = some (.int .i64 a) ∧ w.cell? ⟨g, 1, none⟩ = some (.int .i64 b) ∧ w.cell? ⟨g, 2, none⟩ = some (.int .i64 c)
theorem Three.keep {w w' : World} {g : Nat} {a b c : Int} (h : Three w g a b c) (k : Grow w w') : Three w' g a b c :=
  ⟨cell_keep h.1 k (fun h => h), cell_keep h.2.1 k (fun h => h), cell_keep h.2.2 k (fun h => h)⟩

set_option maxRecDepth 4000 in
set_option maxHeartbeats 2000000 in
theorem walkLzmaProps (W : World) (cs0 : List Value) (x0 : (Int) × (Int) × (Int) × Unit) (_h0 : Sh.Rd W (.pair (.int .i64) (.pair (.int .i64) (.pair (.int .i64) .nil))) cs0 x0) (x1 : Int) (_h1 : (Lit.int .u8 x1).wf = true) :
    Calls Try.prog 4 #[.agg cs0.toArray, .int .u8 x1] W fun e w' => e = .returned (.bool true) ∧ Below W.heap.size W w' := by
  obtain ⟨a, b, c, u⟩ := x0
  obtain ⟨_, _, rfl, ⟨rfl, ha⟩, _, _, rfl, ⟨rfl, hb⟩, _, _, rfl, ⟨rfl, hc⟩, h⟩ := _h0
  obtain rfl : _ = [] := h
  have hb1 : 0 ≤ x1 ∧ x1 ≤ 255 := by simpa [Lit.wf, IntKind.min, IntKind.max, IntKind.signed, IntKind.bits] using _h1
  simp only at ha hb hc
  obtain ⟨x, y, z, er, ho, hr⟩ := sameOf_at x1 hb1.1 hb1.2
  clear _h1
  have HO := Lib.hid ho
  have HR := Lib.hid hr
  clear ho hr
  obtain ⟨p1, p2, hP⟩ : ∃ p1 p2, lzma_Props_Byte.f a b c = some (p1, p2) ∧ ((okProps a b c = true ∧ p2 = 0 ∧ p1 = wrap64 ((wrap64 ((wrap64 ((wrap64 (c * 5)) + b)) * 9)) + a) ∧ 0 ≤ p1 ∧ p1 < 256) ∨ (okProps a b c = false ∧ p1 = 0 ∧ p2 = 2)) := by
    unfold lzma_Props_Byte.f
    rw [valid_is]
    cases hv : okProps a b c with
    | false => exact ⟨0, 2, by simp, .inr ⟨rfl, rfl, rfl⟩⟩
    | true =>
      simp only [okProps, decide_eq_true_eq] at hv
      have e1 : wrap64 (wrap64 (wrap64 (wrap64 (c * 5) + b) * 9) + a) = (c * 5 + b) * 9 + a := by unfold wrap64; omega
      have e2 : ((c * 5 + b) * 9 + a) % 256 = (c * 5 + b) * 9 + a := by omega
      exact ⟨(c * 5 + b) * 9 + a, 0, by simp [e1, e2], .inl ⟨rfl, rfl, e1.symm, by omega, by omega⟩⟩
  obtain ⟨hP1, hP2⟩ := hP
  have HP1 := Lib.hid hP1
  have HP2 := Lib.hid hP2
  clear hP1 hP2
  go_enter Try.func4, Try.ntmps4
  go_wp2_with fail
  obtain ⟨w0, hw0⟩ : ∃ w0, w0 = W.alloc (.cells #[.int .i64 a, .int .i64 b, .int .i64 c] 27) := ⟨_, rfl⟩
  have hA : Three w0 W.heap.size a b c := by subst hw0; exact ⟨by go_simp, by go_simp, by go_simp⟩
  have hK0 : Grow W w0 := by subst hw0; exact (Keeps.refl _ _).alloc _
  rw [← hw0]
  clear hw0
  refine (lzma_Props_Byte.calls a b c p1 p2 w0 HP1.out).mono ?_
  rintro e w1 ⟨rfl, k1⟩
  have hK1 : Grow W w1 := Grow.trans _ _ _ hK0 (Keeps.of_below k1)
  have hA1 := hA.keep (Keeps.of_below k1)
  clear hA hK0 k1
  go_wp2_with fail
  refine (lzma_Of.calls x1 x y z er w1 HO.out).mono ?_
  rintro e w2 ⟨rfl, k2⟩
  have hK2 : Grow W w2 := Grow.trans _ _ _ hK1 (Keeps.of_below k2)
  have hA2 := hA1.keep (Keeps.of_below k2)
  clear hA1 hK1 k2
  go_wp2_with fail
  obtain ⟨w3, hw3⟩ : ∃ w3, w3 = w2.alloc (.cells #[.int .i64 x, .int .i64 y, .int .i64 z] 27) := ⟨_, rfl⟩
  have hQ3 : Three w3 w2.heap.size x y z := by subst hw3; exact ⟨by go_simp, by go_simp, by go_simp⟩
  have hk3 : Grow w2 w3 := by subst hw3; exact (Keeps.refl _ _).alloc _
  have hA3 := hA2.keep hk3
  have hK3 : Grow W w3 := Grow.trans _ _ _ hK2 hk3
  rw [← hw3]
  clear hw3 hA2 hK2 hk3
  refine (hamperref14_Of.calls 300 x1 x y z er w3 HR.out).mono ?_
  rintro e w4 ⟨rfl, k4⟩
  have hA4 := hA3.keep (drawn_grow k4)
  have hQ4 := hQ3.keep (drawn_grow k4)
  have hK4 : Grow W w4 := Grow.trans _ _ _ hK3 (drawn_grow k4)
  clear hA3 hQ3 hK3 k4
  go_wp2_with fail
  refine wp_region_hold Grow Grow.refl Grow.trans [0, 12, 15, 17, 19, 4, 5] [(0, [1, 2, 3]), (1, [0]), (1, [4]), (1, [5]), (0, [6, 7, 8, 9, 10, 11, 14, 16, 18]), (1, [12]), (1, [15]), (1, [17]), (1, [19]), (2, [13]), (2, [20]), (0, [21, 22])] [(0, [?o1, ?o2, ?o3]), (1, [?o0]), (1, [?o4]), (1, [?o5]), (0, [?o6, ?o7, ?o8, ?o9, ?o10, ?o11, ?o14, ?o16, ?o18]), (1, [?o12]), (1, [?o15]), (1, [?o17]), (1, [?o19]), (2, [?o13]), (2, [?o20]), (0, [?o21, ?o22])] [?o0, ?o1, ?o2, ?o3, ?o4, ?o5, ?o6, ?o7, ?o8, ?o9, ?o10, ?o11, ?o12, ?o13, ?o14, ?o15, ?o16, ?o17, ?o18, ?o19, ?o20, ?o21, ?o22] (by kernel_rfl) (by kernel_rfl) (by kernel_rfl) ?_
  have hA5 : Three w4.drew W.heap.size a b c := hA4
  have hQ5 : Three w4.drew w2.heap.size x y z := hQ4
  have hK5 : Grow W w4.drew := Keeps.drew hK4
  clear hA4 hQ4 hK4
  generalize w4.drew = w5 at *
  refine seg_calm ?_
  go_wp2_with fail
  refine seg_held (by kernel_rfl) (.agg #[.int .i64 x, .int .i64 y, .int .i64 z]) (fun w7 hk7 => ?_) ?_
  · obtain ⟨f0, f1, f2⟩ := hQ5.keep hk7
    go_simp
  refine seg_held (by kernel_rfl) (.agg #[.int .i64 x, .int .i64 y, .int .i64 z]) (fun w7 hk7 => ?_) ?_
  · go_simp
  refine seg_held (by kernel_rfl) (.bool false) (fun w7 hk7 => ?_) ?_
  · go_simp
  refine seg_calm ?_
  go_wp2_with fail
  refine seg_held (by kernel_rfl) (.agg #[.int .i64 a, .int .i64 b, .int .i64 c]) (fun w7 hk7 => ?_) ?_
  · obtain ⟨f0, f1, f2⟩ := hA5.keep hk7
    go_simp
  refine seg_held (by kernel_rfl) (.int .i64 a) (fun w7 hk7 => ?_) ?_
  · obtain ⟨f0, f1, f2⟩ := hA5.keep hk7
    go_simp
  refine seg_held (by kernel_rfl) (.int .i64 b) (fun w7 hk7 => ?_) ?_
  · obtain ⟨f0, f1, f2⟩ := hA5.keep hk7
    go_simp
  refine seg_held (by kernel_rfl) (.int .i64 c) (fun w7 hk7 => ?_) ?_
  · obtain ⟨f0, f1, f2⟩ := hA5.keep hk7
    go_simp
  refine seg_call ?_
  go_wp2_with fail
  refine (lzma_Props_Valid.calls a b c (okProps a b c) w5 (valid_is a b c)).mono ?_
  rintro e w6 ⟨rfl, k6⟩
  go_wp2_with fail
  refine ⟨Keeps.of_below k6, ?_⟩
  refine seg_call ?_
  go_wp2_with fail
  refine (hamperref14_Valid.calls a b c (okProps a b c) w6 (refValid_is a b c)).mono ?_
  rintro e w7 ⟨rfl, k7⟩
  go_wp2_with fail
  refine ⟨drawn_grow k7, ?_⟩
  have hg7 : Grow w5 w7 := Grow.trans _ _ _ (Keeps.of_below k6) (drawn_grow k7)
  have hA7 := hA5.keep hg7
  have hK7 : Grow W w7 := Grow.trans _ _ _ hK5 hg7
  obtain ⟨a0, a1, a2⟩ := hA7
  clear hA5 hQ5 hK5 k6 k7 hg7
  refine seg_calm ?_
  go_wp2_with fail
  refine seg_end ⟨by kernel_rfl, ?_⟩
  go_wp2_with fail
  refine (hamperref14_Valid.calls a b c (okProps a b c) w7 (refValid_is a b c)).mono ?_
  rintro e w8 ⟨rfl, k8⟩
  have hK8 : Grow W w8 := Grow.trans _ _ _ hK7 (drawn_grow k8)
  have b0 := cell_keep a0 (drawn_grow k8) (fun h => h)
  have b1 := cell_keep a1 (drawn_grow k8) (fun h => h)
  have b2 := cell_keep a2 (drawn_grow k8) (fun h => h)
  clear a0 a1 a2 hK7 k8
  rcases HP2.out with ⟨hv, rfl, hp, hp0, hp1⟩ | ⟨hv, rfl, rfl⟩
  · rw [hv]
    go_wp2_with fail
    refine (hamperref14_Byte.calls a b c p1 w8 (by unfold hamperref14_Byte.f; rw [hp])).mono ?_
    rintro e w9 ⟨rfl, k9⟩
    go_wp2_with fail
    go_ret
    exact ⟨rfl, Keeps.below (Grow.trans _ _ _ hK8 (drawn_grow k9)) (fun _ _ h => h) (Nat.le_refl _)⟩
  · rw [hv]
    go_wp2_with fail
    refine (hamperlaw14_names.calls true w8 rfl).mono ?_
    rintro e w9 ⟨rfl, k9⟩
    go_wp2_with fail
    go_ret
    exact ⟨rfl, Keeps.below (Grow.trans _ _ _ hK8 (drawn_grow k9)) (fun _ _ h => h) (Nat.le_refl _)⟩
end Go.Proofs.Ytoeapobpdfidkaa
