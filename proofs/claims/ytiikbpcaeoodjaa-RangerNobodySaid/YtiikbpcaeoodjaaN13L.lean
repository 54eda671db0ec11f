/- The law RangerNobody: the walk. -/
import Derived.Test.YtiikbpcaeoodjaaN13
namespace Go.Proofs.Ytiikbpcaeoodjaa
open Go.RowKit
set_option linter.unusedVariables false
set_option linter.unusedSimpArgs false

theorem cell_kp {w w' : World} {p : Addr} {u : Value} (h : w.cell? p = some u) (k : Grow w w') : w'.cell? p = some u := by
  rw [← h]
  exact World.cell?_of_block (k.block _ (World.block_lt_of_cell? w _ h) (fun h => h))

set_option maxRecDepth 8000 in
set_option maxHeartbeats 8000000 in
theorem walkRangerNobody (W : World) (cs0 : List Value) (x0 : (Int) × (Int) × (Int) × (Int) × (List (Int)) × Unit) (_h0 : Sh.Rd W (.pair (.int .i64) (.pair (.int .i64) (.pair (.int .i64) (.pair (.int .i64) (.pair (.sl 8 (.int .i64)) .nil))))) cs0 x0) :
    Calls Try.prog 7 #[.agg cs0.toArray] W fun e w' => e = .returned (.bool true) ∧ Below W.heap.size W w' := by
  obtain ⟨k, b, v, n, l, u1⟩ := x0
  obtain ⟨_, _, rfl, ⟨rfl, hk⟩, _, _, rfl, ⟨rfl, hb0⟩, _, _, rfl, ⟨rfl, hv⟩, _, _, rfl, ⟨rfl, hn⟩, _, _, rfl, hb, h1⟩ := _h0
  obtain ⟨A, c, rfl, _⟩ := hb
  have h1 : _ = [] := h1
  subst h1
  simp only at *
  generalize l.length = m
  go_enter Try.func7, Try.ntmps7
  go_wp2_with fail
  obtain ⟨w1, hw_w1⟩ : ∃ w1, w1 = (((W.alloc (.cells #[.int .i64 k, .int .i64 b, .int .i64 v, .int .i64 n, .slice A m c] 43)).alloc (.cells #[.bool false, .slice none 0 0, .int .u64 0, .int .u32 0, .int .u8 0, .int .i64 0, .slice none 0 0] 69)).alloc (.cells #[.pointer none, .pointer (some ⟨W.heap.size + 1, 0, none⟩)] 22)) := ⟨_, rfl⟩
  have q_a1 : w1.cell? ⟨W.heap.size, 1, none⟩ = some (.int .i64 b) := by subst hw_w1; go_simp
  have q_a2 : w1.cell? ⟨W.heap.size, 2, none⟩ = some (.int .i64 v) := by subst hw_w1; go_simp
  have q_a3 : w1.cell? ⟨W.heap.size, 3, none⟩ = some (.int .i64 n) := by subst hw_w1; go_simp
  have q_a4 : w1.cell? ⟨W.heap.size, 4, none⟩ = some (.slice A m c) := by subst hw_w1; go_simp
  have q_b0 : w1.cell? ⟨W.heap.size + 1 + 1, 0, none⟩ = some (.pointer none) := by subst hw_w1; go_simp
  have q_b1 : w1.cell? ⟨W.heap.size + 1 + 1, 1, none⟩ = some (.pointer (some ⟨W.heap.size + 1, 0, none⟩)) := by subst hw_w1; go_simp
  have q_c0 : w1.cell? ⟨W.heap.size + 1, 0, none⟩ = some (.bool false) := by subst hw_w1; go_simp
  have HF : Hid (∀ w7, Grow w1 w7 → w7.cell? ⟨W.heap.size, 1, none⟩ = some (.int .i64 b) ∧ w7.cell? ⟨W.heap.size, 2, none⟩ = some (.int .i64 v) ∧ w7.cell? ⟨W.heap.size, 3, none⟩ = some (.int .i64 n) ∧ w7.cell? ⟨W.heap.size, 4, none⟩ = some (.slice A m c) ∧ w7.cell? ⟨W.heap.size + 1 + 1, 0, none⟩ = some (.pointer none) ∧ w7.cell? ⟨W.heap.size + 1 + 1, 1, none⟩ = some (.pointer (some ⟨W.heap.size + 1, 0, none⟩)) ∧ w7.cell? ⟨W.heap.size + 1, 0, none⟩ = some (.bool false)) := fun w7 h7 => ⟨cell_kp q_a1 h7, cell_kp q_a2 h7, cell_kp q_a3 h7, cell_kp q_a4 h7, cell_kp q_b0 h7, cell_kp q_b1 h7, cell_kp q_c0 h7⟩
  clear q_a1 q_a2 q_a3 q_a4 q_b0 q_b1 q_c0
  have hB1 : Grow W w1 := by subst hw_w1; exact (((Keeps.refl (fun _ => False) W).alloc _).alloc _).alloc _
  rw [← hw_w1]
  clear hw_w1
  go_loopw [19] (fun i wr => ∃ j : Nat, j ≤ 2 ∧ i = .int .i64 j ∧ Hid (Grow w1 wr)) (fun i _ => 2 - (intOf i).toNat)
  case atStart => exact ⟨0, by omega, rfl, Keeps.refl _ _⟩
  case round =>
    obtain ⟨j, hj, rfl, HG0⟩ := hrel
    obtain ⟨a1, a2, a3, a4, b0, b1, c0⟩ := HF.out _ HG0.out
    rcases (show j = 0 ∨ j = 1 ∨ j = 2 by omega) with rfl | rfl | rfl
    · go_wp2_with fail
      refine (nobE_bit _ _ _ _ (by first | exact .inl rfl | exact .inr ⟨_, rfl, c0⟩)).mono ?_
      rintro e v1 ⟨rfl, hg1⟩
      have HG1 := Lib.hid (Grow.trans _ _ _ HG0.out hg1)
      clear hg1 a1 a2 a3 a4 b0 b1 c0
      obtain ⟨a1, a2, a3, a4, b0, b1, c0⟩ := HF.out _ HG1.out
      go_wp2_with fail
      refine (nobE_direct _ _ _ _ (by first | exact .inl rfl | exact .inr ⟨_, rfl, c0⟩)).mono ?_
      rintro e v2 ⟨rfl, hg2⟩
      have HG2 := Lib.hid (Grow.trans _ _ _ HG1.out hg2)
      clear hg2 a1 a2 a3 a4 b0 b1 c0
      obtain ⟨a1, a2, a3, a4, b0, b1, c0⟩ := HF.out _ HG2.out
      go_wp2_with fail
      refine (nobE_tree _ _ _ _ _ (by first | exact .inl rfl | exact .inr ⟨_, rfl, c0⟩)).mono ?_
      rintro e v3 ⟨rfl, hg3⟩
      have HG3 := Lib.hid (Grow.trans _ _ _ HG2.out hg3)
      clear hg3 a1 a2 a3 a4 b0 b1 c0
      obtain ⟨a1, a2, a3, a4, b0, b1, c0⟩ := HF.out _ HG3.out
      go_wp2_with fail
      refine (nobE_reverse _ _ _ _ _ (by first | exact .inl rfl | exact .inr ⟨_, rfl, c0⟩)).mono ?_
      rintro e v4 ⟨rfl, hg4⟩
      have HG4 := Lib.hid (Grow.trans _ _ _ HG3.out hg4)
      clear hg4 a1 a2 a3 a4 b0 b1 c0
      obtain ⟨a1, a2, a3, a4, b0, b1, c0⟩ := HF.out _ HG4.out
      go_wp2_with fail
      refine (nobE_set _ _ _ _ _ (by first | exact .inl rfl | exact .inr ⟨_, rfl, c0⟩)).mono ?_
      rintro e v5 ⟨rfl, hg5⟩
      have HG5 := Lib.hid (Grow.trans _ _ _ HG4.out hg5)
      clear hg5 a1 a2 a3 a4 b0 b1 c0
      obtain ⟨a1, a2, a3, a4, b0, b1, c0⟩ := HF.out _ HG5.out
      go_wp2_with fail
      refine (nobE_bytes _ _ (by first | exact .inl rfl | exact .inr ⟨_, rfl, c0⟩)).mono ?_
      rintro e v6 ⟨rfl, hg6⟩
      have HG6 := Lib.hid (Grow.trans _ _ _ HG5.out hg6)
      clear hg6 a1 a2 a3 a4 b0 b1 c0
      obtain ⟨a1, a2, a3, a4, b0, b1, c0⟩ := HF.out _ HG6.out
      go_wp2_with fail
      refine (nobE_chances _ _ (by first | exact .inl rfl | exact .inr ⟨_, rfl, c0⟩)).mono ?_
      rintro e v7 ⟨rfl, hg7⟩
      have HG7 := Lib.hid (Grow.trans _ _ _ HG6.out hg7)
      clear hg7 a1 a2 a3 a4 b0 b1 c0
      obtain ⟨a1, a2, a3, a4, b0, b1, c0⟩ := HF.out _ HG7.out
      go_wp2_with fail
      go_roundw
      case rel => first | exact ⟨1, by omega, rfl, HG7.out⟩ | ((repeat apply Exists.intro); exact ⟨⟨1, by omega, rfl, HG7.out⟩, rfl⟩)
      case measure => simp [intOf]
    · go_wp2_with fail
      refine (nobE_bit _ _ _ _ (by first | exact .inl rfl | exact .inr ⟨_, rfl, c0⟩)).mono ?_
      rintro e v1 ⟨rfl, hg1⟩
      have HG1 := Lib.hid (Grow.trans _ _ _ HG0.out hg1)
      clear hg1 a1 a2 a3 a4 b0 b1 c0
      obtain ⟨a1, a2, a3, a4, b0, b1, c0⟩ := HF.out _ HG1.out
      go_wp2_with fail
      refine (nobE_direct _ _ _ _ (by first | exact .inl rfl | exact .inr ⟨_, rfl, c0⟩)).mono ?_
      rintro e v2 ⟨rfl, hg2⟩
      have HG2 := Lib.hid (Grow.trans _ _ _ HG1.out hg2)
      clear hg2 a1 a2 a3 a4 b0 b1 c0
      obtain ⟨a1, a2, a3, a4, b0, b1, c0⟩ := HF.out _ HG2.out
      go_wp2_with fail
      refine (nobE_tree _ _ _ _ _ (by first | exact .inl rfl | exact .inr ⟨_, rfl, c0⟩)).mono ?_
      rintro e v3 ⟨rfl, hg3⟩
      have HG3 := Lib.hid (Grow.trans _ _ _ HG2.out hg3)
      clear hg3 a1 a2 a3 a4 b0 b1 c0
      obtain ⟨a1, a2, a3, a4, b0, b1, c0⟩ := HF.out _ HG3.out
      go_wp2_with fail
      refine (nobE_reverse _ _ _ _ _ (by first | exact .inl rfl | exact .inr ⟨_, rfl, c0⟩)).mono ?_
      rintro e v4 ⟨rfl, hg4⟩
      have HG4 := Lib.hid (Grow.trans _ _ _ HG3.out hg4)
      clear hg4 a1 a2 a3 a4 b0 b1 c0
      obtain ⟨a1, a2, a3, a4, b0, b1, c0⟩ := HF.out _ HG4.out
      go_wp2_with fail
      refine (nobE_set _ _ _ _ _ (by first | exact .inl rfl | exact .inr ⟨_, rfl, c0⟩)).mono ?_
      rintro e v5 ⟨rfl, hg5⟩
      have HG5 := Lib.hid (Grow.trans _ _ _ HG4.out hg5)
      clear hg5 a1 a2 a3 a4 b0 b1 c0
      obtain ⟨a1, a2, a3, a4, b0, b1, c0⟩ := HF.out _ HG5.out
      go_wp2_with fail
      refine (nobE_bytes _ _ (by first | exact .inl rfl | exact .inr ⟨_, rfl, c0⟩)).mono ?_
      rintro e v6 ⟨rfl, hg6⟩
      have HG6 := Lib.hid (Grow.trans _ _ _ HG5.out hg6)
      clear hg6 a1 a2 a3 a4 b0 b1 c0
      obtain ⟨a1, a2, a3, a4, b0, b1, c0⟩ := HF.out _ HG6.out
      go_wp2_with fail
      refine (nobE_chances _ _ (by first | exact .inl rfl | exact .inr ⟨_, rfl, c0⟩)).mono ?_
      rintro e v7 ⟨rfl, hg7⟩
      have HG7 := Lib.hid (Grow.trans _ _ _ HG6.out hg7)
      clear hg7 a1 a2 a3 a4 b0 b1 c0
      obtain ⟨a1, a2, a3, a4, b0, b1, c0⟩ := HF.out _ HG7.out
      go_wp2_with fail
      go_roundw
      case rel => first | exact ⟨2, by omega, rfl, HG7.out⟩ | ((repeat apply Exists.intro); exact ⟨⟨2, by omega, rfl, HG7.out⟩, rfl⟩)
      case measure => simp [intOf]
    · go_wp2_with fail
      obtain ⟨w2, hw_w2⟩ : ∃ w2, w2 = ((wr.alloc (.cells #[.bool false, .slice none 0 0, .int .u32 0, .int .u32 0, .slice none 0 0, .bool false] 72)).alloc (.cells #[.pointer none, .pointer (some ⟨wr.heap.size, 0, none⟩)] 50)) := ⟨_, rfl⟩
      have hz9 : W.heap.size < wr.heap.size := World.block_lt_of_cell? wr _ a1
      have q_a1 : w2.cell? ⟨W.heap.size, 1, none⟩ = some (.int .i64 b) := by subst hw_w2; go_simp
      have q_a2 : w2.cell? ⟨W.heap.size, 2, none⟩ = some (.int .i64 v) := by subst hw_w2; go_simp
      have q_a3 : w2.cell? ⟨W.heap.size, 3, none⟩ = some (.int .i64 n) := by subst hw_w2; go_simp
      have q_a4 : w2.cell? ⟨W.heap.size, 4, none⟩ = some (.slice A m c) := by subst hw_w2; go_simp
      have q_b0 : w2.cell? ⟨wr.heap.size + 1, 0, none⟩ = some (.pointer none) := by subst hw_w2; go_simp
      have q_b1 : w2.cell? ⟨wr.heap.size + 1, 1, none⟩ = some (.pointer (some ⟨wr.heap.size, 0, none⟩)) := by subst hw_w2; go_simp
      have q_c0 : w2.cell? ⟨wr.heap.size, 0, none⟩ = some (.bool false) := by subst hw_w2; go_simp
      clear HF
      have HF : Hid (∀ w7, Grow w2 w7 → w7.cell? ⟨W.heap.size, 1, none⟩ = some (.int .i64 b) ∧ w7.cell? ⟨W.heap.size, 2, none⟩ = some (.int .i64 v) ∧ w7.cell? ⟨W.heap.size, 3, none⟩ = some (.int .i64 n) ∧ w7.cell? ⟨W.heap.size, 4, none⟩ = some (.slice A m c) ∧ w7.cell? ⟨wr.heap.size + 1, 0, none⟩ = some (.pointer none) ∧ w7.cell? ⟨wr.heap.size + 1, 1, none⟩ = some (.pointer (some ⟨wr.heap.size, 0, none⟩)) ∧ w7.cell? ⟨wr.heap.size, 0, none⟩ = some (.bool false)) := fun w7 h7 => ⟨cell_kp q_a1 h7, cell_kp q_a2 h7, cell_kp q_a3 h7, cell_kp q_a4 h7, cell_kp q_b0 h7, cell_kp q_b1 h7, cell_kp q_c0 h7⟩
      clear q_a1 q_a2 q_a3 q_a4 q_b0 q_b1 q_c0
      have hB2 : Grow W w2 := by subst hw_w2; exact ((Grow.trans _ _ _ hB1 HG0.out).alloc _).alloc _
      rw [← hw_w2]
      clear hw_w2 HG0 hB1 c0 b0 b1 a1 a2 a3 a4
      go_loopw [85] (fun i wr => ∃ j : Nat, j ≤ 2 ∧ i = .int .i64 j ∧ Hid (Grow w2 wr)) (fun i _ => 2 - (intOf i).toNat)
      case atStart => exact ⟨0, by omega, rfl, Keeps.refl _ _⟩
      case round =>
        obtain ⟨j, hj, rfl, HG0⟩ := hrel
        obtain ⟨a1, a2, a3, a4, b0, b1, c0⟩ := HF.out _ HG0.out
        rcases (show j = 0 ∨ j = 1 ∨ j = 2 by omega) with rfl | rfl | rfl
        · go_wp2_with fail
          refine (nobD_bit _ _ _ (by first | exact .inl rfl | exact .inr ⟨_, rfl, c0⟩)).mono ?_
          rintro e v1 ⟨rfl, hg1⟩
          have HG1 := Lib.hid (Grow.trans _ _ _ HG0.out hg1)
          clear hg1 a1 a2 a3 a4 b0 b1 c0
          obtain ⟨a1, a2, a3, a4, b0, b1, c0⟩ := HF.out _ HG1.out
          go_wp2_with fail
          refine (nobD_direct _ _ _ (by first | exact .inl rfl | exact .inr ⟨_, rfl, c0⟩)).mono ?_
          rintro e v2 ⟨rfl, hg2⟩
          have HG2 := Lib.hid (Grow.trans _ _ _ HG1.out hg2)
          clear hg2 a1 a2 a3 a4 b0 b1 c0
          obtain ⟨a1, a2, a3, a4, b0, b1, c0⟩ := HF.out _ HG2.out
          go_wp2_with fail
          refine (nobD_tree _ _ _ _ (by first | exact .inl rfl | exact .inr ⟨_, rfl, c0⟩)).mono ?_
          rintro e v3 ⟨rfl, hg3⟩
          have HG3 := Lib.hid (Grow.trans _ _ _ HG2.out hg3)
          clear hg3 a1 a2 a3 a4 b0 b1 c0
          obtain ⟨a1, a2, a3, a4, b0, b1, c0⟩ := HF.out _ HG3.out
          go_wp2_with fail
          refine (nobD_reverse _ _ _ _ (by first | exact .inl rfl | exact .inr ⟨_, rfl, c0⟩)).mono ?_
          rintro e v4 ⟨rfl, hg4⟩
          have HG4 := Lib.hid (Grow.trans _ _ _ HG3.out hg4)
          clear hg4 a1 a2 a3 a4 b0 b1 c0
          obtain ⟨a1, a2, a3, a4, b0, b1, c0⟩ := HF.out _ HG4.out
          go_wp2_with fail
          refine (nobD_set _ _ _ _ _ (by first | exact .inl rfl | exact .inr ⟨_, rfl, c0⟩)).mono ?_
          rintro e v5 ⟨rfl, hg5⟩
          have HG5 := Lib.hid (Grow.trans _ _ _ HG4.out hg5)
          clear hg5 a1 a2 a3 a4 b0 b1 c0
          obtain ⟨a1, a2, a3, a4, b0, b1, c0⟩ := HF.out _ HG5.out
          go_wp2_with fail
          refine (nobD_done _ _ (by first | exact .inl rfl | exact .inr ⟨_, rfl, c0⟩)).mono ?_
          rintro e v6 ⟨rfl, hg6⟩
          have HG6 := Lib.hid (Grow.trans _ _ _ HG5.out hg6)
          clear hg6 a1 a2 a3 a4 b0 b1 c0
          obtain ⟨a1, a2, a3, a4, b0, b1, c0⟩ := HF.out _ HG6.out
          go_wp2_with fail
          refine (nobD_chances _ _ (by first | exact .inl rfl | exact .inr ⟨_, rfl, c0⟩)).mono ?_
          rintro e v7 ⟨rfl, hg7⟩
          have HG7 := Lib.hid (Grow.trans _ _ _ HG6.out hg7)
          clear hg7 a1 a2 a3 a4 b0 b1 c0
          obtain ⟨a1, a2, a3, a4, b0, b1, c0⟩ := HF.out _ HG7.out
          go_wp2_with fail
          go_roundw
          case rel => first | exact ⟨1, by omega, rfl, HG7.out⟩ | ((repeat apply Exists.intro); exact ⟨⟨1, by omega, rfl, HG7.out⟩, rfl⟩)
          case measure => simp [intOf]
        · go_wp2_with fail
          refine (nobD_bit _ _ _ (by first | exact .inl rfl | exact .inr ⟨_, rfl, c0⟩)).mono ?_
          rintro e v1 ⟨rfl, hg1⟩
          have HG1 := Lib.hid (Grow.trans _ _ _ HG0.out hg1)
          clear hg1 a1 a2 a3 a4 b0 b1 c0
          obtain ⟨a1, a2, a3, a4, b0, b1, c0⟩ := HF.out _ HG1.out
          go_wp2_with fail
          refine (nobD_direct _ _ _ (by first | exact .inl rfl | exact .inr ⟨_, rfl, c0⟩)).mono ?_
          rintro e v2 ⟨rfl, hg2⟩
          have HG2 := Lib.hid (Grow.trans _ _ _ HG1.out hg2)
          clear hg2 a1 a2 a3 a4 b0 b1 c0
          obtain ⟨a1, a2, a3, a4, b0, b1, c0⟩ := HF.out _ HG2.out
          go_wp2_with fail
          refine (nobD_tree _ _ _ _ (by first | exact .inl rfl | exact .inr ⟨_, rfl, c0⟩)).mono ?_
          rintro e v3 ⟨rfl, hg3⟩
          have HG3 := Lib.hid (Grow.trans _ _ _ HG2.out hg3)
          clear hg3 a1 a2 a3 a4 b0 b1 c0
          obtain ⟨a1, a2, a3, a4, b0, b1, c0⟩ := HF.out _ HG3.out
          go_wp2_with fail
          refine (nobD_reverse _ _ _ _ (by first | exact .inl rfl | exact .inr ⟨_, rfl, c0⟩)).mono ?_
          rintro e v4 ⟨rfl, hg4⟩
          have HG4 := Lib.hid (Grow.trans _ _ _ HG3.out hg4)
          clear hg4 a1 a2 a3 a4 b0 b1 c0
          obtain ⟨a1, a2, a3, a4, b0, b1, c0⟩ := HF.out _ HG4.out
          go_wp2_with fail
          refine (nobD_set _ _ _ _ _ (by first | exact .inl rfl | exact .inr ⟨_, rfl, c0⟩)).mono ?_
          rintro e v5 ⟨rfl, hg5⟩
          have HG5 := Lib.hid (Grow.trans _ _ _ HG4.out hg5)
          clear hg5 a1 a2 a3 a4 b0 b1 c0
          obtain ⟨a1, a2, a3, a4, b0, b1, c0⟩ := HF.out _ HG5.out
          go_wp2_with fail
          refine (nobD_done _ _ (by first | exact .inl rfl | exact .inr ⟨_, rfl, c0⟩)).mono ?_
          rintro e v6 ⟨rfl, hg6⟩
          have HG6 := Lib.hid (Grow.trans _ _ _ HG5.out hg6)
          clear hg6 a1 a2 a3 a4 b0 b1 c0
          obtain ⟨a1, a2, a3, a4, b0, b1, c0⟩ := HF.out _ HG6.out
          go_wp2_with fail
          refine (nobD_chances _ _ (by first | exact .inl rfl | exact .inr ⟨_, rfl, c0⟩)).mono ?_
          rintro e v7 ⟨rfl, hg7⟩
          have HG7 := Lib.hid (Grow.trans _ _ _ HG6.out hg7)
          clear hg7 a1 a2 a3 a4 b0 b1 c0
          obtain ⟨a1, a2, a3, a4, b0, b1, c0⟩ := HF.out _ HG7.out
          go_wp2_with fail
          go_roundw
          case rel => first | exact ⟨2, by omega, rfl, HG7.out⟩ | ((repeat apply Exists.intro); exact ⟨⟨2, by omega, rfl, HG7.out⟩, rfl⟩)
          case measure => simp [intOf]
        · go_wp2_with fail
          go_ret
          exact ⟨rfl, Keeps.below (Grow.trans _ _ _ hB2 HG0.out) (fun _ _ h => h) (Nat.le_refl _)⟩
end Go.Proofs.Ytiikbpcaeoodjaa
