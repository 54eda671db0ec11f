/- The law LzmaNobody: the walk. -/
import Derived.Test.YtfgmjkfmgbcmiaaN14
namespace Go.Proofs.Ytfgmjkfmgbcmiaa
open Go.RowKit
set_option linter.unusedVariables false
set_option linter.unusedSimpArgs false

theorem cell_kp {w w' : World} {p : Addr} {u : Value} (h : w.cell? p = some u) (k : Grow w w') : w'.cell? p = some u := by
  rw [← h]
  exact World.cell?_of_block (k.block _ (World.block_lt_of_cell? w _ h) (fun h => h))

set_option maxRecDepth 4000 in
set_option maxHeartbeats 4000000 in
theorem walkLzmaNobody (W : World) (cs0 : List Value) (x0 : (Int) × (List (Int)) × (Int) × ((Int) × (Int) × (Int) × Unit) × Unit) (_h0 : Sh.Rd W (.pair (.int .i64) (.pair (.sl 1 (.int .u8)) (.pair (.int .i64) (.pair (.pair (.int .i64) (.pair (.int .i64) (.pair (.int .i64) .nil))) .nil)))) cs0 x0) :
    Calls Try.prog 4 #[.agg cs0.toArray] W fun e w' => e = .returned (.bool true) ∧ Below W.heap.size W w' := by
  obtain ⟨k, l, n, ⟨p, q, r, u1⟩, u2⟩ := x0
  obtain ⟨_, _, rfl, ⟨rfl, hk⟩, _, _, rfl, hb, _, _, rfl, ⟨rfl, hn⟩, _, _, rfl, ⟨_, _, rfl, ⟨rfl, hp⟩, _, _, rfl, ⟨rfl, hq⟩, _, _, rfl, ⟨rfl, hr⟩, h1⟩, h2⟩ := _h0
  obtain ⟨A, c, rfl, _⟩ := hb
  have h1 : _ = [] := h1
  have h2 : _ = [] := h2
  subst h1 h2
  simp only at *
  generalize l.length = m
  go_enter Try.func4, Try.ntmps4
  go_wp2_with fail
  obtain ⟨w1, hw_w1⟩ : ∃ w1, w1 = (((W.alloc (.cells #[.int .i64 k, .slice A m c, .int .i64 n, .int .i64 p, .int .i64 q, .int .i64 r] 38)).alloc (.cells #[.int .i64 0, .bool false, .int .i64 0, .int .i64 0, .int .i64 0, .slice none 0 0, .int .u8 0, .int .i64 0, .int .i64 0, .int .i64 0, .int .i64 0, .int .i64 0, .int .i64 0, .slice none 0 0] 42)).alloc (.cells #[.pointer none, .pointer (some ⟨W.heap.size + 1, 0, none⟩)] 23)) := ⟨_, rfl⟩
  have q_a1 : w1.cell? ⟨W.heap.size, 1, none⟩ = some (.slice A m c) := by subst hw_w1; go_simp
  have q_a2 : w1.cell? ⟨W.heap.size, 2, none⟩ = some (.int .i64 n) := by subst hw_w1; go_simp
  have q_a3 : w1.cell? ⟨W.heap.size, 3, none⟩ = some (.int .i64 p) := by subst hw_w1; go_simp
  have q_a4 : w1.cell? ⟨W.heap.size, 4, none⟩ = some (.int .i64 q) := by subst hw_w1; go_simp
  have q_a5 : w1.cell? ⟨W.heap.size, 5, none⟩ = some (.int .i64 r) := by subst hw_w1; go_simp
  have q_b0 : w1.cell? ⟨W.heap.size + 1 + 1, 0, none⟩ = some (.pointer none) := by subst hw_w1; go_simp
  have q_b1 : w1.cell? ⟨W.heap.size + 1 + 1, 1, none⟩ = some (.pointer (some ⟨W.heap.size + 1, 0, none⟩)) := by subst hw_w1; go_simp
  have q_c0 : w1.cell? ⟨W.heap.size + 1, 0, none⟩ = some (.int .i64 0) := by subst hw_w1; go_simp
  have HF : Hid (∀ w7, Grow w1 w7 → w7.cell? ⟨W.heap.size, 1, none⟩ = some (.slice A m c) ∧ w7.cell? ⟨W.heap.size, 2, none⟩ = some (.int .i64 n) ∧ w7.cell? ⟨W.heap.size, 3, none⟩ = some (.int .i64 p) ∧ w7.cell? ⟨W.heap.size, 4, none⟩ = some (.int .i64 q) ∧ w7.cell? ⟨W.heap.size, 5, none⟩ = some (.int .i64 r) ∧ w7.cell? ⟨W.heap.size + 1 + 1, 0, none⟩ = some (.pointer none) ∧ w7.cell? ⟨W.heap.size + 1 + 1, 1, none⟩ = some (.pointer (some ⟨W.heap.size + 1, 0, none⟩)) ∧ w7.cell? ⟨W.heap.size + 1, 0, none⟩ = some (.int .i64 0)) := fun w7 h7 => ⟨cell_kp q_a1 h7, cell_kp q_a2 h7, cell_kp q_a3 h7, cell_kp q_a4 h7, cell_kp q_a5 h7, cell_kp q_b0 h7, cell_kp q_b1 h7, cell_kp q_c0 h7⟩
  clear q_a1 q_a2 q_a3 q_a4 q_a5 q_b0 q_b1 q_c0
  have hB1 : Grow W w1 := by subst hw_w1; exact (((Keeps.refl (fun _ => False) W).alloc _).alloc _).alloc _
  rw [← hw_w1]
  clear hw_w1
  go_loopw [13] (fun i wr => ∃ j : Nat, j ≤ 2 ∧ i = .int .i64 j ∧ Hid (Grow w1 wr)) (fun i _ => 2 - (intOf i).toNat)
  case atStart => exact ⟨0, by omega, rfl, Keeps.refl _ _⟩
  case round =>
    obtain ⟨j, hj, rfl, HG0⟩ := hrel
    obtain ⟨a1, a2, a3, a4, a5, b0, b1, c0⟩ := HF.out _ HG0.out
    rcases (show j = 0 ∨ j = 1 ∨ j = 2 by omega) with rfl | rfl | rfl
    · go_wp2_with fail
      refine (nobL_pack _ _ _ _ _ (by first | exact .inl rfl | exact .inr ⟨_, rfl, c0⟩)).mono ?_
      rintro e v1 ⟨rfl, hg1⟩
      have HG1 := Lib.hid (Grow.trans _ _ _ HG0.out hg1)
      clear hg1 a1 a2 a3 a4 a5 b0 b1 c0
      obtain ⟨a1, a2, a3, a4, a5, b0, b1, c0⟩ := HF.out _ HG1.out
      go_wp2_with fail
      refine (nobL_unpack _ _ _ _ _ _ (by first | exact .inl rfl | exact .inr ⟨_, rfl, c0⟩)).mono ?_
      rintro e v2 ⟨rfl, hg2⟩
      have HG2 := Lib.hid (Grow.trans _ _ _ HG1.out hg2)
      clear hg2 a1 a2 a3 a4 a5 b0 b1 c0
      obtain ⟨a1, a2, a3, a4, a5, b0, b1, c0⟩ := HF.out _ HG2.out
      go_wp2_with fail
      refine (nobL_reset _ _ _ _ _ (by first | exact .inl rfl | exact .inr ⟨_, rfl, c0⟩)).mono ?_
      rintro e v3 ⟨rfl, hg3⟩
      have HG3 := Lib.hid (Grow.trans _ _ _ HG2.out hg3)
      clear hg3 a1 a2 a3 a4 a5 b0 b1 c0
      obtain ⟨a1, a2, a3, a4, a5, b0, b1, c0⟩ := HF.out _ HG3.out
      go_wp2_with fail
      refine (nobL_restart _ _ (by first | exact .inl rfl | exact .inr ⟨_, rfl, c0⟩)).mono ?_
      rintro e v4 ⟨rfl, hg4⟩
      have HG4 := Lib.hid (Grow.trans _ _ _ HG3.out hg4)
      clear hg4 a1 a2 a3 a4 a5 b0 b1 c0
      obtain ⟨a1, a2, a3, a4, a5, b0, b1, c0⟩ := HF.out _ HG4.out
      go_wp2_with fail
      refine (nobL_forget _ _ (by first | exact .inl rfl | exact .inr ⟨_, rfl, c0⟩)).mono ?_
      rintro e v5 ⟨rfl, hg5⟩
      have HG5 := Lib.hid (Grow.trans _ _ _ HG4.out hg5)
      clear hg5 a1 a2 a3 a4 a5 b0 b1 c0
      obtain ⟨a1, a2, a3, a4, a5, b0, b1, c0⟩ := HF.out _ HG5.out
      go_wp2_with fail
      refine (nobL_copy _ _ _ _ _ (by first | exact .inl rfl | exact .inr ⟨_, rfl, c0⟩)).mono ?_
      rintro e v6 ⟨rfl, hg6⟩
      have HG6 := Lib.hid (Grow.trans _ _ _ HG5.out hg6)
      clear hg6 a1 a2 a3 a4 a5 b0 b1 c0
      obtain ⟨a1, a2, a3, a4, a5, b0, b1, c0⟩ := HF.out _ HG6.out
      go_wp2_with fail
      refine (nobL_text _ _ (by first | exact .inl rfl | exact .inr ⟨_, rfl, c0⟩)).mono ?_
      rintro e v7 ⟨rfl, hg7⟩
      have HG7 := Lib.hid (Grow.trans _ _ _ HG6.out hg7)
      clear hg7 a1 a2 a3 a4 a5 b0 b1 c0
      obtain ⟨a1, a2, a3, a4, a5, b0, b1, c0⟩ := HF.out _ HG7.out
      go_wp2_with fail
      go_roundw
      case rel => first | exact ⟨1, by omega, rfl, HG7.out⟩ | ((repeat apply Exists.intro); exact ⟨⟨1, by omega, rfl, HG7.out⟩, rfl⟩)
      case measure => simp [intOf]
    · go_wp2_with fail
      refine (nobL_pack _ _ _ _ _ (by first | exact .inl rfl | exact .inr ⟨_, rfl, c0⟩)).mono ?_
      rintro e v1 ⟨rfl, hg1⟩
      have HG1 := Lib.hid (Grow.trans _ _ _ HG0.out hg1)
      clear hg1 a1 a2 a3 a4 a5 b0 b1 c0
      obtain ⟨a1, a2, a3, a4, a5, b0, b1, c0⟩ := HF.out _ HG1.out
      go_wp2_with fail
      refine (nobL_unpack _ _ _ _ _ _ (by first | exact .inl rfl | exact .inr ⟨_, rfl, c0⟩)).mono ?_
      rintro e v2 ⟨rfl, hg2⟩
      have HG2 := Lib.hid (Grow.trans _ _ _ HG1.out hg2)
      clear hg2 a1 a2 a3 a4 a5 b0 b1 c0
      obtain ⟨a1, a2, a3, a4, a5, b0, b1, c0⟩ := HF.out _ HG2.out
      go_wp2_with fail
      refine (nobL_reset _ _ _ _ _ (by first | exact .inl rfl | exact .inr ⟨_, rfl, c0⟩)).mono ?_
      rintro e v3 ⟨rfl, hg3⟩
      have HG3 := Lib.hid (Grow.trans _ _ _ HG2.out hg3)
      clear hg3 a1 a2 a3 a4 a5 b0 b1 c0
      obtain ⟨a1, a2, a3, a4, a5, b0, b1, c0⟩ := HF.out _ HG3.out
      go_wp2_with fail
      refine (nobL_restart _ _ (by first | exact .inl rfl | exact .inr ⟨_, rfl, c0⟩)).mono ?_
      rintro e v4 ⟨rfl, hg4⟩
      have HG4 := Lib.hid (Grow.trans _ _ _ HG3.out hg4)
      clear hg4 a1 a2 a3 a4 a5 b0 b1 c0
      obtain ⟨a1, a2, a3, a4, a5, b0, b1, c0⟩ := HF.out _ HG4.out
      go_wp2_with fail
      refine (nobL_forget _ _ (by first | exact .inl rfl | exact .inr ⟨_, rfl, c0⟩)).mono ?_
      rintro e v5 ⟨rfl, hg5⟩
      have HG5 := Lib.hid (Grow.trans _ _ _ HG4.out hg5)
      clear hg5 a1 a2 a3 a4 a5 b0 b1 c0
      obtain ⟨a1, a2, a3, a4, a5, b0, b1, c0⟩ := HF.out _ HG5.out
      go_wp2_with fail
      refine (nobL_copy _ _ _ _ _ (by first | exact .inl rfl | exact .inr ⟨_, rfl, c0⟩)).mono ?_
      rintro e v6 ⟨rfl, hg6⟩
      have HG6 := Lib.hid (Grow.trans _ _ _ HG5.out hg6)
      clear hg6 a1 a2 a3 a4 a5 b0 b1 c0
      obtain ⟨a1, a2, a3, a4, a5, b0, b1, c0⟩ := HF.out _ HG6.out
      go_wp2_with fail
      refine (nobL_text _ _ (by first | exact .inl rfl | exact .inr ⟨_, rfl, c0⟩)).mono ?_
      rintro e v7 ⟨rfl, hg7⟩
      have HG7 := Lib.hid (Grow.trans _ _ _ HG6.out hg7)
      clear hg7 a1 a2 a3 a4 a5 b0 b1 c0
      obtain ⟨a1, a2, a3, a4, a5, b0, b1, c0⟩ := HF.out _ HG7.out
      go_wp2_with fail
      go_roundw
      case rel => first | exact ⟨2, by omega, rfl, HG7.out⟩ | ((repeat apply Exists.intro); exact ⟨⟨2, by omega, rfl, HG7.out⟩, rfl⟩)
      case measure => simp [intOf]
    · go_wp2_with fail
      go_ret
      exact ⟨rfl, Keeps.below (Grow.trans _ _ _ hB1 HG0.out) (fun _ _ h => h) (Nat.le_refl _)⟩
end Go.Proofs.Ytfgmjkfmgbcmiaa
