/- The law BitsNobody: the walk. -/
import Derived.Test.YtbggeilejdnaeaaNob
namespace Go.Proofs.Ytbggeilejdnaeaa
open Go.RowKit
set_option linter.unusedVariables false

/-- What an act's cells are. -/
theorem act_rd {w : World} {cs : List Value} {x : (Int) × (Int) × (Int) × (List (Int)) × Unit} (h : Sh.Rd w (.pair (.int .i64) (.pair (.int .u64) (.pair (.int .i64) (.pair (.sl 1 (.int .u8)) .nil)))) cs x) :
    ∃ A c, cs = [.int .i64 x.1, .int .u64 x.2.1, .int .i64 x.2.2.1, .slice A x.2.2.2.1.length c] ∧ (Lit.int .i64 x.1).wf = true ∧ (Lit.int .u64 x.2.1).wf = true ∧ (Lit.int .i64 x.2.2.1).wf = true ∧
      Sh.Rd w (.sl 1 (.int .u8)) [.slice A x.2.2.2.1.length c] x.2.2.2.1 := by
  obtain ⟨_, _, rfl, ⟨rfl, hk⟩, _, _, rfl, ⟨rfl, hv⟩, _, _, rfl, ⟨rfl, hn⟩, _, _, rfl, hb, hu⟩ := h
  obtain ⟨A, c, e, r⟩ := hb
  have hu : _ = [] := hu
  subst hu
  subst e
  exact ⟨A, c, rfl, hk, hv, hn, A, c, rfl, r⟩

theorem walkBitsNobody (W : World) (cs0 : List Value) (x0 : (Int) × (Int) × (Int) × (List (Int)) × Unit) (_h0 : Sh.Rd W (.pair (.int .i64) (.pair (.int .u64) (.pair (.int .i64) (.pair (.sl 1 (.int .u8)) .nil)))) cs0 x0) :
    Calls Try.prog 7 #[.agg cs0.toArray] W fun e w' => e = .returned (.bool true) ∧ Below W.heap.size W w' := by
  obtain ⟨A, c, rfl, hk, hv, hn, _⟩ := act_rd _h0
  clear _h0
  generalize x0.2.2.2.1.length = m
  generalize x0.1 = k at *
  generalize x0.2.1 = v at *
  generalize x0.2.2.1 = n at *
  go_enter Try.func7, Try.ntmps7
  go_wp2_with fail
  obtain ⟨w1, hw1⟩ : ∃ w1, w1 = (((W.alloc (.cells #[.int .i64 k, .int .u64 v, .int .i64 n, .slice A m c] 36)).alloc (.cells #[.bool false, .bool false, .slice none 0 0, .int .i64 0] 53)).alloc (.cells #[.pointer none, .pointer (some ⟨W.heap.size + 1, 0, none⟩)] 23)) := ⟨_, rfl⟩
  have a1 : w1.cell? ⟨W.heap.size, 1, none⟩ = some (.int .u64 v) := by subst hw1; go_simp
  have a2 : w1.cell? ⟨W.heap.size, 2, none⟩ = some (.int .i64 n) := by subst hw1; go_simp
  have a3 : w1.cell? ⟨W.heap.size, 3, none⟩ = some (.slice A m c) := by subst hw1; go_simp
  have b0 : w1.cell? ⟨W.heap.size + 1 + 1, 0, none⟩ = some (.pointer none) := by subst hw1; go_simp
  have b1 : w1.cell? ⟨W.heap.size + 1 + 1, 1, none⟩ = some (.pointer (some ⟨W.heap.size + 1, 0, none⟩)) := by subst hw1; go_simp
  have c10 : w1.cell? ⟨W.heap.size + 1, 0, none⟩ = some (.bool false) := by subst hw1; go_simp
  have hz : w1.heap.size = W.heap.size + 1 + 1 + 1 := by subst hw1; go_simp
  have hB1 : Keeps (fun _ => False) W w1 := by subst hw1; exact (((Keeps.refl (fun _ => False) W).alloc _).alloc _).alloc _
  have HZ := Lib.hid hz
  rw [← hw1]
  clear hw1 hz
  go_loopw [15] (fun i wr => ∃ j : Nat, j ≤ 2 ∧ i = .int .i64 j ∧ wr = w1) (fun i _ => 2 - (intOf i).toNat)
  case atStart => exact ⟨0, by omega, rfl, rfl⟩
  case round =>
    obtain ⟨j, hj, rfl, rfl⟩ := hrel
    rcases (show j = 0 ∨ j = 1 ∨ j = 2 by omega) with rfl | rfl | rfl
    · go_wp2_with (first
            | (go_at_call 9; refine (nob_put _ _ _ _ (by first | exact .inl rfl | exact .inr ⟨_, rfl, c10⟩)).mono ?_; rintro e w9 ⟨rfl, rfl⟩)
            | (go_at_call 15; refine (nob_walign _ _ (by first | exact .inl rfl | exact .inr ⟨_, rfl, c10⟩)).mono ?_; rintro e w9 ⟨rfl, rfl⟩)
            | (go_at_call 16; refine (nob_putBytes _ _ _ _ _ (by first | exact .inl rfl | exact .inr ⟨_, rfl, c10⟩)).mono ?_; rintro e w9 ⟨rfl, rfl⟩)
            | (go_at_call 10; refine (nob_len _ _ (by first | exact .inl rfl | exact .inr ⟨_, rfl, c10⟩)).mono ?_; rintro e w9 ⟨rfl, rfl⟩)
            | (go_at_call 11; refine (nob_bytes _ _ (by first | exact .inl rfl | exact .inr ⟨_, rfl, c10⟩)).mono ?_; rintro e w9 ⟨rfl, rfl⟩))
      go_roundw
      case rel => exact ⟨1, by omega, rfl, by trivial⟩
      case measure => simp [intOf]
    · go_wp2_with (first
            | (go_at_call 9; refine (nob_put _ _ _ _ (by first | exact .inl rfl | exact .inr ⟨_, rfl, c10⟩)).mono ?_; rintro e w9 ⟨rfl, rfl⟩)
            | (go_at_call 15; refine (nob_walign _ _ (by first | exact .inl rfl | exact .inr ⟨_, rfl, c10⟩)).mono ?_; rintro e w9 ⟨rfl, rfl⟩)
            | (go_at_call 16; refine (nob_putBytes _ _ _ _ _ (by first | exact .inl rfl | exact .inr ⟨_, rfl, c10⟩)).mono ?_; rintro e w9 ⟨rfl, rfl⟩)
            | (go_at_call 10; refine (nob_len _ _ (by first | exact .inl rfl | exact .inr ⟨_, rfl, c10⟩)).mono ?_; rintro e w9 ⟨rfl, rfl⟩)
            | (go_at_call 11; refine (nob_bytes _ _ (by first | exact .inl rfl | exact .inr ⟨_, rfl, c10⟩)).mono ?_; rintro e w9 ⟨rfl, rfl⟩))
      go_roundw
      case rel => exact ⟨2, by omega, rfl, by trivial⟩
      case measure => simp [intOf]
    · go_wp2_with fail
      have hz := HZ.out
      rw [hz]
      obtain ⟨w2, hw2⟩ : ∃ w2, w2 = ((wr.alloc (.cells #[.bool false, .bool false, .slice none 0 0, .int .i64 0] 56)).alloc (.cells #[.pointer none, .pointer (some ⟨W.heap.size + 1 + 1 + 1, 0, none⟩)] 44)) := ⟨_, rfl⟩
      have d2 : w2.cell? ⟨W.heap.size, 2, none⟩ = some (.int .i64 n) := by subst hw2; go_simp
      have e0 : w2.cell? ⟨W.heap.size + 1 + 1 + 1 + 1, 0, none⟩ = some (.pointer none) := by subst hw2; go_simp
      have e1 : w2.cell? ⟨W.heap.size + 1 + 1 + 1 + 1, 1, none⟩ = some (.pointer (some ⟨W.heap.size + 1 + 1 + 1, 0, none⟩)) := by subst hw2; go_simp
      have d10 : w2.cell? ⟨W.heap.size + 1 + 1 + 1, 0, none⟩ = some (.bool false) := by subst hw2; go_simp
      have hB : Below W.heap.size W w2 := by subst hw2; exact ((hB1.alloc _).alloc _).below (fun _ _ h => h) (Nat.le_refl _)
      rw [← hw2]
      clear hw2 a1 a2 a3 b0 b1 c10 hz
      go_loopw [54] (fun i wr => ∃ j : Nat, j ≤ 2 ∧ i = .int .i64 j ∧ wr = w2) (fun i _ => 2 - (intOf i).toNat)
      case atStart => exact ⟨0, by omega, rfl, rfl⟩
      case round =>
        obtain ⟨j, hj, rfl, rfl⟩ := hrel
        rcases (show j = 0 ∨ j = 1 ∨ j = 2 by omega) with rfl | rfl | rfl
        · go_wp2_with (first
            | (go_at_call 22; refine (nob_get _ _ _ (by first | exact .inl rfl | exact .inr ⟨_, rfl, d10⟩)).mono ?_; rintro e w9 ⟨rfl, rfl⟩)
            | (go_at_call 24; refine (nob_ralign _ _ (by first | exact .inl rfl | exact .inr ⟨_, rfl, d10⟩)).mono ?_; rintro e w9 ⟨rfl, rfl⟩)
            | (go_at_call 25; refine (nob_rbytes _ _ _ (by first | exact .inl rfl | exact .inr ⟨_, rfl, d10⟩)).mono ?_; rintro e w9 ⟨rfl, rfl⟩)
            | (go_at_call 20; refine (nob_at _ _ (by first | exact .inl rfl | exact .inr ⟨_, rfl, d10⟩)).mono ?_; rintro e w9 ⟨rfl, rfl⟩)
            | (go_at_call 21; refine (nob_left _ _ (by first | exact .inl rfl | exact .inr ⟨_, rfl, d10⟩)).mono ?_; rintro e w9 ⟨rfl, rfl⟩))
          go_roundw
          case rel => (repeat apply Exists.intro); exact ⟨⟨1, by omega, rfl, by trivial⟩, rfl⟩
          case measure => simp [intOf]
        · go_wp2_with (first
            | (go_at_call 22; refine (nob_get _ _ _ (by first | exact .inl rfl | exact .inr ⟨_, rfl, d10⟩)).mono ?_; rintro e w9 ⟨rfl, rfl⟩)
            | (go_at_call 24; refine (nob_ralign _ _ (by first | exact .inl rfl | exact .inr ⟨_, rfl, d10⟩)).mono ?_; rintro e w9 ⟨rfl, rfl⟩)
            | (go_at_call 25; refine (nob_rbytes _ _ _ (by first | exact .inl rfl | exact .inr ⟨_, rfl, d10⟩)).mono ?_; rintro e w9 ⟨rfl, rfl⟩)
            | (go_at_call 20; refine (nob_at _ _ (by first | exact .inl rfl | exact .inr ⟨_, rfl, d10⟩)).mono ?_; rintro e w9 ⟨rfl, rfl⟩)
            | (go_at_call 21; refine (nob_left _ _ (by first | exact .inl rfl | exact .inr ⟨_, rfl, d10⟩)).mono ?_; rintro e w9 ⟨rfl, rfl⟩))
          go_roundw
          case rel => (repeat apply Exists.intro); exact ⟨⟨2, by omega, rfl, by trivial⟩, rfl⟩
          case measure => simp [intOf]
        · go_wp2
          go_ret
          exact ⟨rfl, hB⟩
end Go.Proofs.Ytbggeilejdnaeaa
