/- prefix codes that no call made. -/
import Derived.Test.YtofalbbbnhnadaaNums
namespace Go.Proofs.Ytofalbbbnhnadaa
open Go.RowKit
set_option linter.unusedVariables false
set_option linter.unusedSimpArgs false

/-- Nobody: no pointer, or one to a value that no call made. -/
def NobC (w : World) (p : Option Addr) : Prop := p = none ∨ ∃ g, p = some ⟨g, 0, none⟩ ∧ w.cell? ⟨g, 0, none⟩ = some (.slice none 0 0)
theorem NobC.grow {w w' : World} {p : Option Addr} (h : NobC w p) (q : Grow w w') : NobC w' p := by
  rcases h with h | ⟨g, hp, hc⟩
  · exact .inl h
  · exact .inr ⟨g, hp, by rw [← hc]; exact World.cell?_of_block (q.block _ (World.block_lt_of_cell? w _ hc) fun h => h)⟩

set_option maxRecDepth 4000 in
theorem nobC_none (w : World) (p : Option Addr) (h : NobC w p) : Calls Try.prog 31 #[.pointer p] w fun e w' => e = .returned (.bool true) ∧ Grow w w' := by
  have he : ∀ w : World, (binOp .eql 50 (.slice none 0 0) (.slice none 0 0)).run Try.prog w = .ok (.bool true) w := fun _ => rfl
  rcases h with rfl | ⟨g, rfl, c0⟩
  all_goals
    go_enter Try.func31, Try.ntmps31
    go_wp2
    go_ret
    exact ⟨rfl, Keeps.refl _ _⟩

set_option maxRecDepth 4000 in
theorem nobC_word (w : World) (p : Option Addr) (x0 : Int) (h : NobC w p) : Calls Try.prog 14 #[.pointer p, .int .i64 x0] w fun e w' => e = .returned (.tuple #[.int .u32 0, .int .i64 0, .int .i64 1]) ∧ Grow w w' := by
  have hh := h
  rcases h with rfl | ⟨g, rfl, c0⟩
  all_goals
    go_enter Try.func14, Try.ntmps14
    go_wp2_with fail
    refine (nobC_none _ _ (hh.grow (by first | exact Keeps.refl _ _ | exact (Keeps.refl _ _).alloc _ | exact ((Keeps.refl _ _).alloc _).alloc _))).mono ?_
    rintro e w1 ⟨rfl, hg1⟩
    have HG : Hid (Grow w w1) := Keeps.trans (by first | exact Keeps.refl _ _ | exact (Keeps.refl _ _).alloc _ | exact ((Keeps.refl _ _).alloc _).alloc _) hg1 fun _ _ h => h
    clear hg1
    go_wp2_with fail
    (try rw [Exit.noGoto_ret])
    go_ret3
    exact ⟨rfl, HG.out⟩

set_option maxRecDepth 4000 in
theorem nobC_get (w : World) (p : Option Addr) (q0 : Option Addr) (h : NobC w p) : Calls Try.prog 18 #[.pointer p, .pointer q0] w fun e w' => e = .returned (.tuple #[.int .i64 0, .int .i64 1]) ∧ Grow w w' := by
  have hh := h
  rcases h with rfl | ⟨g, rfl, c0⟩
  all_goals
    go_enter Try.func18, Try.ntmps18
    go_wp2_with fail
    refine (nobC_none _ _ (hh.grow (by first | exact Keeps.refl _ _ | exact (Keeps.refl _ _).alloc _ | exact ((Keeps.refl _ _).alloc _).alloc _))).mono ?_
    rintro e w1 ⟨rfl, hg1⟩
    have HG : Hid (Grow w w1) := Keeps.trans (by first | exact Keeps.refl _ _ | exact (Keeps.refl _ _).alloc _ | exact ((Keeps.refl _ _).alloc _).alloc _) hg1 fun _ _ h => h
    clear hg1
    go_wp2_with fail
    (try rw [Exit.noGoto_ret])
    go_ret2
    exact ⟨rfl, HG.out⟩

set_option maxRecDepth 4000 in
theorem nobC_cost (w : World) (p : Option Addr) (A0 : Option Addr) (n0 m0 : Nat) (h : NobC w p) : Calls Try.prog 11 #[.pointer p, .slice A0 n0 m0] w fun e w' => e = .returned (.tuple #[.int .i64 0, .int .i64 1]) ∧ Grow w w' := by
  have hh := h
  rcases h with rfl | ⟨g, rfl, c0⟩
  all_goals
    go_enter Try.func11, Try.ntmps11
    go_wp2_with fail
    refine (nobC_none _ _ (hh.grow (by first | exact Keeps.refl _ _ | exact (Keeps.refl _ _).alloc _ | exact ((Keeps.refl _ _).alloc _).alloc _))).mono ?_
    rintro e w1 ⟨rfl, hg1⟩
    have HG : Hid (Grow w w1) := Keeps.trans (by first | exact Keeps.refl _ _ | exact (Keeps.refl _ _).alloc _ | exact ((Keeps.refl _ _).alloc _).alloc _) hg1 fun _ _ h => h
    clear hg1
    go_wp2_with fail
    (try rw [Exit.noGoto_ret])
    go_ret2
    exact ⟨rfl, HG.out⟩

set_option maxRecDepth 4000 in
theorem nobC_put (w : World) (p : Option Addr) (q0 : Option Addr) (x1 : Int) (h : NobC w p) : Calls Try.prog 19 #[.pointer p, .pointer q0, .int .i64 x1] w fun e w' => e = .returned (.int .i64 1) ∧ Grow w w' := by
  have hh := h
  rcases h with rfl | ⟨g, rfl, c0⟩
  all_goals
    go_enter Try.func19, Try.ntmps19
    go_wp2_with fail
    refine (nobC_none _ _ (hh.grow (by first | exact Keeps.refl _ _ | exact (Keeps.refl _ _).alloc _ | exact ((Keeps.refl _ _).alloc _).alloc _))).mono ?_
    rintro e w1 ⟨rfl, hg1⟩
    have HG : Hid (Grow w w1) := Keeps.trans (by first | exact Keeps.refl _ _ | exact (Keeps.refl _ _).alloc _ | exact ((Keeps.refl _ _).alloc _).alloc _) hg1 fun _ _ h => h
    clear hg1
    go_wp2_with fail
    (try rw [Exit.noGoto_ret])
    go_ret
    exact ⟨rfl, HG.out⟩

set_option maxRecDepth 4000 in
theorem nobC_symbols (w : World) (p : Option Addr)  (h : NobC w p) : Calls Try.prog 13 #[.pointer p] w fun e w' => e = .returned (.int .i64 0) ∧ Grow w w' := by
  have hh := h
  rcases h with rfl | ⟨g, rfl, c0⟩
  all_goals
    go_enter Try.func13, Try.ntmps13
    go_wp2_with fail
    refine (nobC_none _ _ (hh.grow (by first | exact Keeps.refl _ _ | exact (Keeps.refl _ _).alloc _ | exact ((Keeps.refl _ _).alloc _).alloc _))).mono ?_
    rintro e w1 ⟨rfl, hg1⟩
    have HG : Hid (Grow w w1) := Keeps.trans (by first | exact Keeps.refl _ _ | exact (Keeps.refl _ _).alloc _ | exact ((Keeps.refl _ _).alloc _).alloc _) hg1 fun _ _ h => h
    clear hg1
    go_wp2_with fail
    (try rw [Exit.noGoto_ret])
    go_ret
    exact ⟨rfl, HG.out⟩
end Go.Proofs.Ytofalbbbnhnadaa
