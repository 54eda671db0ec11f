/- lzma states that no call made. -/
import Derived.Test.YtfgmjkfmgbcmiaaNums
namespace Go.Proofs.Ytfgmjkfmgbcmiaa
open Go.RowKit
set_option linter.unusedVariables false
set_option linter.unusedSimpArgs false

/-- Nobody: no pointer, or one to a value that no call made. -/
def NobL (w : World) (p : Option Addr) : Prop := p = none ∨ ∃ g, p = some ⟨g, 0, none⟩ ∧ w.cell? ⟨g, 0, none⟩ = some (.int .i64 0)
theorem NobL.grow {w w' : World} {p : Option Addr} (h : NobL w p) (q : Grow w w') : NobL w' p := by
  rcases h with h | ⟨g, hp, hc⟩
  · exact .inl h
  · exact .inr ⟨g, hp, by rw [← hc]; exact World.cell?_of_block (q.block _ (World.block_lt_of_cell? w _ hc) fun h => h)⟩

set_option maxRecDepth 4000 in
theorem nobL_none (w : World) (p : Option Addr) (h : NobL w p) : Calls Try.prog 16 #[.pointer p] w fun e w' => e = .returned (.bool true) ∧ Grow w w' := by
  rcases h with rfl | ⟨g, rfl, c0⟩
  all_goals
    go_enter Try.func16, Try.ntmps16
    go_wp2
    go_ret
    exact ⟨rfl, Keeps.refl _ _⟩

set_option maxRecDepth 4000 in
theorem nobL_pack (w : World) (p : Option Addr) (A0 : Option Addr) (n0 m0 : Nat) (h : NobL w p) : Calls Try.prog 9 #[.pointer p, .slice A0 n0 m0] w fun e w' => e = .returned (.tuple #[.slice none 0 0, .int .i64 1]) ∧ Grow w w' := by
  have hh := h
  rcases h with rfl | ⟨g, rfl, c0⟩
  all_goals
    go_enter Try.func9, Try.ntmps9
    go_wp2_with fail
    refine (nobL_none _ _ (hh.grow (by first | exact Keeps.refl _ _ | exact (Keeps.refl _ _).alloc _ | exact ((Keeps.refl _ _).alloc _).alloc _))).mono ?_
    rintro e w1 ⟨rfl, hg1⟩
    have HG : Hid (Grow w w1) := Keeps.trans (by first | exact Keeps.refl _ _ | exact (Keeps.refl _ _).alloc _ | exact ((Keeps.refl _ _).alloc _).alloc _) hg1 fun _ _ h => h
    clear hg1
    go_wp2_with fail
    (try rw [Exit.noGoto_ret])
    go_ret2
    exact ⟨rfl, HG.out⟩

set_option maxRecDepth 4000 in
theorem nobL_unpack (w : World) (p : Option Addr) (A0 : Option Addr) (n0 m0 : Nat) (x1 : Int) (h : NobL w p) : Calls Try.prog 12 #[.pointer p, .slice A0 n0 m0, .int .i64 x1] w fun e w' => e = .returned (.tuple #[.slice none 0 0, .int .i64 1]) ∧ Grow w w' := by
  have hh := h
  rcases h with rfl | ⟨g, rfl, c0⟩
  all_goals
    go_enter Try.func12, Try.ntmps12
    go_wp2_with fail
    go_step3
    go_wp2_with fail
    refine (nobL_none _ _ (hh.grow (by first | exact Keeps.refl _ _ | exact (Keeps.refl _ _).alloc _ | exact ((Keeps.refl _ _).alloc _).alloc _))).mono ?_
    rintro e w1 ⟨rfl, hg1⟩
    have HG : Hid (Grow w w1) := Keeps.trans (by first | exact Keeps.refl _ _ | exact (Keeps.refl _ _).alloc _ | exact ((Keeps.refl _ _).alloc _).alloc _) hg1 fun _ _ h => h
    clear hg1
    go_wp2_with fail
    (try rw [Exit.noGoto_ret])
    go_ret2
    exact ⟨rfl, HG.out⟩

set_option maxRecDepth 4000 in
theorem nobL_reset (w : World) (p : Option Addr) (x0 y0 z0 : Int) (h : NobL w p) : Calls Try.prog 7 #[.pointer p, .agg #[.int .i64 x0, .int .i64 y0, .int .i64 z0]] w fun e w' => e = .returned (.int .i64 1) ∧ Grow w w' := by
  have hh := h
  rcases h with rfl | ⟨g, rfl, c0⟩
  all_goals
    go_enter Try.func7, Try.ntmps7
    go_wp2_with fail
    refine (nobL_none _ _ (hh.grow (by first | exact Keeps.refl _ _ | exact (Keeps.refl _ _).alloc _ | exact ((Keeps.refl _ _).alloc _).alloc _))).mono ?_
    rintro e w1 ⟨rfl, hg1⟩
    have HG : Hid (Grow w w1) := Keeps.trans (by first | exact Keeps.refl _ _ | exact (Keeps.refl _ _).alloc _ | exact ((Keeps.refl _ _).alloc _).alloc _) hg1 fun _ _ h => h
    clear hg1
    go_wp2_with fail
    (try rw [Exit.noGoto_ret])
    go_ret
    exact ⟨rfl, HG.out⟩

set_option maxRecDepth 4000 in
theorem nobL_restart (w : World) (p : Option Addr)  (h : NobL w p) : Calls Try.prog 13 #[.pointer p] w fun e w' => e = .returned (.int .i64 1) ∧ Grow w w' := by
  have hh := h
  rcases h with rfl | ⟨g, rfl, c0⟩
  all_goals
    go_enter Try.func13, Try.ntmps13
    go_wp2_with fail
    refine (nobL_none _ _ (hh.grow (by first | exact Keeps.refl _ _ | exact (Keeps.refl _ _).alloc _ | exact ((Keeps.refl _ _).alloc _).alloc _))).mono ?_
    rintro e w1 ⟨rfl, hg1⟩
    have HG : Hid (Grow w w1) := Keeps.trans (by first | exact Keeps.refl _ _ | exact (Keeps.refl _ _).alloc _ | exact ((Keeps.refl _ _).alloc _).alloc _) hg1 fun _ _ h => h
    clear hg1
    go_wp2_with fail
    (try rw [Exit.noGoto_ret])
    go_ret
    exact ⟨rfl, HG.out⟩

set_option maxRecDepth 4000 in
theorem nobL_forget (w : World) (p : Option Addr)  (h : NobL w p) : Calls Try.prog 11 #[.pointer p] w fun e w' => e = .returned (.int .i64 1) ∧ Grow w w' := by
  have hh := h
  rcases h with rfl | ⟨g, rfl, c0⟩
  all_goals
    go_enter Try.func11, Try.ntmps11
    go_wp2_with fail
    refine (nobL_none _ _ (hh.grow (by first | exact Keeps.refl _ _ | exact (Keeps.refl _ _).alloc _ | exact ((Keeps.refl _ _).alloc _).alloc _))).mono ?_
    rintro e w1 ⟨rfl, hg1⟩
    have HG : Hid (Grow w w1) := Keeps.trans (by first | exact Keeps.refl _ _ | exact (Keeps.refl _ _).alloc _ | exact ((Keeps.refl _ _).alloc _).alloc _) hg1 fun _ _ h => h
    clear hg1
    go_wp2_with fail
    (try rw [Exit.noGoto_ret])
    go_ret
    exact ⟨rfl, HG.out⟩

set_option maxRecDepth 4000 in
theorem nobL_copy (w : World) (p : Option Addr) (A0 : Option Addr) (n0 m0 : Nat) (h : NobL w p) : Calls Try.prog 8 #[.pointer p, .slice A0 n0 m0] w fun e w' => e = .returned (.int .i64 1) ∧ Grow w w' := by
  have hh := h
  rcases h with rfl | ⟨g, rfl, c0⟩
  all_goals
    go_enter Try.func8, Try.ntmps8
    go_wp2_with fail
    refine (nobL_none _ _ (hh.grow (by first | exact Keeps.refl _ _ | exact (Keeps.refl _ _).alloc _ | exact ((Keeps.refl _ _).alloc _).alloc _))).mono ?_
    rintro e w1 ⟨rfl, hg1⟩
    have HG : Hid (Grow w w1) := Keeps.trans (by first | exact Keeps.refl _ _ | exact (Keeps.refl _ _).alloc _ | exact ((Keeps.refl _ _).alloc _).alloc _) hg1 fun _ _ h => h
    clear hg1
    go_wp2_with fail
    (try rw [Exit.noGoto_ret])
    go_ret
    exact ⟨rfl, HG.out⟩

set_option maxRecDepth 4000 in
theorem nobL_text (w : World) (p : Option Addr)  (h : NobL w p) : Calls Try.prog 10 #[.pointer p] w fun e w' => e = .returned (.slice none 0 0) ∧ Grow w w' := by
  have hh := h
  rcases h with rfl | ⟨g, rfl, c0⟩
  all_goals
    go_enter Try.func10, Try.ntmps10
    go_wp2_with fail
    refine (nobL_none _ _ (hh.grow (by first | exact Keeps.refl _ _ | exact (Keeps.refl _ _).alloc _ | exact ((Keeps.refl _ _).alloc _).alloc _))).mono ?_
    rintro e w1 ⟨rfl, hg1⟩
    have HG : Hid (Grow w w1) := Keeps.trans (by first | exact Keeps.refl _ _ | exact (Keeps.refl _ _).alloc _ | exact ((Keeps.refl _ _).alloc _).alloc _) hg1 fun _ _ h => h
    clear hg1
    go_wp2_with fail
    (try rw [Exit.noGoto_ret])
    go_ret
    exact ⟨rfl, HG.out⟩
end Go.Proofs.Ytfgmjkfmgbcmiaa
