/- ranger coders that no call made. -/
import Derived.Test.YtiikbpcaeoodjaaNums
namespace Go.Proofs.Ytiikbpcaeoodjaa
open Go.RowKit
set_option linter.unusedVariables false
set_option linter.unusedSimpArgs false

/-- Nobody: no pointer, or one to a value that no call made. -/
def NobR (w : World) (p : Option Addr) : Prop := p = none ∨ ∃ g, p = some ⟨g, 0, none⟩ ∧ w.cell? ⟨g, 0, none⟩ = some (.bool false)
theorem NobR.grow {w w' : World} {p : Option Addr} (h : NobR w p) (q : Grow w w') : NobR w' p := by
  rcases h with h | ⟨g, hp, hc⟩
  · exact .inl h
  · exact .inr ⟨g, hp, by rw [← hc]; exact World.cell?_of_block (q.block _ (World.block_lt_of_cell? w _ hc) fun h => h)⟩

set_option maxRecDepth 4000 in
theorem nobE_none (w : World) (p : Option Addr) (h : NobR w p) : Calls Try.prog 39 #[.pointer p] w fun e w' => e = .returned (.bool true) ∧ Grow w w' := by
  rcases h with rfl | ⟨g, rfl, c0⟩
  all_goals
    go_enter Try.func39, Try.ntmps39
    go_wp2
    go_ret
    exact ⟨rfl, Keeps.refl _ _⟩

set_option maxRecDepth 4000 in
theorem nobD_none (w : World) (p : Option Addr) (h : NobR w p) : Calls Try.prog 54 #[.pointer p] w fun e w' => e = .returned (.bool true) ∧ Grow w w' := by
  rcases h with rfl | ⟨g, rfl, c0⟩
  all_goals
    go_enter Try.func54, Try.ntmps54
    go_wp2
    go_ret
    exact ⟨rfl, Keeps.refl _ _⟩

set_option maxRecDepth 4000 in
theorem nobE_bit (w : World) (p : Option Addr) (x0 : Int) (x1 : Int) (h : NobR w p) : Calls Try.prog 9 #[.pointer p, .int .i64 x0, .int .i64 x1] w fun e w' => e = .returned (.int .i64 1) ∧ Grow w w' := by
  have hh := h
  rcases h with rfl | ⟨g, rfl, c0⟩
  all_goals
    go_enter Try.func9, Try.ntmps9
    go_wp2_with fail
    refine (nobE_none _ _ (hh.grow (by first | exact Keeps.refl _ _ | exact (Keeps.refl _ _).alloc _ | exact ((Keeps.refl _ _).alloc _).alloc _))).mono ?_
    rintro e w1 ⟨rfl, hg1⟩
    have HG : Hid (Grow w w1) := Keeps.trans (by first | exact Keeps.refl _ _ | exact (Keeps.refl _ _).alloc _ | exact ((Keeps.refl _ _).alloc _).alloc _) hg1 fun _ _ h => h
    clear hg1
    go_wp2_with fail
    (try rw [Exit.noGoto_ret])
    go_ret
    exact ⟨rfl, HG.out⟩

set_option maxRecDepth 4000 in
theorem nobE_direct (w : World) (p : Option Addr) (x0 : Int) (x1 : Int) (h : NobR w p) : Calls Try.prog 18 #[.pointer p, .int .i64 x0, .int .i64 x1] w fun e w' => e = .returned (.int .i64 1) ∧ Grow w w' := by
  have hh := h
  rcases h with rfl | ⟨g, rfl, c0⟩
  all_goals
    go_enter Try.func18, Try.ntmps18
    go_wp2_with fail
    refine (nobE_none _ _ (hh.grow (by first | exact Keeps.refl _ _ | exact (Keeps.refl _ _).alloc _ | exact ((Keeps.refl _ _).alloc _).alloc _))).mono ?_
    rintro e w1 ⟨rfl, hg1⟩
    have HG : Hid (Grow w w1) := Keeps.trans (by first | exact Keeps.refl _ _ | exact (Keeps.refl _ _).alloc _ | exact ((Keeps.refl _ _).alloc _).alloc _) hg1 fun _ _ h => h
    clear hg1
    go_wp2_with fail
    (try rw [Exit.noGoto_ret])
    go_ret
    exact ⟨rfl, HG.out⟩

set_option maxRecDepth 4000 in
theorem nobE_walk (w : World) (p : Option Addr) (x0 : Int) (x1 : Int) (x2 : Int) (v3 : Value) (h : NobR w p) : Calls Try.prog 49 #[.pointer p, .int .i64 x0, .int .i64 x1, .int .i64 x2, v3] w fun e w' => e = .returned (.int .i64 1) ∧ Grow w w' := by
  have hh := h
  rcases h with rfl | ⟨g, rfl, c0⟩
  all_goals
    go_enter Try.func49, Try.ntmps49
    go_wp2_with fail
    refine (nobE_none _ _ (hh.grow (by first | exact Keeps.refl _ _ | exact (Keeps.refl _ _).alloc _ | exact ((Keeps.refl _ _).alloc _).alloc _))).mono ?_
    rintro e w1 ⟨rfl, hg1⟩
    have HG : Hid (Grow w w1) := Keeps.trans (by first | exact Keeps.refl _ _ | exact (Keeps.refl _ _).alloc _ | exact ((Keeps.refl _ _).alloc _).alloc _) hg1 fun _ _ h => h
    clear hg1
    go_wp2_with fail
    (try rw [Exit.noGoto_ret])
    go_ret
    exact ⟨rfl, HG.out⟩

set_option maxRecDepth 4000 in
theorem nobE_tree (w : World) (p : Option Addr) (x0 : Int) (x1 : Int) (x2 : Int) (h : NobR w p) : Calls Try.prog 20 #[.pointer p, .int .i64 x0, .int .i64 x1, .int .i64 x2] w fun e w' => e = .returned (.int .i64 1) ∧ Grow w w' := by
  have hh := h
  rcases h with rfl | ⟨g, rfl, c0⟩
  all_goals
    go_enter Try.func20, Try.ntmps20
    go_wp2_with fail
    refine (nobE_walk _ _ _ _ _ _ (hh.grow (by first | exact Keeps.refl _ _ | exact (Keeps.refl _ _).alloc _ | exact ((Keeps.refl _ _).alloc _).alloc _))).mono ?_
    rintro e w1 ⟨rfl, hg1⟩
    have HG : Hid (Grow w w1) := Keeps.trans (by first | exact Keeps.refl _ _ | exact (Keeps.refl _ _).alloc _ | exact ((Keeps.refl _ _).alloc _).alloc _) hg1 fun _ _ h => h
    clear hg1
    go_wp2_with fail
    (try rw [Exit.noGoto_ret])
    go_ret
    exact ⟨rfl, HG.out⟩

set_option maxRecDepth 4000 in
theorem nobE_reverse (w : World) (p : Option Addr) (x0 : Int) (x1 : Int) (x2 : Int) (h : NobR w p) : Calls Try.prog 22 #[.pointer p, .int .i64 x0, .int .i64 x1, .int .i64 x2] w fun e w' => e = .returned (.int .i64 1) ∧ Grow w w' := by
  have hh := h
  rcases h with rfl | ⟨g, rfl, c0⟩
  all_goals
    go_enter Try.func22, Try.ntmps22
    go_wp2_with fail
    refine (nobE_walk _ _ _ _ _ _ (hh.grow (by first | exact Keeps.refl _ _ | exact (Keeps.refl _ _).alloc _ | exact ((Keeps.refl _ _).alloc _).alloc _))).mono ?_
    rintro e w1 ⟨rfl, hg1⟩
    have HG : Hid (Grow w w1) := Keeps.trans (by first | exact Keeps.refl _ _ | exact (Keeps.refl _ _).alloc _ | exact ((Keeps.refl _ _).alloc _).alloc _) hg1 fun _ _ h => h
    clear hg1
    go_wp2_with fail
    (try rw [Exit.noGoto_ret])
    go_ret
    exact ⟨rfl, HG.out⟩

set_option maxRecDepth 4000 in
theorem nobE_set (w : World) (p : Option Addr) (A0 : Option Addr) (n0 m0 : Nat) (h : NobR w p) : Calls Try.prog 23 #[.pointer p, .slice A0 n0 m0] w fun e w' => e = .returned (.int .i64 1) ∧ Grow w w' := by
  have hh := h
  rcases h with rfl | ⟨g, rfl, c0⟩
  all_goals
    go_enter Try.func23, Try.ntmps23
    go_wp2_with fail
    refine (nobE_none _ _ (hh.grow (by first | exact Keeps.refl _ _ | exact (Keeps.refl _ _).alloc _ | exact ((Keeps.refl _ _).alloc _).alloc _))).mono ?_
    rintro e w1 ⟨rfl, hg1⟩
    have HG : Hid (Grow w w1) := Keeps.trans (by first | exact Keeps.refl _ _ | exact (Keeps.refl _ _).alloc _ | exact ((Keeps.refl _ _).alloc _).alloc _) hg1 fun _ _ h => h
    clear hg1
    go_wp2_with fail
    (try rw [Exit.noGoto_ret])
    go_ret
    exact ⟨rfl, HG.out⟩

set_option maxRecDepth 4000 in
theorem nobE_bytes (w : World) (p : Option Addr)  (h : NobR w p) : Calls Try.prog 11 #[.pointer p] w fun e w' => e = .returned (.slice none 0 0) ∧ Grow w w' := by
  have hh := h
  rcases h with rfl | ⟨g, rfl, c0⟩
  all_goals
    go_enter Try.func11, Try.ntmps11
    go_wp2_with fail
    refine (nobE_none _ _ (hh.grow (by first | exact Keeps.refl _ _ | exact (Keeps.refl _ _).alloc _ | exact ((Keeps.refl _ _).alloc _).alloc _))).mono ?_
    rintro e w1 ⟨rfl, hg1⟩
    have HG : Hid (Grow w w1) := Keeps.trans (by first | exact Keeps.refl _ _ | exact (Keeps.refl _ _).alloc _ | exact ((Keeps.refl _ _).alloc _).alloc _) hg1 fun _ _ h => h
    clear hg1
    go_wp2_with fail
    (try rw [Exit.noGoto_ret])
    go_ret
    exact ⟨rfl, HG.out⟩

set_option maxRecDepth 4000 in
theorem nobE_chances (w : World) (p : Option Addr)  (h : NobR w p) : Calls Try.prog 10 #[.pointer p] w fun e w' => e = .returned (.slice none 0 0) ∧ Grow w w' := by
  have hh := h
  rcases h with rfl | ⟨g, rfl, c0⟩
  all_goals
    go_enter Try.func10, Try.ntmps10
    go_wp2_with fail
    refine (nobE_none _ _ (hh.grow (by first | exact Keeps.refl _ _ | exact (Keeps.refl _ _).alloc _ | exact ((Keeps.refl _ _).alloc _).alloc _))).mono ?_
    rintro e w1 ⟨rfl, hg1⟩
    have HG : Hid (Grow w w1) := Keeps.trans (by first | exact Keeps.refl _ _ | exact (Keeps.refl _ _).alloc _ | exact ((Keeps.refl _ _).alloc _).alloc _) hg1 fun _ _ h => h
    clear hg1
    go_wp2_with fail
    (try rw [Exit.noGoto_ret])
    go_ret
    exact ⟨rfl, HG.out⟩

set_option maxRecDepth 4000 in
theorem nobD_bit (w : World) (p : Option Addr) (x0 : Int) (h : NobR w p) : Calls Try.prog 30 #[.pointer p, .int .i64 x0] w fun e w' => e = .returned (.tuple #[.int .i64 0, .int .i64 1]) ∧ Grow w w' := by
  have hh := h
  rcases h with rfl | ⟨g, rfl, c0⟩
  all_goals
    go_enter Try.func30, Try.ntmps30
    go_wp2_with fail
    refine (nobD_none _ _ (hh.grow (by first | exact Keeps.refl _ _ | exact (Keeps.refl _ _).alloc _ | exact ((Keeps.refl _ _).alloc _).alloc _))).mono ?_
    rintro e w1 ⟨rfl, hg1⟩
    have HG : Hid (Grow w w1) := Keeps.trans (by first | exact Keeps.refl _ _ | exact (Keeps.refl _ _).alloc _ | exact ((Keeps.refl _ _).alloc _).alloc _) hg1 fun _ _ h => h
    clear hg1
    go_wp2_with fail
    (try rw [Exit.noGoto_ret])
    go_ret2
    exact ⟨rfl, HG.out⟩

set_option maxRecDepth 4000 in
theorem nobD_direct (w : World) (p : Option Addr) (x0 : Int) (h : NobR w p) : Calls Try.prog 32 #[.pointer p, .int .i64 x0] w fun e w' => e = .returned (.tuple #[.int .i64 0, .int .i64 1]) ∧ Grow w w' := by
  have hh := h
  rcases h with rfl | ⟨g, rfl, c0⟩
  all_goals
    go_enter Try.func32, Try.ntmps32
    go_wp2_with fail
    refine (nobD_none _ _ (hh.grow (by first | exact Keeps.refl _ _ | exact (Keeps.refl _ _).alloc _ | exact ((Keeps.refl _ _).alloc _).alloc _))).mono ?_
    rintro e w1 ⟨rfl, hg1⟩
    have HG : Hid (Grow w w1) := Keeps.trans (by first | exact Keeps.refl _ _ | exact (Keeps.refl _ _).alloc _ | exact ((Keeps.refl _ _).alloc _).alloc _) hg1 fun _ _ h => h
    clear hg1
    go_wp2_with fail
    (try rw [Exit.noGoto_ret])
    go_ret2
    exact ⟨rfl, HG.out⟩

set_option maxRecDepth 4000 in
theorem nobD_walk (w : World) (p : Option Addr) (x0 : Int) (x1 : Int) (h : NobR w p) : Calls Try.prog 60 #[.pointer p, .int .i64 x0, .int .i64 x1] w fun e w' => e = .returned (.tuple #[.slice none 0 0, .int .i64 1]) ∧ Grow w w' := by
  have hh := h
  rcases h with rfl | ⟨g, rfl, c0⟩
  all_goals
    go_enter Try.func60, Try.ntmps60
    go_wp2_with fail
    refine (nobD_none _ _ (hh.grow (by first | exact Keeps.refl _ _ | exact (Keeps.refl _ _).alloc _ | exact ((Keeps.refl _ _).alloc _).alloc _))).mono ?_
    rintro e w1 ⟨rfl, hg1⟩
    have HG : Hid (Grow w w1) := Keeps.trans (by first | exact Keeps.refl _ _ | exact (Keeps.refl _ _).alloc _ | exact ((Keeps.refl _ _).alloc _).alloc _) hg1 fun _ _ h => h
    clear hg1
    go_wp2_with fail
    (try rw [Exit.noGoto_ret])
    go_ret2
    exact ⟨rfl, HG.out⟩

set_option maxRecDepth 4000 in
theorem nobD_tree (w : World) (p : Option Addr) (x0 : Int) (x1 : Int) (h : NobR w p) : Calls Try.prog 34 #[.pointer p, .int .i64 x0, .int .i64 x1] w fun e w' => e = .returned (.tuple #[.int .i64 0, .int .i64 1]) ∧ Grow w w' := by
  have hh := h
  rcases h with rfl | ⟨g, rfl, c0⟩
  all_goals
    go_enter Try.func34, Try.ntmps34
    go_wp2_with fail
    refine (nobD_walk _ _ _ _ (hh.grow (by first | exact Keeps.refl _ _ | exact (Keeps.refl _ _).alloc _ | exact ((Keeps.refl _ _).alloc _).alloc _))).mono ?_
    rintro e w1 ⟨rfl, hg1⟩
    have HG : Hid (Grow w w1) := Keeps.trans (by first | exact Keeps.refl _ _ | exact (Keeps.refl _ _).alloc _ | exact ((Keeps.refl _ _).alloc _).alloc _) hg1 fun _ _ h => h
    clear hg1
    go_wp2_with fail
    go_loopw [10, 22] (fun vv vi wr => vv = .int .i64 0 ∧ vi = .int .i64 0 ∧ w1 = wr) (fun _ _ _ => 0)
    case atStart => exact ⟨rfl, rfl, rfl⟩
    case round =>
      obtain ⟨rfl, rfl, rfl⟩ := hrel
      go_wp2_with fail
      (try rw [Exit.noGoto_ret])
      go_ret2
      exact ⟨rfl, HG.out⟩

set_option maxRecDepth 4000 in
theorem nobD_reverse (w : World) (p : Option Addr) (x0 : Int) (x1 : Int) (h : NobR w p) : Calls Try.prog 36 #[.pointer p, .int .i64 x0, .int .i64 x1] w fun e w' => e = .returned (.tuple #[.int .i64 0, .int .i64 1]) ∧ Grow w w' := by
  have hh := h
  rcases h with rfl | ⟨g, rfl, c0⟩
  all_goals
    go_enter Try.func36, Try.ntmps36
    go_wp2_with fail
    refine (nobD_walk _ _ _ _ (hh.grow (by first | exact Keeps.refl _ _ | exact (Keeps.refl _ _).alloc _ | exact ((Keeps.refl _ _).alloc _).alloc _))).mono ?_
    rintro e w1 ⟨rfl, hg1⟩
    have HG : Hid (Grow w w1) := Keeps.trans (by first | exact Keeps.refl _ _ | exact (Keeps.refl _ _).alloc _ | exact ((Keeps.refl _ _).alloc _).alloc _) hg1 fun _ _ h => h
    clear hg1
    go_wp2_with fail
    go_loopw [10, 22] (fun vv vi wr => vv = .int .i64 0 ∧ vi = .int .i64 0 ∧ w1 = wr) (fun _ _ _ => 0)
    case atStart => exact ⟨rfl, rfl, rfl⟩
    case round =>
      obtain ⟨rfl, rfl, rfl⟩ := hrel
      go_wp2_with fail
      (try rw [Exit.noGoto_ret])
      go_ret2
      exact ⟨rfl, HG.out⟩

set_option maxRecDepth 4000 in
theorem nobD_set (w : World) (p : Option Addr) (A0 : Option Addr) (n0 m0 : Nat) (h : NobR w p) : Calls Try.prog 37 #[.pointer p, .slice A0 n0 m0] w fun e w' => e = .returned (.int .i64 1) ∧ Grow w w' := by
  have hh := h
  rcases h with rfl | ⟨g, rfl, c0⟩
  all_goals
    go_enter Try.func37, Try.ntmps37
    go_wp2_with fail
    refine (nobD_none _ _ (hh.grow (by first | exact Keeps.refl _ _ | exact (Keeps.refl _ _).alloc _ | exact ((Keeps.refl _ _).alloc _).alloc _))).mono ?_
    rintro e w1 ⟨rfl, hg1⟩
    have HG : Hid (Grow w w1) := Keeps.trans (by first | exact Keeps.refl _ _ | exact (Keeps.refl _ _).alloc _ | exact ((Keeps.refl _ _).alloc _).alloc _) hg1 fun _ _ h => h
    clear hg1
    go_wp2_with fail
    (try rw [Exit.noGoto_ret])
    go_ret
    exact ⟨rfl, HG.out⟩

set_option maxRecDepth 4000 in
theorem nobD_done (w : World) (p : Option Addr)  (h : NobR w p) : Calls Try.prog 27 #[.pointer p] w fun e w' => e = .returned (.bool false) ∧ Grow w w' := by
  have hh := h
  rcases h with rfl | ⟨g, rfl, c0⟩
  all_goals
    go_enter Try.func27, Try.ntmps27
    go_wp2_with fail
    refine (nobD_none _ _ (hh.grow (by first | exact Keeps.refl _ _ | exact (Keeps.refl _ _).alloc _ | exact ((Keeps.refl _ _).alloc _).alloc _))).mono ?_
    rintro e w1 ⟨rfl, hg1⟩
    have HG : Hid (Grow w w1) := Keeps.trans (by first | exact Keeps.refl _ _ | exact (Keeps.refl _ _).alloc _ | exact ((Keeps.refl _ _).alloc _).alloc _) hg1 fun _ _ h => h
    clear hg1
    go_wp2_with fail
    (try rw [Exit.noGoto_ret])
    go_ret
    exact ⟨rfl, HG.out⟩

set_option maxRecDepth 4000 in
theorem nobD_chances (w : World) (p : Option Addr)  (h : NobR w p) : Calls Try.prog 29 #[.pointer p] w fun e w' => e = .returned (.slice none 0 0) ∧ Grow w w' := by
  have hh := h
  rcases h with rfl | ⟨g, rfl, c0⟩
  all_goals
    go_enter Try.func29, Try.ntmps29
    go_wp2_with fail
    refine (nobD_none _ _ (hh.grow (by first | exact Keeps.refl _ _ | exact (Keeps.refl _ _).alloc _ | exact ((Keeps.refl _ _).alloc _).alloc _))).mono ?_
    rintro e w1 ⟨rfl, hg1⟩
    have HG : Hid (Grow w w1) := Keeps.trans (by first | exact Keeps.refl _ _ | exact (Keeps.refl _ _).alloc _ | exact ((Keeps.refl _ _).alloc _).alloc _) hg1 fun _ _ h => h
    clear hg1
    go_wp2_with fail
    (try rw [Exit.noGoto_ret])
    go_ret
    exact ⟨rfl, HG.out⟩
end Go.Proofs.Ytiikbpcaeoodjaa
