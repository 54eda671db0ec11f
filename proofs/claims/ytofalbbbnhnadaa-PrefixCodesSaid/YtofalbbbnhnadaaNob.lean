/- Writers and readers that no call made. -/
import Derived.Test.YtofalbbbnhnadaaRd
import Derived.Test.YtofalbbbnhnadaaHold
namespace Go.Proofs.Ytofalbbbnhnadaa
open Go.RowKit
set_option linter.unusedVariables false

/-- Nobody: no pointer, or one to a value that no call made. -/
def Nob (w : World) (p : Option Addr) : Prop := p = none ∨ ∃ g, p = some ⟨g, 0, none⟩ ∧ w.cell? ⟨g, 0, none⟩ = some (.bool false)

theorem nob_wnone (w : World) (p : Option Addr)  (h : Nob w p) :
    Calls Try.prog 36 #[.pointer p] w fun e w' => e = .returned (.bool true) ∧ w = w' := by
  rcases h with rfl | ⟨g, rfl, c0⟩
  all_goals
    go_enter Try.func36, Try.ntmps36
    go_wp2
    go_ret
    exact ⟨rfl, rfl⟩
theorem nob_rnone (w : World) (p : Option Addr)  (h : Nob w p) :
    Calls Try.prog 37 #[.pointer p] w fun e w' => e = .returned (.bool true) ∧ w = w' := by
  rcases h with rfl | ⟨g, rfl, c0⟩
  all_goals
    go_enter Try.func37, Try.ntmps37
    go_wp2
    go_ret
    exact ⟨rfl, rfl⟩
theorem nob_put (w : World) (p : Option Addr) (x n : Int) (h : Nob w p) :
    Calls Try.prog 35 #[.pointer p, .int .u64 x, .int .i64 n] w fun e w' => e = .returned (.int .i64 1) ∧ w = w' := by
  rcases h with rfl | ⟨g, rfl, c0⟩
  all_goals
    go_enter Try.func35, Try.ntmps35
    go_wp2_with (go_at_call 36; refine (nob_wnone _ _ (by first | exact .inl rfl | exact .inr ⟨_, rfl, c0⟩)).mono ?_; rintro e w1 ⟨rfl, rfl⟩)
    go_ret
    exact ⟨rfl, rfl⟩
theorem nob_len (w : World) (p : Option Addr)  (h : Nob w p) :
    Calls Try.prog 20 #[.pointer p] w fun e w' => e = .returned (.int .i64 0) ∧ w = w' := by
  rcases h with rfl | ⟨g, rfl, c0⟩
  all_goals
    go_enter Try.func20, Try.ntmps20
    go_wp2_with (go_at_call 36; refine (nob_wnone _ _ (by first | exact .inl rfl | exact .inr ⟨_, rfl, c0⟩)).mono ?_; rintro e w1 ⟨rfl, rfl⟩)
    go_ret
    exact ⟨rfl, rfl⟩
theorem nob_bytes (w : World) (p : Option Addr)  (h : Nob w p) :
    Calls Try.prog 23 #[.pointer p] w fun e w' => e = .returned (.slice none 0 0) ∧ w = w' := by
  rcases h with rfl | ⟨g, rfl, c0⟩
  all_goals
    go_enter Try.func23, Try.ntmps23
    go_wp2_with (go_at_call 36; refine (nob_wnone _ _ (by first | exact .inl rfl | exact .inr ⟨_, rfl, c0⟩)).mono ?_; rintro e w1 ⟨rfl, rfl⟩)
    go_ret
    exact ⟨rfl, rfl⟩
theorem nob_at (w : World) (p : Option Addr)  (h : Nob w p) :
    Calls Try.prog 21 #[.pointer p] w fun e w' => e = .returned (.int .i64 0) ∧ w = w' := by
  rcases h with rfl | ⟨g, rfl, c0⟩
  all_goals
    go_enter Try.func21, Try.ntmps21
    go_wp2_with (go_at_call 37; refine (nob_rnone _ _ (by first | exact .inl rfl | exact .inr ⟨_, rfl, c0⟩)).mono ?_; rintro e w1 ⟨rfl, rfl⟩)
    go_ret
    exact ⟨rfl, rfl⟩
theorem nob_left (w : World) (p : Option Addr)  (h : Nob w p) :
    Calls Try.prog 27 #[.pointer p] w fun e w' => e = .returned (.int .i64 0) ∧ w = w' := by
  rcases h with rfl | ⟨g, rfl, c0⟩
  all_goals
    go_enter Try.func27, Try.ntmps27
    go_wp2_with (go_at_call 37; refine (nob_rnone _ _ (by first | exact .inl rfl | exact .inr ⟨_, rfl, c0⟩)).mono ?_; rintro e w1 ⟨rfl, rfl⟩)
    go_ret
    exact ⟨rfl, rfl⟩
theorem nob_get (w : World) (p : Option Addr) (n : Int) (h : Nob w p) :
    Calls Try.prog 33 #[.pointer p, .int .i64 n] w fun e w' => e = .returned (.tuple #[.int .u64 0, .int .i64 1]) ∧ w = w' := by
  rcases h with rfl | ⟨g, rfl, c0⟩
  all_goals
    go_enter Try.func33, Try.ntmps33
    go_wp2_with fail
    go_step3
    go_wp2_with (go_at_call 37; refine (nob_rnone _ _ (by first | exact .inl rfl | exact .inr ⟨_, rfl, c0⟩)).mono ?_; rintro e w1 ⟨rfl, rfl⟩)
    rw [Exit.noGoto_ret]
    go_ret2
    exact ⟨rfl, rfl⟩
end Go.Proofs.Ytofalbbbnhnadaa
