/- Writers and readers that no call made. -/
import Derived.Test.YtbggeilejdnaeaaRd
import Derived.Test.YtbggeilejdnaeaaHold
namespace Go.Proofs.Ytbggeilejdnaeaa
open Go.RowKit
set_option linter.unusedVariables false

/-- Nobody: no pointer, or one to a value that no call made. -/
def Nob (w : World) (p : Option Addr) : Prop := p = none ∨ ∃ g, p = some ⟨g, 0, none⟩ ∧ w.cell? ⟨g, 0, none⟩ = some (.bool false)

theorem nob_wnone (w : World) (p : Option Addr)  (h : Nob w p) :
    Calls Try.prog 26 #[.pointer p] w fun e w' => e = .returned (.bool true) ∧ w = w' := by
  rcases h with rfl | ⟨g, rfl, c0⟩
  all_goals
    go_enter Try.func26, Try.ntmps26
    go_wp2
    go_ret
    exact ⟨rfl, rfl⟩
theorem nob_rnone (w : World) (p : Option Addr)  (h : Nob w p) :
    Calls Try.prog 29 #[.pointer p] w fun e w' => e = .returned (.bool true) ∧ w = w' := by
  rcases h with rfl | ⟨g, rfl, c0⟩
  all_goals
    go_enter Try.func29, Try.ntmps29
    go_wp2
    go_ret
    exact ⟨rfl, rfl⟩
theorem nob_put (w : World) (p : Option Addr) (x n : Int) (h : Nob w p) :
    Calls Try.prog 9 #[.pointer p, .int .u64 x, .int .i64 n] w fun e w' => e = .returned (.int .i64 1) ∧ w = w' := by
  rcases h with rfl | ⟨g, rfl, c0⟩
  all_goals
    go_enter Try.func9, Try.ntmps9
    go_wp2_with (go_at_call 26; refine (nob_wnone _ _ (by first | exact .inl rfl | exact .inr ⟨_, rfl, c0⟩)).mono ?_; rintro e w1 ⟨rfl, rfl⟩)
    go_ret
    exact ⟨rfl, rfl⟩
theorem nob_walign (w : World) (p : Option Addr)  (h : Nob w p) :
    Calls Try.prog 15 #[.pointer p] w fun e w' => e = .returned (.int .i64 1) ∧ w = w' := by
  rcases h with rfl | ⟨g, rfl, c0⟩
  all_goals
    go_enter Try.func15, Try.ntmps15
    go_wp2_with (go_at_call 26; refine (nob_wnone _ _ (by first | exact .inl rfl | exact .inr ⟨_, rfl, c0⟩)).mono ?_; rintro e w1 ⟨rfl, rfl⟩)
    go_ret
    exact ⟨rfl, rfl⟩
theorem nob_putBytes (w : World) (p : Option Addr) (A : Option Addr) (n c : Nat) (h : Nob w p) :
    Calls Try.prog 16 #[.pointer p, .slice A n c] w fun e w' => e = .returned (.int .i64 1) ∧ w = w' := by
  rcases h with rfl | ⟨g, rfl, c0⟩
  all_goals
    go_enter Try.func16, Try.ntmps16
    go_wp2_with (go_at_call 26; refine (nob_wnone _ _ (by first | exact .inl rfl | exact .inr ⟨_, rfl, c0⟩)).mono ?_; rintro e w1 ⟨rfl, rfl⟩)
    go_ret
    exact ⟨rfl, rfl⟩
theorem nob_len (w : World) (p : Option Addr)  (h : Nob w p) :
    Calls Try.prog 10 #[.pointer p] w fun e w' => e = .returned (.int .i64 0) ∧ w = w' := by
  rcases h with rfl | ⟨g, rfl, c0⟩
  all_goals
    go_enter Try.func10, Try.ntmps10
    go_wp2_with (go_at_call 26; refine (nob_wnone _ _ (by first | exact .inl rfl | exact .inr ⟨_, rfl, c0⟩)).mono ?_; rintro e w1 ⟨rfl, rfl⟩)
    go_ret
    exact ⟨rfl, rfl⟩
theorem nob_bytes (w : World) (p : Option Addr)  (h : Nob w p) :
    Calls Try.prog 11 #[.pointer p] w fun e w' => e = .returned (.slice none 0 0) ∧ w = w' := by
  rcases h with rfl | ⟨g, rfl, c0⟩
  all_goals
    go_enter Try.func11, Try.ntmps11
    go_wp2_with (go_at_call 26; refine (nob_wnone _ _ (by first | exact .inl rfl | exact .inr ⟨_, rfl, c0⟩)).mono ?_; rintro e w1 ⟨rfl, rfl⟩)
    go_ret
    exact ⟨rfl, rfl⟩
theorem nob_ralign (w : World) (p : Option Addr)  (h : Nob w p) :
    Calls Try.prog 24 #[.pointer p] w fun e w' => e = .returned (.int .i64 1) ∧ w = w' := by
  rcases h with rfl | ⟨g, rfl, c0⟩
  all_goals
    go_enter Try.func24, Try.ntmps24
    go_wp2_with (go_at_call 29; refine (nob_rnone _ _ (by first | exact .inl rfl | exact .inr ⟨_, rfl, c0⟩)).mono ?_; rintro e w1 ⟨rfl, rfl⟩)
    go_ret
    exact ⟨rfl, rfl⟩
theorem nob_rbytes (w : World) (p : Option Addr) (n : Int) (h : Nob w p) :
    Calls Try.prog 25 #[.pointer p, .int .i64 n] w fun e w' => e = .returned (.tuple #[.slice none 0 0, .int .i64 1]) ∧ w = w' := by
  rcases h with rfl | ⟨g, rfl, c0⟩
  all_goals
    go_enter Try.func25, Try.ntmps25
    go_wp2_with (go_at_call 29; refine (nob_rnone _ _ (by first | exact .inl rfl | exact .inr ⟨_, rfl, c0⟩)).mono ?_; rintro e w1 ⟨rfl, rfl⟩)
    go_ret2
    exact ⟨rfl, rfl⟩
theorem nob_at (w : World) (p : Option Addr)  (h : Nob w p) :
    Calls Try.prog 20 #[.pointer p] w fun e w' => e = .returned (.int .i64 0) ∧ w = w' := by
  rcases h with rfl | ⟨g, rfl, c0⟩
  all_goals
    go_enter Try.func20, Try.ntmps20
    go_wp2_with (go_at_call 29; refine (nob_rnone _ _ (by first | exact .inl rfl | exact .inr ⟨_, rfl, c0⟩)).mono ?_; rintro e w1 ⟨rfl, rfl⟩)
    go_ret
    exact ⟨rfl, rfl⟩
theorem nob_left (w : World) (p : Option Addr)  (h : Nob w p) :
    Calls Try.prog 21 #[.pointer p] w fun e w' => e = .returned (.int .i64 0) ∧ w = w' := by
  rcases h with rfl | ⟨g, rfl, c0⟩
  all_goals
    go_enter Try.func21, Try.ntmps21
    go_wp2_with (go_at_call 29; refine (nob_rnone _ _ (by first | exact .inl rfl | exact .inr ⟨_, rfl, c0⟩)).mono ?_; rintro e w1 ⟨rfl, rfl⟩)
    go_ret
    exact ⟨rfl, rfl⟩
theorem nob_get (w : World) (p : Option Addr) (n : Int) (h : Nob w p) :
    Calls Try.prog 22 #[.pointer p, .int .i64 n] w fun e w' => e = .returned (.tuple #[.int .u64 0, .int .i64 1]) ∧ w = w' := by
  rcases h with rfl | ⟨g, rfl, c0⟩
  all_goals
    go_enter Try.func22, Try.ntmps22
    go_wp2_with fail
    go_step3
    go_wp2_with (go_at_call 29; refine (nob_rnone _ _ (by first | exact .inl rfl | exact .inr ⟨_, rfl, c0⟩)).mono ?_; rintro e w1 ⟨rfl, rfl⟩)
    rw [Exit.noGoto_ret]
    go_ret2
    exact ⟨rfl, rfl⟩
end Go.Proofs.Ytbggeilejdnaeaa
