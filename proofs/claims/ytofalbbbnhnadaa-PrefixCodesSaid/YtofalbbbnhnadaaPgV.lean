/- Prefix: Put into no writer. -/
import Derived.Test.YtofalbbbnhnadaaPgU
import Derived.Test.YtofalbbbnhnadaaNob
namespace Go.Proofs.Ytofalbbbnhnadaa
open Go.RowKit
set_option linter.unusedVariables false
set_option linter.unusedSimpArgs false

set_option maxRecDepth 8000 in
set_option maxHeartbeats 2000000 in
theorem cPut_nil (w : World) (g m M B : Nat) (ls : List Nat) (h : CodeX w g m M B ls) :
    Calls Try.prog 19 #[.pointer (some ⟨g, 0, none⟩), .pointer none, .int .i64 0] w fun e w' => e = .returned (.int .i64 1) ∧ w = w' := by
  have HN := Lib.hid (cNone_is w g m _ h.codeW)
  have HP := Lib.hid (nob_put w none 0 0 (.inl rfl))
  clear h
  go_enter Try.func19, Try.ntmps19
  go_wp2_with fail
  refine HN.out.mono ?_
  rintro x w1 ⟨rfl, rfl⟩
  go_wp2_with fail
  refine HP.out.mono ?_
  rintro x w2 ⟨rfl, rfl⟩
  go_wp2_with fail
  go_ret
  exact ⟨rfl, rfl⟩
end Go.Proofs.Ytofalbbbnhnadaa
