/- bytes.Repeat of one byte. -/
import Derived.Test.YteccmnjcmmbhlaaNums
import Derived.Laws.Bits64b
namespace Go.Proofs.Yteccmnjcmmbhlaa
open Go.RowKit
set_option linter.unusedVariables false
set_option linter.unusedSimpArgs false

set_option maxRecDepth 4000 in
set_option maxHeartbeats 2000000 in
theorem mul64_is (w : World) (y : Nat) (hy : y < 256) : Calls Try.prog 49 #[.int .u64 1, .int .u64 y] w fun e w' => e = .returned (.tuple #[.int .u64 0, .int .u64 y]) ∧ w = w' := by
  have h1 : bits .and .u64 1 4294967295 = 1 := by decide
  have h2 : bits .and .u64 (y : Int) 4294967295 = (y : Int) := by
    have h := bits_and_u64_nat y 4294967295 (by omega) (by omega)
    have e : y &&& 4294967295 = y % 4294967296 := Nat.and_two_pow_sub_one_eq_mod y 32
    rw [e, Nat.mod_eq_of_lt (by omega)] at h
    exact h
  go_enter Try.func49, Try.ntmps49
  go_wp2_with fail
  have h3 : (y : Int) / 4294967296 = 0 := by omega
  have h4 : bits .and .u64 0 4294967295 = 0 := by decide
  have h5 : IntKind.u64.wrap 0 = 0 := by decide
  simp only [h3, h4, h5, Int.zero_ediv, Int.add_zero]
  go_ret2
  exact ⟨rfl, rfl⟩
set_option maxHeartbeats 1000000 in
theorem mul_is (w : World) (y : Nat) (hy : y < 256) : Calls Try.prog 43 #[.int .u64 1, .int .u64 y] w fun e w' => e = .returned (.tuple #[.int .u64 0, .int .u64 y]) ∧ w = w' := by
  have H := Lib.hid (mul64_is w y hy)
  go_enter Try.func43, Try.ntmps43
  go_wp2_with fail
  refine H.out.mono ?_
  rintro e w1 ⟨rfl, rfl⟩
  go_wp2_with fail
  go_ret2
  exact ⟨rfl, rfl⟩
end Go.Proofs.Yteccmnjcmmbhlaa
