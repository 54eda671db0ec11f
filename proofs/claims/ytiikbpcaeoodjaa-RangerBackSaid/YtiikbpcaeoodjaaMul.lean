/- bits.Mul of one and a number. -/
import Derived.Test.YtiikbpcaeoodjaaNums
import Derived.Laws.Bits64b
namespace Go.Proofs.Ytiikbpcaeoodjaa
open Go.RowKit
set_option linter.unusedVariables false
set_option linter.unusedSimpArgs false

set_option maxRecDepth 4000 in
set_option maxHeartbeats 2000000 in
theorem mul64_one (w : World) (y : Nat) (hy : y < 18446744073709551616) : Calls Try.prog 71 #[.int .u64 1, .int .u64 y] w fun e w' => e = .returned (.tuple #[.int .u64 0, .int .u64 y]) ∧ w = w' := by
  have h1 : bits .and .u64 1 4294967295 = 1 := by decide
  have h2 : bits .and .u64 (y : Int) 4294967295 = ((y % 4294967296 : Nat) : Int) := by
    have h := bits_and_u64_nat y 4294967295 hy (by omega)
    have e : y &&& 4294967295 = y % 4294967296 := Nat.and_two_pow_sub_one_eq_mod y 32
    rw [e] at h
    exact h
  have h3 : (y : Int) / 4294967296 = ((y / 4294967296 : Nat) : Int) := by omega
  have b0 : y % 4294967296 < 4294967296 := Nat.mod_lt _ (by omega)
  have b1 : y / 4294967296 < 4294967296 := by omega
  generalize y % 4294967296 = y0 at *
  generalize y / 4294967296 = y1 at *
  have h4 : bits .and .u64 0 4294967295 = 0 := by decide
  have h5 : IntKind.u64.wrap 0 = 0 := by decide
  have h6 : (y0 : Int) / 4294967296 = 0 := by omega
  have h7 : (y1 : Int) / 4294967296 = 0 := by omega
  have hy' : (y : Int) < 18446744073709551616 := by omega
  go_enter Try.func71, Try.ntmps71
  go_wp2_with fail
  try simp only [h3, h4, h5, h6, h7, Int.zero_ediv, Int.add_zero, Int.zero_add]
  try simp only [h3, h4, h5, h6, h7, Int.zero_ediv, Int.add_zero, Int.zero_add]
  go_ret2
  exact ⟨rfl, rfl⟩
set_option maxHeartbeats 1000000 in
theorem mul_one (w : World) (y : Nat) (hy : y < 18446744073709551616) : Calls Try.prog 68 #[.int .u64 1, .int .u64 y] w fun e w' => e = .returned (.tuple #[.int .u64 0, .int .u64 y]) ∧ w = w' := by
  have H := Lib.hid (mul64_one w y hy)
  go_enter Try.func68, Try.ntmps68
  go_wp2_with fail
  refine H.out.mono ?_
  rintro e w1 ⟨rfl, rfl⟩
  go_wp2_with fail
  go_ret2
  exact ⟨rfl, rfl⟩
end Go.Proofs.Ytiikbpcaeoodjaa
