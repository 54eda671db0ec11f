/- Sums are joined: the program's words and the document's. -/
import Derived.Test.YtnjdhkaabpmahaaJoinPure
import Derived.Test.YtnjdhkaabpmahaaHold
namespace Go.Proofs.Ytnjdhkaabpmahaa
open Go.RowKit
set_option linter.unusedVariables false
set_option linter.unusedSimpArgs false

theorem bit_int (a j : Nat) (ha : a < 4294967296) : bits .and .u32 ((a : Int) / 2 ^ j) 1 = (((a.testBit j).toNat : Nat) : Int) := by
  have e : (a : Int) / 2 ^ j = ((a / 2 ^ j : Nat) : Int) := by rw [Int.natCast_ediv, Int.natCast_pow]; rfl
  rw [e, and1_u32 _ (Nat.lt_of_le_of_lt (Nat.div_le_self _ _) ha)]
  congr 1
  rw [Nat.testBit_eq_decide_div_mod_eq]
  rcases Nat.mod_two_eq_zero_or_one (a / 2 ^ j) with h | h <;> simp [h]
theorem zz_int (b : Nat) (hb : b < 4294967296) : bits .xor .u32 ((b : Int) / 2) (3988292384 * ((b : Int) % 2)) = ((ZZ b : Nat) : Int) := by
  rw [show (b : Int) % 2 = ((b % 2 : Nat) : Int) from rfl, show (b : Int) / 2 = ((b / 2 : Nat) : Int) from rfl, show (3988292384 : Int) * ((b % 2 : Nat) : Int) = ((3988292384 * (b % 2) : Nat) : Int) from by omega, xor_u32 _ _ (by omega) (by omega), ZZ_mul]

theorem and1_i64 (a : Nat) (ha : a < 9223372036854775808) : bits .and .i64 (a : Int) 1 = ((a % 2 : Nat) : Int) := by
  exact bits_mask .i64 63 (by decide) (fun m a b => by rw [IntKind.wrap_i64]; omega) 1 (by decide) (a : Int) (by omega) (by omega)
theorem tms_lt (a b : Nat) (ha : a < 4294967296) (hb : b < 4294967296) : tms a b < 4294967296 := by
  unfold tms
  have h : ∀ k p b', p < 4294967296 → b' < 4294967296 → tims a k p b' < 4294967296 := by
    intro k
    induction k with
    | zero => intro p b' hp _; exact hp
    | succ k ih =>
      intro p b' hp hb'
      refine ih _ _ ?_ (ZZ_lt b' hb')
      split
      · exact Nat.xor_lt_two_pow (n := 32) hp hb'
      · exact hp
  exact h 32 0 b (by decide) hb
theorem one_lt (j : Nat) : Zn j 2147483648 < 4294967296 := Zn_lt j _ (by decide)

end Go.Proofs.Ytnjdhkaabpmahaa
