/- The high sum by bits: plain laws, with no program in sight. -/
import Derived.Test.YtcackdcjepifpaaCrcPure
namespace Go.Proofs.Ytcackdcjepifpaa
open Go.RowKit
set_option linter.unusedVariables false
set_option linter.unusedSimpArgs false

def crcHi (P r : Nat) (xs : List Nat) : Nat := xs.foldl (fun r b => HPn P 8 (r ^^^ b * 16777216)) r
/-- A byte bit by bit, the highest one first. -/
theorem bit_step_high (P r x k : Nat) (hk : k < 8) (hx : x < 256) :
    HP P (HPn P k (r ^^^ x / 2 ^ (8 - k) * 2 ^ (32 - k)) ^^^ (if x.testBit (7 - k) then 2147483648 else 0)) = HPn P (k + 1) (r ^^^ x / 2 ^ (8 - (k + 1)) * 2 ^ (32 - (k + 1))) := by
  have e1 : (2 : Nat) ^ (8 - k) = 2 * 2 ^ (7 - k) := by rw [← Nat.pow_succ', show (7 - k).succ = 8 - k from by omega]
  have e2 : (2 : Nat) ^ (32 - k) = 2 * 2 ^ (31 - k) := by rw [← Nat.pow_succ', show (31 - k).succ = 32 - k from by omega]
  have hd : x / 2 ^ (7 - k) / 2 = x / 2 ^ (8 - k) := by rw [Nat.div_div_eq_div_mul, e1, Nat.mul_comm]
  have hbit : x / 2 ^ (7 - k) % 2 = if x.testBit (7 - k) then 1 else 0 := by
    rw [Nat.testBit_eq_decide_div_mod_eq]
    rcases Nat.mod_two_eq_zero_or_one (x / 2 ^ (7 - k)) with h | h <;> simp [h]
  have hsplit : x / 2 ^ (7 - k) * 2 ^ (31 - k) = x / 2 ^ (8 - k) * 2 ^ (32 - k) ^^^ (x / 2 ^ (7 - k) % 2) * 2 ^ (31 - k) := by
    have h := split_xor (x / 2 ^ (7 - k) * 2 ^ (31 - k)) (32 - k)
    have hq : x / 2 ^ (7 - k) * 2 ^ (31 - k) / 2 ^ (32 - k) = x / 2 ^ (8 - k) := by
      rw [e2, Nat.mul_comm 2, ← Nat.div_div_eq_div_mul, Nat.mul_div_cancel _ (Nat.two_pow_pos _), hd]
    have hm : x / 2 ^ (7 - k) * 2 ^ (31 - k) % 2 ^ (32 - k) = (x / 2 ^ (7 - k) % 2) * 2 ^ (31 - k) := by
      rw [e2, Nat.mul_mod_mul_right]
    rw [hq, hm, Nat.mul_comm (2 ^ (32 - k))] at h
    exact h
  have hsm : HPn P k ((x / 2 ^ (7 - k) % 2) * 2 ^ (31 - k)) = if x.testBit (7 - k) then 2147483648 else 0 := by
    have h2 : (x / 2 ^ (7 - k) % 2) * 2 ^ (31 - k) < 2 ^ (32 - k) := by
      rw [e2]
      exact Nat.mul_lt_mul_of_pos_right (Nat.mod_lt _ (by decide)) (Nat.two_pow_pos _)
    rw [HPn_small P _ k (by omega) h2, hbit]
    split
    · rw [Nat.one_mul, ← Nat.pow_add, show k + (31 - k) = 31 from by omega]
    · rw [Nat.zero_mul, Nat.mul_zero]
  rw [show 8 - (k + 1) = 7 - k from by omega, show 32 - (k + 1) = 31 - k from by omega, hsplit, ← Nat.xor_assoc]
  show _ = HP P (HPn P k (r ^^^ x / 2 ^ (8 - k) * 2 ^ (32 - k) ^^^ x / 2 ^ (7 - k) % 2 * 2 ^ (31 - k)))
  rw [HPn_lin P k (r ^^^ x / 2 ^ (8 - k) * 2 ^ (32 - k)), hsm]
/-- The document's words for a bit. -/
theorem ref_bit_high (P r x : Nat) (hr : r < 4294967296) (hx : x = 0 ∨ x = 1) : HP P (r ^^^ x * 2147483648) = if r / 2147483648 ^^^ x = 1 then (r * 2 % 4294967296) ^^^ P else r * 2 % 4294967296 := by
  have hd : (r ^^^ x * 2147483648) * 2 % 4294967296 = r * 2 % 4294967296 := by
    rw [dbl_xor, Nat.mul_assoc, show x * (2147483648 * 2) % 4294967296 = 0 from by omega, Nat.xor_zero]
  have ht : (r ^^^ x * 2147483648) / 2147483648 % 2 = r / 2147483648 ^^^ x := by
    rw [top_xor, Nat.mul_div_cancel _ (by decide)]
    have h1 : r / 2147483648 = 0 ∨ r / 2147483648 = 1 := by omega
    rcases hx with rfl | rfl <;> rcases h1 with h | h <;> rw [h] <;> rfl
  unfold HP
  rw [hd, ht]
end Go.Proofs.Ytcackdcjepifpaa
