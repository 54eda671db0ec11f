/- Sums by bits and by bytes: plain laws, with no program in sight. -/
import Derived.Test.YtnjdhkaabpmahaaJoinPure
namespace Go.Proofs.Ytnjdhkaabpmahaa
open Go.RowKit
set_option linter.unusedVariables false
set_option linter.unusedSimpArgs false

/-- A register whose bits fall out below, behind a bit 0, by a polynomial. -/
def ZP (P r : Nat) : Nat := if r % 2 = 1 then r / 2 ^^^ P else r / 2
theorem ZP_lin (P : Nat) : Lin (ZP P) := fun a b => by
  unfold ZP
  rw [xor_half, xor_odd]
  rcases Nat.mod_two_eq_zero_or_one a with ha | ha <;> rcases Nat.mod_two_eq_zero_or_one b with hb | hb <;> rw [ha, hb]
  · rfl
  · show a / 2 ^^^ b / 2 ^^^ P = a / 2 ^^^ (b / 2 ^^^ P)
    rw [Nat.xor_assoc]
  · show a / 2 ^^^ b / 2 ^^^ P = a / 2 ^^^ P ^^^ b / 2
    rw [Nat.xor_assoc, Nat.xor_comm (b / 2), Nat.xor_assoc]
  · show a / 2 ^^^ b / 2 = (a / 2 ^^^ P) ^^^ (b / 2 ^^^ P)
    rw [xor_four, Nat.xor_self, Nat.xor_zero]
theorem ZP_double (P y : Nat) : ZP P (2 * y) = y := by
  unfold ZP
  rw [if_neg (by omega)]
  omega
theorem ZP_lt (P n r : Nat) (hP : P < 2 ^ n) (h : r < 2 ^ n) : ZP P r < 2 ^ n := by
  unfold ZP
  split
  · exact Nat.xor_lt_two_pow (by omega) hP
  · omega
def ZPn (P : Nat) : Nat → Nat → Nat
  | 0, r => r
  | k + 1, r => ZP P (ZPn P k r)
theorem ZPn_lin (P : Nat) : ∀ k, Lin (ZPn P k)
  | 0 => fun _ _ => rfl
  | k + 1 => fun a b => by
    show ZP P (ZPn P k (a ^^^ b)) = _
    rw [ZPn_lin P k, ZP_lin]
    rfl
theorem ZPn_pow (P y : Nat) : ∀ k, ZPn P k (2 ^ k * y) = y
  | 0 => by rw [Nat.pow_zero, Nat.one_mul]; rfl
  | k + 1 => by
    show ZP P (ZPn P k (2 ^ (k + 1) * y)) = y
    rw [Nat.pow_succ, Nat.mul_assoc, ZPn_pow P (2 * y) k, ZP_double]
theorem ZPn_lt (P n r : Nat) (hP : P < 2 ^ n) (h : r < 2 ^ n) : ∀ k, ZPn P k r < 2 ^ n
  | 0 => h
  | k + 1 => ZP_lt P n _ hP (ZPn_lt P n r hP h k)
/-- A number is its high part and its low part, exclusive-ored. -/
theorem split_xor (r k : Nat) : r = (2 ^ k * (r / 2 ^ k)) ^^^ (r % 2 ^ k) := by
  apply Nat.eq_of_testBit_eq
  intro i
  rw [Nat.testBit_xor, Nat.testBit_mod_two_pow, Nat.testBit_two_pow_mul]
  by_cases h : i < k
  · have h1 : ¬ k ≤ i := by omega
    simp [h, h1]
  · have h1 : k ≤ i := by omega
    have h2 : k + (i - k) = i := by omega
    simp [h, h1, Nat.testBit_div_two_pow, h2, Nat.sub_add_cancel h1]
/-- A byte at once: by the table. -/
theorem byte_step (P r b : Nat) : ZPn P 8 (r ^^^ b) = r / 256 ^^^ ZPn P 8 (r % 256 ^^^ b) := by
  have h := split_xor r 8
  rw [show (2 : Nat) ^ 8 = 256 from rfl] at h
  conv => lhs; rw [h]
  rw [Nat.xor_assoc, ZPn_lin, show 256 * (r / 256) = 2 ^ 8 * (r / 256) from rfl, ZPn_pow]
/-- A byte bit by bit, the lowest one first. -/
theorem bit_step (P r b k : Nat) : ZP P (ZPn P k (r ^^^ b % 2 ^ k) ^^^ (if b.testBit k then 1 else 0)) = ZPn P (k + 1) (r ^^^ b % 2 ^ (k + 1)) := by
  show _ = ZP P (ZPn P k (r ^^^ b % 2 ^ (k + 1)))
  rw [mod_succ_bit, ← Nat.xor_assoc, ZPn_lin P k (r ^^^ b % 2 ^ k)]
  split
  · have := ZPn_pow P 1 k
    rw [Nat.mul_one] at this
    rw [this]
  · rw [(ZPn_lin P k).zero]
/-- The document's words for a bit. -/
theorem ref_bit (P r x : Nat) (hx : x = 0 ∨ x = 1) : ZP P (r ^^^ x) = if r % 2 ^^^ x = 1 then r / 2 ^^^ P else r / 2 := by
  have hh : (r ^^^ x) / 2 = r / 2 := by
    rw [xor_half]
    rcases hx with rfl | rfl
    · exact Nat.xor_zero _
    · exact Nat.xor_zero _
  have ho : (r ^^^ x) % 2 = r % 2 ^^^ x := by
    rw [xor_odd]
    rcases hx with rfl | rfl <;> rcases Nat.mod_two_eq_zero_or_one r with h | h <;> rw [h] <;> rfl
  unfold ZP
  rw [hh, ho]

/-! ### The other way round: bits that fall out above -/
def HP (P r : Nat) : Nat := if r / 2147483648 % 2 = 1 then (r * 2 % 4294967296) ^^^ P else r * 2 % 4294967296
def HPn (P : Nat) : Nat → Nat → Nat
  | 0, r => r
  | k + 1, r => HP P (HPn P k r)
theorem dbl_xor (a b : Nat) : (a ^^^ b) * 2 % 4294967296 = (a * 2 % 4294967296) ^^^ (b * 2 % 4294967296) := by
  apply Nat.eq_of_testBit_eq
  intro i
  have h : ∀ n : Nat, (n * 2 % 4294967296).testBit i = (decide (i < 32) && (decide (1 ≤ i) && n.testBit (i - 1))) := fun n => by
    rw [show (4294967296 : Nat) = 2 ^ 32 from rfl, Nat.testBit_mod_two_pow, Nat.mul_comm, show (2 : Nat) * n = 2 ^ 1 * n from rfl, Nat.testBit_two_pow_mul]
  rw [Nat.testBit_xor, h, h, h, Nat.testBit_xor]
  cases decide (i < 32) <;> cases decide (1 ≤ i) <;> simp
theorem top_xor (a b : Nat) : (a ^^^ b) / 2147483648 % 2 = (a / 2147483648 % 2 + b / 2147483648 % 2) % 2 := by
  have h : (a ^^^ b) / 2147483648 = a / 2147483648 ^^^ b / 2147483648 := by
    apply Nat.eq_of_testBit_eq
    intro i
    rw [show (2147483648 : Nat) = 2 ^ 31 from rfl, Nat.testBit_div_two_pow, Nat.testBit_xor, Nat.testBit_xor, Nat.testBit_div_two_pow, Nat.testBit_div_two_pow]
  rw [h, xor_odd]
theorem HP_lin (P : Nat) : Lin (HP P) := fun a b => by
  unfold HP
  rw [dbl_xor, top_xor]
  rcases Nat.mod_two_eq_zero_or_one (a / 2147483648) with ha | ha <;> rcases Nat.mod_two_eq_zero_or_one (b / 2147483648) with hb | hb <;> rw [ha, hb]
  · rfl
  · show a * 2 % 4294967296 ^^^ b * 2 % 4294967296 ^^^ P = a * 2 % 4294967296 ^^^ (b * 2 % 4294967296 ^^^ P)
    rw [Nat.xor_assoc]
  · show a * 2 % 4294967296 ^^^ b * 2 % 4294967296 ^^^ P = a * 2 % 4294967296 ^^^ P ^^^ b * 2 % 4294967296
    rw [Nat.xor_assoc, Nat.xor_comm (b * 2 % 4294967296), Nat.xor_assoc]
  · show a * 2 % 4294967296 ^^^ b * 2 % 4294967296 = (a * 2 % 4294967296 ^^^ P) ^^^ (b * 2 % 4294967296 ^^^ P)
    rw [xor_four, Nat.xor_self, Nat.xor_zero]
theorem HPn_lin (P : Nat) : ∀ k, Lin (HPn P k)
  | 0 => fun _ _ => rfl
  | k + 1 => fun a b => by
    show HP P (HPn P k (a ^^^ b)) = _
    rw [HPn_lin P k, HP_lin]
    rfl
theorem HP_lt (P r : Nat) (hP : P < 4294967296) : HP P r < 4294967296 := by
  have h : r * 2 % 4294967296 < 4294967296 := Nat.mod_lt _ (by decide)
  unfold HP
  split
  · exact Nat.xor_lt_two_pow (n := 32) h hP
  · exact h
theorem HP_small (P y : Nat) (hy : y < 2147483648) : HP P y = 2 * y := by
  unfold HP
  rw [if_neg (by omega)]
  omega
/-- A register below 2^(32 - k) moves up k places. -/
theorem HPn_small (P y : Nat) : ∀ k, k ≤ 32 → y < 2 ^ (32 - k) → HPn P k y = 2 ^ k * y
  | 0, _, _ => by rw [Nat.pow_zero, Nat.one_mul]; rfl
  | k + 1, hk, hy => by
    have h1 : 2 ^ (32 - k) = 2 * 2 ^ (32 - (k + 1)) := by rw [← Nat.pow_succ', show (32 - (k + 1)).succ = 32 - k from by omega]
    have h2 : (2 : Nat) ^ k * 2 ^ (32 - (k + 1)) = 2147483648 := by rw [← Nat.pow_add, show k + (32 - (k + 1)) = 31 from by omega]
    show HP P (HPn P k y) = _
    rw [HPn_small P y k (by omega) (by omega), HP_small, Nat.pow_succ, Nat.mul_comm (2 ^ k) 2, Nat.mul_assoc]
    rw [← h2]
    exact Nat.mul_lt_mul_of_pos_left hy (Nat.two_pow_pos k)
/-- A byte at once, from above: by the table. -/
theorem byte_step_high (P r b : Nat) (hr : r < 4294967296) (hb : b < 256) : HPn P 8 (r ^^^ b * 16777216) = (r * 256 % 4294967296) ^^^ HPn P 8 ((r / 16777216 ^^^ b) * 16777216) := by
  have h := split_xor r 24
  rw [show (2 : Nat) ^ 24 = 16777216 from rfl] at h
  have hx : (r / 16777216 ^^^ b) * 16777216 = 16777216 * (r / 16777216) ^^^ b * 16777216 := by
    apply Nat.eq_of_testBit_eq
    intro i
    rw [Nat.mul_comm, Nat.mul_comm b, show (16777216 : Nat) = 2 ^ 24 from rfl, Nat.testBit_xor, Nat.testBit_two_pow_mul, Nat.testBit_two_pow_mul, Nat.testBit_two_pow_mul, Nat.testBit_xor]
    cases decide (24 ≤ i) <;> simp
  have hl : HPn P 8 (r % 16777216) = r * 256 % 4294967296 := by
    rw [HPn_small P _ 8 (by decide) (Nat.mod_lt _ (by decide))]
    omega
  conv => lhs; rw [h]
  rw [Nat.xor_assoc, Nat.xor_comm (r % 16777216), ← Nat.xor_assoc, ← hx, HPn_lin P 8, hl, Nat.xor_comm]
end Go.Proofs.Ytnjdhkaabpmahaa
