/- Sums as linear maps of bits: plain laws, with no program in sight. -/
import Derived.Laws.BitsLemmas
import Derived.Laws.Bits64
import Derived.Laws.BitsAllLaws
import Derived.RowKit
namespace Go.Proofs.Ytnjdhkaabpmahaa
open Go.RowKit
set_option linter.unusedVariables false

/-- A register behind a bit 0. -/
def ZZ (r : Nat) : Nat := if r % 2 = 1 then r / 2 ^^^ 3988292384 else r / 2
def Lin (f : Nat → Nat) : Prop := ∀ a b, f (a ^^^ b) = f a ^^^ f b
theorem Lin.zero {f : Nat → Nat} (h : Lin f) : f 0 = 0 := by
  have := h 0 0
  rw [Nat.xor_self] at this
  rw [this, Nat.xor_self]
theorem Lin.comp {f g : Nat → Nat} (hf : Lin f) (hg : Lin g) : Lin fun r => f (g r) := fun a b => by
  show f (g (a ^^^ b)) = _
  rw [hg, hf]
theorem xor_half (a b : Nat) : (a ^^^ b) / 2 = a / 2 ^^^ b / 2 := by
  apply Nat.eq_of_testBit_eq
  intro i
  simp [Nat.testBit_div_two]
theorem xor_odd (a b : Nat) : (a ^^^ b) % 2 = (a % 2 + b % 2) % 2 := by
  have h : ∀ n : Nat, n % 2 = (n.testBit 0).toNat := fun n => by
    rw [Nat.testBit_zero]
    rcases Nat.mod_two_eq_zero_or_one n with h | h <;> simp [h]
  rw [h (a ^^^ b), h a, h b, Nat.testBit_xor]
  cases a.testBit 0 <;> cases b.testBit 0 <;> rfl
theorem xor_four (a b c d : Nat) : (a ^^^ c) ^^^ (b ^^^ d) = (a ^^^ b) ^^^ (c ^^^ d) := by
  rw [Nat.xor_assoc, Nat.xor_assoc, ← Nat.xor_assoc c b d, Nat.xor_comm c b, Nat.xor_assoc]
theorem ZZ_lin : Lin ZZ := fun a b => by
  unfold ZZ
  rw [xor_half, xor_odd]
  rcases Nat.mod_two_eq_zero_or_one a with ha | ha <;> rcases Nat.mod_two_eq_zero_or_one b with hb | hb <;> rw [ha, hb]
  · rfl
  · show a / 2 ^^^ b / 2 ^^^ 3988292384 = a / 2 ^^^ (b / 2 ^^^ 3988292384)
    rw [Nat.xor_assoc]
  · show a / 2 ^^^ b / 2 ^^^ 3988292384 = a / 2 ^^^ 3988292384 ^^^ b / 2
    rw [Nat.xor_assoc, Nat.xor_comm (b / 2), Nat.xor_assoc]
  · show a / 2 ^^^ b / 2 = (a / 2 ^^^ 3988292384) ^^^ (b / 2 ^^^ 3988292384)
    rw [xor_four, Nat.xor_self, Nat.xor_zero]
theorem ZZ_lt (r : Nat) (h : r < 4294967296) : ZZ r < 4294967296 := by
  unfold ZZ
  split
  · exact Nat.xor_lt_two_pow (n := 32) (by omega) (by decide)
  · omega
theorem ZZ_pow (i : Nat) : ZZ (2 ^ (i + 1)) = 2 ^ i := by
  unfold ZZ
  rw [Nat.pow_succ, if_neg (by omega)]
  omega
def Zn : Nat → Nat → Nat
  | 0, r => r
  | n + 1, r => Zn n (ZZ r)
theorem Zn_add (m n r : Nat) : Zn (m + n) r = Zn n (Zn m r) := by
  induction m generalizing r with
  | zero => rw [Nat.zero_add]; rfl
  | succ m ih => rw [show m + 1 + n = (m + n) + 1 from by omega]; exact ih (ZZ r)
theorem Zn_one (r : Nat) : Zn 1 r = ZZ r := rfl
theorem Zn_lin (n : Nat) : Lin (Zn n) := by
  induction n with
  | zero => exact fun a b => rfl
  | succ n ih =>
    intro a b
    show Zn n (ZZ (a ^^^ b)) = _
    rw [ZZ_lin, ih]
    rfl
theorem Zn_comm (n r : Nat) : ZZ (Zn n r) = Zn n (ZZ r) := by
  rw [← Zn_one, ← Zn_add, Nat.add_comm, Zn_add, Zn_one]
theorem Zn_lt (n r : Nat) (h : r < 4294967296) : Zn n r < 4294967296 := by
  induction n generalizing r with
  | zero => exact h
  | succ n ih => exact ih _ (ZZ_lt r h)

theorem mod_succ_bit (r k : Nat) : r % 2 ^ (k + 1) = r % 2 ^ k ^^^ (if r.testBit k then 2 ^ k else 0) := by
  apply Nat.eq_of_testBit_eq
  intro i
  rw [Nat.testBit_xor, Nat.testBit_mod_two_pow, Nat.testBit_mod_two_pow]
  by_cases hk : r.testBit k = true
  · rw [if_pos hk, Nat.testBit_two_pow]
    rcases Nat.lt_trichotomy i k with h | h | h
    · simp [h, Nat.lt_succ_of_lt h, Nat.ne_of_gt h]
    · subst h; simp [hk]
    · have h1 : ¬ i < k := by omega
      have h2 : ¬ i < k + 1 := by omega
      have h3 : ¬ k = i := by omega
      simp [h1, h2, h3]
  · rw [if_neg hk, Nat.zero_testBit]
    rcases Nat.lt_trichotomy i k with h | h | h
    · simp [h, Nat.lt_succ_of_lt h]
    · subst h; simp [hk]
    · have h1 : ¬ i < k := by omega
      have h2 : ¬ i < k + 1 := by omega
      simp [h1, h2]
/-- What a matrix makes of a register, bit by bit. -/
def ofk (m : Nat → Nat) (r : Nat) : Nat → Nat
  | 0 => 0
  | k + 1 => if r.testBit k then ofk m r k ^^^ m k else ofk m r k
theorem ofk_lin {f : Nat → Nat} (h : Lin f) (r : Nat) : ∀ k, ofk (fun i => f (2 ^ i)) r k = f (r % 2 ^ k)
  | 0 => by rw [Nat.pow_zero, Nat.mod_one, h.zero]; rfl
  | k + 1 => by
    rw [mod_succ_bit, h, ← ofk_lin h r k]
    show (if r.testBit k then ofk (fun i => f (2 ^ i)) r k ^^^ f (2 ^ k) else ofk (fun i => f (2 ^ i)) r k) = _
    split
    · rfl
    · rw [h.zero, Nat.xor_zero]
theorem ofk_lt (m : Nat → Nat) (hm : ∀ i, m i < 4294967296) (r : Nat) : ∀ k, ofk m r k < 4294967296
  | 0 => (by decide : 0 < 4294967296)
  | k + 1 => by
    unfold ofk
    split
    · exact Nat.xor_lt_two_pow (n := 32) (ofk_lt m hm r k) (hm k)
    · exact ofk_lt m hm r k
/-- The product of two polynomials, the highest power in the lowest bit: the steps from bit k - 1 down. -/
def tims (a : Nat) : Nat → Nat → Nat → Nat
  | 0, p, _ => p
  | k + 1, p, b => tims a k (if a.testBit k then p ^^^ b else p) (ZZ b)
theorem tims_lin {f : Nat → Nat} (h : Lin f) (hz : ∀ r, ZZ (f r) = f (ZZ r)) (a : Nat) : ∀ k p, tims a k p (f (2 ^ (k - 1))) = p ^^^ f (a % 2 ^ k)
  | 0, p => by rw [Nat.pow_zero, Nat.mod_one, h.zero, Nat.xor_zero]; rfl
  | 1, p => by
    rw [show (1 : Nat) = 0 + 1 from rfl, mod_succ_bit, Nat.pow_zero, Nat.mod_one, Nat.zero_xor]
    show (if a.testBit 0 then p ^^^ f (2 ^ 0) else p) = _
    split
    · rfl
    · rw [h.zero, Nat.xor_zero]
  | k + 2, p => by
    show tims a (k + 1) (if a.testBit (k + 1) then p ^^^ f (2 ^ (k + 1)) else p) (ZZ (f (2 ^ (k + 1)))) = _
    rw [hz, ZZ_pow]
    have ih := tims_lin h hz a (k + 1) (if a.testBit (k + 1) then p ^^^ f (2 ^ (k + 1)) else p)
    rw [show k + 1 - 1 = k from rfl] at ih
    rw [ih, mod_succ_bit a (k + 1), h]
    split
    · rw [Nat.xor_assoc, Nat.xor_comm (f (2 ^ (k + 1)))]
    · rw [h.zero, Nat.xor_zero]
@[irreducible] def tms (a b : Nat) : Nat := tims a 32 0 b
/-- From bit k - 1 down it comes to the product. -/
structure TI (a b k p b' : Nat) : Prop where
  out : tims a k p b' = tms a b
theorem TI.start (a b : Nat) : TI a b 32 0 b := ⟨by unfold tms; rfl⟩
theorem TI.stop {a b p b' : Nat} (h : TI a b 0 p b') : p = tms a b := h.out
theorem TI.step {a b k p b' : Nat} (h : TI a b (k + 1) p b') : TI a b k (if a.testBit k then p ^^^ b' else p) (ZZ b') := ⟨h.out⟩
/-- A product with a power is that power's register. -/
theorem tms_pow (a j : Nat) (ha : a < 4294967296) : tms a (Zn j 2147483648) = Zn j a := by
  unfold tms
  rw [show (2147483648 : Nat) = 2 ^ (32 - 1) from rfl, tims_lin (Zn_lin j) (Zn_comm j) a 32 0, Nat.zero_xor, Nat.mod_eq_of_lt ha]
theorem eight : Zn 8 2147483648 = 8388608 := by decide
/-- In the program's words. -/
theorem ZZ_mul (r : Nat) : r / 2 ^^^ (3988292384 * (r % 2)) = ZZ r := by
  unfold ZZ
  split
  · rename_i h; rw [h, Nat.mul_one]
  · rename_i h; rw [show r % 2 = 0 from by omega, Nat.mul_zero, Nat.xor_zero]
theorem testBit_val (r k : Nat) : (r / 2 ^ k % 2 = 1) = (r.testBit k = true) := by
  rw [Nat.testBit_eq_decide_div_mod_eq, decide_eq_true_eq]
theorem xor_u32 (a b : Nat) (ha : a < 4294967296) (hb : b < 4294967296) : bits .xor .u32 (a : Int) (b : Int) = ((a ^^^ b : Nat) : Int) := by
  rw [u32_xor _ _ (by omega) (by omega) (by omega) (by omega), Int.toNat_natCast, Int.toNat_natCast]
theorem and1_u32 (a : Nat) (ha : a < 4294967296) : bits .and .u32 (a : Int) 1 = ((a % 2 : Nat) : Int) := by
  rw [u32_and _ _ (by omega) (by omega) (by omega) (by omega), Int.toNat_natCast, show (1 : Int).toNat = 1 from rfl, Nat.and_one_is_mod]
end Go.Proofs.Ytnjdhkaabpmahaa
