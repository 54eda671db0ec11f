/- Bits that come as they are likely: the numbers. -/
import Derived.Test.YtiikbpcaeoodjaaEnP
import Derived.KernelRfl
namespace Go.Proofs.Ytiikbpcaeoodjaa
set_option linter.unusedVariables false

/-- A width behind a bit by a chance, ahead of what widens it. -/
def lkW (x p wd : Nat) : Nat := cond (Nat.beq x 0) (wd / 2048 * p) (wd - wd / 2048 * p)
def lkP (x p : Nat) : Nat := cond (Nat.beq x 0) (p + (2048 - p) / 32) (p - p / 32)
/-- What must be so behind i bits. -/
def lkGood (x i p cnt : Nat) : Bool := Nat.ble (cnt + 1) (21 + i / 128) && (cond (Nat.beq x 0) (Nat.blt 1024 p) (Nat.ble p 1024))
/-- So many bits more, from behind i bits. -/
def lkChk (x : Nat) : Nat → Nat → Nat → Nat → Nat → Bool
  | 0, _, _, _, _ => true
  | f + 1, i, p, wd, cnt => cond (Nat.blt (lkW x p wd) 16777216)
      (lkGood x (i + 1) (lkP x p) (cnt + 1) && lkChk x f (i + 1) (lkP x p) (lkW x p wd * 256) (cnt + 1))
      (lkGood x (i + 1) (lkP x p) cnt && lkChk x f (i + 1) (lkP x p) (lkW x p wd) cnt)
theorem lk0 : lkChk 0 3000 0 1024 4294967295 0 = true := by kernel_rfl
theorem lk1 : lkChk 1 3000 0 1024 4294967295 0 = true := by kernel_rfl
end Go.Proofs.Ytiikbpcaeoodjaa
