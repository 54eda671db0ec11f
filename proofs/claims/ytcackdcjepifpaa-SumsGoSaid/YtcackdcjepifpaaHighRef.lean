/- The document's high sum. -/
import Derived.Test.YtcackdcjepifpaaCrcRef
import Derived.Test.YtcackdcjepifpaaHighPure
namespace Go.Proofs.Ytcackdcjepifpaa
open Go.RowKit
set_option linter.unusedVariables false
set_option linter.unusedSimpArgs false

theorem HPn_lt (P r : Nat) (hP : P < 4294967296) (h : r < 4294967296) : ∀ k, HPn P k r < 4294967296
  | 0 => h
  | k + 1 => HP_lt P _ hP
def refStateH (P r : Nat) (xs : List Nat) (i : Nat) : Nat := HPn P (i % 8) (crcHi P r (xs.take (i / 8)) ^^^ xs.getD (i / 8) 0 / 2 ^ (8 - i % 8) * 2 ^ (32 - i % 8))
theorem refStateH_zero (P r : Nat) (xs : List Nat) (hb : xs.getD 0 0 < 256) : refStateH P r xs 0 = r := by
  unfold refStateH
  rw [show 0 % 8 = 0 from rfl, show 0 / 8 = 0 from rfl, Nat.div_eq_of_lt (show xs.getD 0 0 < 2 ^ (8 - 0) from hb), Nat.zero_mul, Nat.xor_zero]
  rfl
theorem refStateH_all (P r : Nat) (xs : List Nat) : refStateH P r xs (8 * xs.length) = crcHi P r xs := by
  unfold refStateH
  rw [show 8 * xs.length % 8 = 0 from by omega, show 8 * xs.length / 8 = xs.length from by omega, List.take_length, List.getD_eq_getElem?_getD, List.getElem?_eq_none (by omega)]
  simp [HPn]
theorem refStateH_step (P r : Nat) (xs : List Nat) (i : Nat) (h : i / 8 < xs.length) (hb : xs.getD (i / 8) 0 < 256) (hb2 : xs.getD (i / 8 + 1) 0 < 256) :
    HP P (refStateH P r xs i ^^^ (if (xs.getD (i / 8) 0).testBit (7 - i % 8) then 2147483648 else 0)) = refStateH P r xs (i + 1) := by
  unfold refStateH
  rw [bit_step_high P _ _ _ (Nat.mod_lt _ (by decide)) hb]
  by_cases h7 : i % 8 = 7
  · rw [h7, show (i + 1) % 8 = 0 from by omega, show (i + 1) / 8 = i / 8 + 1 from by omega, Nat.div_eq_of_lt (show xs.getD (i / 8 + 1) 0 < 2 ^ (8 - 0) from hb2), Nat.zero_mul, Nat.xor_zero]
    have hx : xs[i / 8]? = some (xs.getD (i / 8) 0) := by rw [List.getElem?_eq_getElem h, List.getD_eq_getElem?_getD, List.getElem?_eq_getElem h]; rfl
    rw [List.take_add_one, hx]
    unfold crcHi
    simp [List.foldl_append, HPn]
  · rw [show (i + 1) % 8 = i % 8 + 1 from by omega, show (i + 1) / 8 = i / 8 from by omega]
theorem crcHi_lt (P : Nat) (hP : P < 4294967296) (xs : List Nat) (hx : ∀ x ∈ xs, x < 256) : ∀ r, r < 4294967296 → crcHi P r xs < 4294967296 := by
  induction xs with
  | nil => intro r hr; exact hr
  | cons x xs ih => intro r hr; exact ih (fun y hy => hx y (List.mem_cons_of_mem _ hy)) _ (HP_lt P _ hP)
theorem refStateH_lt (P r : Nat) (xs : List Nat) (hP : P < 4294967296) (hx : ∀ x ∈ xs, x < 256) (hr : r < 4294967296) (i : Nat) (hb : xs.getD (i / 8) 0 < 256) : refStateH P r xs i < 4294967296 := by
  unfold refStateH
  by_cases h0 : i % 8 = 0
  · rw [h0, Nat.div_eq_of_lt (show xs.getD (i / 8) 0 < 2 ^ (8 - 0) from hb), Nat.zero_mul, Nat.xor_zero]
    exact crcHi_lt P hP _ (fun y hy => hx y (List.mem_of_mem_take hy)) r hr
  · obtain ⟨k, hk⟩ : ∃ k, i % 8 = k + 1 := ⟨i % 8 - 1, by omega⟩
    rw [hk]
    exact HP_lt P _ hP

set_option maxRecDepth 4000 in
set_option maxHeartbeats 1000000 in
theorem refHigh_is (w : World) (a : Nat) (A : Option Addr) (n c : Nat) (xs : List Nat) (ha : a < 4294967296) (h : Bs w A n xs) (hn : n ≤ 140737488355328) :
    Calls Try.prog 16 #[.int .u32 a, .slice A n c] w fun e w' => e = .returned (.int .u32 (not32 (crcHi 79764919 (not32 a) xs) : Nat)) ∧ w = w' := by
  have hna := not32_int a ha
  have HR := Lib.hid (not32_lt a ha)
  have HH := Lib.hid h
  have hlen : xs.length = n := h.1
  clear h ha
  generalize not32 a = r0 at *
  go_enter Try.func16, Try.ntmps16
  go_wp2_with fail
  clear hna
  go_loopw [5, 6] (fun vr vi wr => ∃ (i : Nat), i ≤ 8 * n ∧ vi = .int .i64 i ∧ vr = .int .u32 (refStateH 79764919 r0 xs i : Nat) ∧ wr = w) (fun _ vi _ => 8 * n - (intOf vi).toNat)
  case atStart => exact ⟨0, by omega, rfl, by rw [refStateH_zero _ _ _ (HH.out.byte 0)], rfl⟩
  case round =>
    obtain ⟨i, hi, rfl, rfl, rfl⟩ := hrel
    by_cases hin : i < 8 * n
    · have hq : i / 8 < n := by omega
      have h := HH.out
      obtain ⟨b, o, rfl, hc⟩ := h.2.2 (by omega)
      have hcell := hc (i / 8) hq
      have hb := h.byte (i / 8)
      have hst := refStateH_step 79764919 r0 xs i (by omega) hb (h.byte (i / 8 + 1))
      have hlt := refStateH_lt 79764919 r0 xs (by decide) h.2.1 HR.out i hb
      generalize hq' : i / 8 = q at *
      generalize xs.getD q 0 = x at *
      generalize hst1 : refStateH 79764919 r0 xs (i + 1) = R' at *
      have HS1 := Lib.hid hst1
      generalize refStateH 79764919 r0 xs i = R at *
      have e8 : (i : Int) / 8 = (q : Int) := by omega
      have hqn : (q : Int) < n := by omega
      obtain ⟨k, hk⟩ : ∃ k, k = i % 8 := ⟨_, rfl⟩
      rw [← hk] at hst
      have ek : (i : Int) % 8 = (k : Int) := by omega
      have hk8 : k < 8 := by omega
      have hxor : ∀ y : Nat, y ≤ 1 → bits .xor .u32 ((R / 2147483648 : Nat) : Int) (y : Int) = ((R / 2147483648 ^^^ y : Nat) : Int) := fun y hy => xor_u32 (R / 2147483648) y (by omega) (by omega)
      have hp := xor_u32 (R * 2 % 4294967296) 79764919 (Nat.mod_lt _ (by decide)) (by decide)
      have HST := Lib.hid hst
      have hin' : (i : Int) < 8 * n := by omega
      have HLT := Lib.hid hlt
      clear hst hq' hst1 hk hc h hlt
      go_wp2_with fail
      refine (refbit_is wr x k true hb hk8).mono ?_
      rintro e w2 ⟨rfl, rfl⟩
      simp only [if_true]
      have hy : (x.testBit (7 - k)).toNat = 0 ∨ (x.testBit (7 - k)).toNat = 1 := by cases x.testBit (7 - k) <;> simp
      have hyi : (if x.testBit (7 - k) then 2147483648 else 0) = (x.testBit (7 - k)).toNat * 2147483648 := by cases x.testBit (7 - k) <;> rfl
      have hst := HST.out
      rw [hyi, ref_bit_high _ _ _ HLT.out hy] at hst
      clear HST hyi
      generalize (x.testBit (7 - k)).toNat = y at *
      have hxy := hxor y (by omega)
      have hv : (R / 2147483648 ^^^ y) = 0 ∨ (R / 2147483648 ^^^ y) = 1 := by
        have h1 : R / 2147483648 = 0 ∨ R / 2147483648 = 1 := by have := HLT.out; omega
        rcases hy with rfl | rfl <;> rcases h1 with h | h <;> rw [h] <;> simp
      have hy1 : y ≤ 1 := by omega
      clear hxor hy
      generalize (R / 2147483648 ^^^ y) = v at *
      have hp' : bits .xor .u32 ((R : Int) * 2 % 4294967296) 79764919 = ((R * 2 % 4294967296 ^^^ 79764919 : Nat) : Int) := hp
      have hxy' : bits .xor .u32 ((R : Int) / 2147483648) (y : Int) = ((v : Nat) : Int) := hxy
      clear hp hxy
      rcases hv with rfl | rfl
      · simp only [Nat.zero_ne_one, if_false] at hst
        have HS := Lib.hid hst
        clear hst
        go_wp2_with fail
        go_roundw
        case rel => exact ⟨i + 1, by omega, by go_num, by rw [HS1.out, ← HS.out]; rfl, by trivial⟩
        case measure => simp [intOf]; omega
      · simp only [if_true] at hst
        have HS := Lib.hid hst
        clear hst
        go_wp2_with fail
        go_roundw
        case rel => exact ⟨i + 1, by omega, by go_num, by rw [HS1.out, ← HS.out], by trivial⟩
        case measure => simp [intOf]; omega
    · obtain rfl : i = 8 * n := by omega
      have h := HH.out
      have hfin : refStateH 79764919 r0 xs (8 * n) = crcHi 79764919 r0 xs := by rw [← hlen]; exact refStateH_all _ _ _
      have hnx := not32_int (crcHi 79764919 r0 xs) (crcHi_lt _ (by decide) xs h.2.1 r0 HR.out)
      rw [hfin]
      clear hfin h
      go_wp2_with fail
      go_ret
      exact ⟨rfl, rfl⟩
end Go.Proofs.Ytcackdcjepifpaa
