/- The document's Crc64. -/
import Derived.Test.YtcackdcjepifpaaCrcRef
namespace Go.Proofs.Ytcackdcjepifpaa
open Go.RowKit
set_option linter.unusedVariables false
set_option linter.unusedSimpArgs false

theorem xor_u64n (a b : Nat) (ha : a < 18446744073709551616) (hb : b < 18446744073709551616) : bits .xor .u64 (a : Int) (b : Int) = ((a ^^^ b : Nat) : Int) := by
  rw [u64_xor _ _ (by omega) (by omega) (by omega) (by omega), Int.toNat_natCast, Int.toNat_natCast]
theorem and1_u64n (a : Nat) (ha : a < 18446744073709551616) : bits .and .u64 (a : Int) 1 = ((a % 2 : Nat) : Int) := by
  rw [u64_and _ _ (by omega) (by omega) (by omega) (by omega), Int.toNat_natCast, show (1 : Int).toNat = 1 from rfl, Nat.and_one_is_mod]
theorem crcAll64_lt (P : Nat) (hP : P < 18446744073709551616) (xs : List Nat) (hx : ∀ x ∈ xs, x < 256) : ∀ r, r < 18446744073709551616 → crcAll P r xs < 18446744073709551616 := by
  induction xs with
  | nil => intro r hr; exact hr
  | cons x xs ih =>
    intro r hr
    exact ih (fun y hy => hx y (List.mem_cons_of_mem _ hy)) _ (ZPn_lt P 64 _ hP (Nat.xor_lt_two_pow (n := 64) hr (by have := hx x List.mem_cons_self; omega)) 8)
theorem refState64_lt (P r : Nat) (xs : List Nat) (hP : P < 18446744073709551616) (hx : ∀ x ∈ xs, x < 256) (hr : r < 18446744073709551616) (i : Nat) (hb : xs.getD (i / 8) 0 < 256) : refState P r xs i < 18446744073709551616 := by
  refine ZPn_lt P 64 _ hP (Nat.xor_lt_two_pow (n := 64) (crcAll64_lt P hP _ (fun y hy => hx y (List.mem_of_mem_take hy)) r hr) ?_) _
  have := Nat.mod_le (xs.getD (i / 8) 0) (2 ^ (i % 8))
  omega

def not64 (x : Nat) : Nat := 18446744073709551615 ^^^ x
theorem not64_lt (x : Nat) (h : x < 18446744073709551616) : not64 x < 18446744073709551616 := Nat.xor_lt_two_pow (n := 64) (by decide) h
theorem not64_int (x : Nat) (h : x < 18446744073709551616) : bits .xor .u64 IntKind.u64.max (x : Int) = ((not64 x : Nat) : Int) := xor_u64n 18446744073709551615 x (by decide) h

set_option maxRecDepth 4000 in
set_option maxHeartbeats 1000000 in
theorem refCrc64_is (w : World) (a : Nat) (A : Option Addr) (n c : Nat) (xs : List Nat) (ha : a < 18446744073709551616) (h : Bs w A n xs) (hn : n ≤ 140737488355328) :
    Calls Try.prog 17 #[.int .u64 a, .slice A n c] w fun e w' => e = .returned (.int .u64 (not64 (crcAll 14514072000185962306 (not64 a) xs) : Nat)) ∧ w = w' := by
  have hna := not64_int a ha
  have HR := Lib.hid (not64_lt a ha)
  have HH := Lib.hid h
  have hlen : xs.length = n := h.1
  clear h ha
  generalize not64 a = r0 at *
  go_enter Try.func17, Try.ntmps17
  go_wp2_with fail
  clear hna
  go_loopw [5, 6] (fun vr vi wr => ∃ (i : Nat), i ≤ 8 * n ∧ vi = .int .i64 i ∧ vr = .int .u64 (refState 14514072000185962306 r0 xs i : Nat) ∧ wr = w) (fun _ vi _ => 8 * n - (intOf vi).toNat)
  case atStart => exact ⟨0, by omega, rfl, by rw [refState_zero], rfl⟩
  case round =>
    obtain ⟨i, hi, rfl, rfl, rfl⟩ := hrel
    by_cases hin : i < 8 * n
    · have hq : i / 8 < n := by omega
      have h := HH.out
      obtain ⟨b, o, rfl, hc⟩ := h.2.2 (by omega)
      have hcell := hc (i / 8) hq
      have hb := h.byte (i / 8)
      have hst := refState_step 14514072000185962306 r0 xs i (by omega) hb
      have hlt := refState64_lt 14514072000185962306 r0 xs (by decide) h.2.1 HR.out i hb
      generalize hq' : i / 8 = q at *
      generalize xs.getD q 0 = x at *
      generalize hst1 : refState 14514072000185962306 r0 xs (i + 1) = R' at *
      have HS1 := Lib.hid hst1
      generalize refState 14514072000185962306 r0 xs i = R at *
      have e8 : (i : Int) / 8 = (q : Int) := by omega
      have hqn : (q : Int) < n := by omega
      obtain ⟨k, hk⟩ : ∃ k, k = i % 8 := ⟨_, rfl⟩
      rw [← hk] at hst
      have ek : (i : Int) % 8 = (k : Int) := by omega
      have hk8 : k < 8 := by omega
      have hand := and1_u64n R hlt
      have hxor : ∀ y : Nat, y ≤ 1 → bits .xor .u64 ((R % 2 : Nat) : Int) (y : Int) = ((R % 2 ^^^ y : Nat) : Int) := fun y hy => xor_u64n (R % 2) y (by omega) (by omega)
      have hp := xor_u64n (R / 2) 14514072000185962306 (by omega) (by decide)
      have HST := Lib.hid hst
      have hin' : (i : Int) < 8 * n := by omega
      clear hst hq' hst1 hk hc h hlt
      go_wp2_with fail
      refine (refbit_is wr x k false hb hk8).mono ?_
      rintro e w2 ⟨rfl, rfl⟩
      simp only [if_false, Bool.false_eq_true]
      have hy : (x.testBit k).toNat = 0 ∨ (x.testBit k).toNat = 1 := by cases x.testBit k <;> simp
      have hyi : (if x.testBit k then 1 else 0) = (x.testBit k).toNat := by cases x.testBit k <;> rfl
      have hst := HST.out
      rw [hyi, ref_bit _ _ _ hy] at hst
      clear HST hyi
      generalize (x.testBit k).toNat = y at *
      have hxy := hxor y (by omega)
      have hv : (R % 2 ^^^ y) = 0 ∨ (R % 2 ^^^ y) = 1 := by
        rcases hy with rfl | rfl <;> rcases Nat.mod_two_eq_zero_or_one R with h | h <;> rw [h] <;> simp
      have hy1 : y ≤ 1 := by omega
      clear hxor hy
      generalize (R % 2 ^^^ y) = v at *
      have hp' : bits .xor .u64 ((R : Int) / 2) 14514072000185962306 = ((R / 2 ^^^ 14514072000185962306 : Nat) : Int) := hp
      have hxy' : bits .xor .u64 ((R : Int) % 2) (y : Int) = ((v : Nat) : Int) := hxy
      clear hp hxy
      rcases hv with rfl | rfl
      · simp only [Nat.zero_ne_one, if_false] at hst
        have HS := Lib.hid hst
        clear hst
        go_wp2_with fail
        go_roundw
        case rel => exact ⟨i + 1, by omega, by go_num, by rw [HS1.out, ← HS.out]; rfl, by trivial⟩
        case measure => simp [intOf]; omega
      · simp only [if_true] at hst
        have HS := Lib.hid hst
        clear hst
        go_wp2_with fail
        go_roundw
        case rel => exact ⟨i + 1, by omega, by go_num, by rw [HS1.out, ← HS.out], by trivial⟩
        case measure => simp [intOf]; omega
    · obtain rfl : i = 8 * n := by omega
      have h := HH.out
      have hfin : refState 14514072000185962306 r0 xs (8 * n) = crcAll 14514072000185962306 r0 xs := by rw [← hlen]; exact refState_all _ _ _
      have hnx := not64_int (crcAll 14514072000185962306 r0 xs) (crcAll64_lt _ (by decide) xs h.2.1 r0 HR.out)
      rw [hfin]
      clear hfin h
      go_wp2_with fail
      go_ret
      exact ⟨rfl, rfl⟩
end Go.Proofs.Ytcackdcjepifpaa
