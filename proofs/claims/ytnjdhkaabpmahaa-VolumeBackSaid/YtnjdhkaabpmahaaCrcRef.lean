/- The document's sums: what each call comes to. -/
import Derived.Test.YtnjdhkaabpmahaaCrcPure
import Derived.Test.YtnjdhkaabpmahaaJoin
namespace Go.Proofs.Ytnjdhkaabpmahaa
open Go.RowKit
set_option linter.unusedVariables false
set_option linter.unusedSimpArgs false

/-- Bytes that lie in a slice. -/
def Bs (w : World) (A : Option Addr) (n : Nat) (xs : List Nat) : Prop :=
  xs.length = n ∧ (∀ x ∈ xs, x < 256) ∧ (0 < n → ∃ b o, A = some ⟨b, o, none⟩ ∧ ∀ j, j < n → w.cell? ⟨b, o + j, none⟩ = some (.int .u8 (xs.getD j 0 : Nat)))
theorem Bs.byte {w : World} {A : Option Addr} {n : Nat} {xs : List Nat} (h : Bs w A n xs) (j : Nat) : xs.getD j 0 < 256 := by
  rw [List.getD_eq_getElem?_getD]
  cases hx : xs[j]? with
  | none => decide
  | some x => exact h.2.1 x (List.mem_of_getElem? hx)
/-- A register behind bytes. -/
def crcAll (P r : Nat) (xs : List Nat) : Nat := xs.foldl (fun r b => ZPn P 8 (r ^^^ b)) r
/-- .. behind some of the bits. -/
def refState (P r : Nat) (xs : List Nat) (i : Nat) : Nat := ZPn P (i % 8) (crcAll P r (xs.take (i / 8)) ^^^ (xs.getD (i / 8) 0 % 2 ^ (i % 8)))
theorem refState_zero (P r : Nat) (xs : List Nat) : refState P r xs 0 = r := by
  unfold refState
  simp [ZPn, crcAll, Nat.mod_one]
theorem refState_all (P r : Nat) (xs : List Nat) : refState P r xs (8 * xs.length) = crcAll P r xs := by
  unfold refState
  rw [show 8 * xs.length % 8 = 0 from by omega, show 8 * xs.length / 8 = xs.length from by omega, List.take_length, Nat.pow_zero, Nat.mod_one, Nat.xor_zero]
  rfl
theorem refState_step (P r : Nat) (xs : List Nat) (i : Nat) (h : i / 8 < xs.length) (hb : xs.getD (i / 8) 0 < 256) :
    ZP P (refState P r xs i ^^^ (if (xs.getD (i / 8) 0).testBit (i % 8) then 1 else 0)) = refState P r xs (i + 1) := by
  unfold refState
  rw [bit_step]
  by_cases h7 : i % 8 = 7
  · rw [h7, show (i + 1) % 8 = 0 from by omega, show (i + 1) / 8 = i / 8 + 1 from by omega, Nat.pow_zero, Nat.mod_one, Nat.xor_zero, Nat.mod_eq_of_lt (show xs.getD (i / 8) 0 < 2 ^ (7 + 1) from hb)]
    have hx : xs[i / 8]? = some (xs.getD (i / 8) 0) := by rw [List.getElem?_eq_getElem h, List.getD_eq_getElem?_getD, List.getElem?_eq_getElem h]; rfl
    rw [List.take_add_one, hx]
    unfold crcAll
    simp [List.foldl_append, ZPn]
  · rw [show (i + 1) % 8 = i % 8 + 1 from by omega, show (i + 1) / 8 = i / 8 from by omega]

theorem and1_u8 (a : Nat) (ha : a < 256) : bits .and .u8 (a : Int) 1 = ((a % 2 : Nat) : Int) := by
  exact bits_mask .u8 8 (by decide) (fun m a b => by rw [IntKind.wrap_u8]; omega) 1 (by decide) (a : Int) (by omega) (by omega)
theorem bit8_int (a j : Nat) (ha : a < 256) : bits .and .u8 ((a : Int) / 2 ^ j) 1 = (((a.testBit j).toNat : Nat) : Int) := by
  have e : (a : Int) / 2 ^ j = ((a / 2 ^ j : Nat) : Int) := by rw [Int.natCast_ediv, Int.natCast_pow]; rfl
  rw [e, and1_u8 _ (Nat.lt_of_le_of_lt (Nat.div_le_self _ _) ha)]
  congr 1
  rw [Nat.testBit_eq_decide_div_mod_eq]
  rcases Nat.mod_two_eq_zero_or_one (a / 2 ^ j) with h | h <;> simp [h]
theorem refbit_is (w : World) (b i : Nat) (hi : Bool) (hb : b < 256) (h8 : i < 8) :
    Calls Try.prog 34 #[.int .u8 b, .int .i64 i, .bool hi] w fun e w' => e = .returned (.int .u64 ((b.testBit (if hi then 7 - i else i)).toNat : Nat)) ∧ w = w' := by
  have hbit := bit8_int b (if hi then 7 - i else i) hb
  have h7 : (7 : Int) - i = ((7 - i : Nat) : Int) := by omega
  have hr : (b.testBit (if hi then 7 - i else i)).toNat ≤ 1 := Bool.toNat_le _
  generalize hv : (b.testBit (if hi then 7 - i else i)).toNat = v at *
  clear hv
  cases hi
  all_goals
    simp only [if_true, if_false, Bool.false_eq_true] at hbit
    go_enter Try.func34, Try.ntmps34
    go_wp2_with fail
    go_ret
    exact ⟨rfl, rfl⟩
theorem crcAll_lt (P : Nat) (hP : P < 4294967296) (xs : List Nat) (hx : ∀ x ∈ xs, x < 256) : ∀ r, r < 4294967296 → crcAll P r xs < 4294967296 := by
  induction xs with
  | nil => intro r hr; exact hr
  | cons x xs ih =>
    intro r hr
    exact ih (fun y hy => hx y (List.mem_cons_of_mem _ hy)) _ (ZPn_lt P 32 _ hP (Nat.xor_lt_two_pow (n := 32) hr (by have := hx x List.mem_cons_self; omega)) 8)
theorem refState_lt (P r : Nat) (xs : List Nat) (hP : P < 4294967296) (hx : ∀ x ∈ xs, x < 256) (hr : r < 4294967296) (i : Nat) (hb : xs.getD (i / 8) 0 < 256) : refState P r xs i < 4294967296 := by
  refine ZPn_lt P 32 _ hP (Nat.xor_lt_two_pow (n := 32) (crcAll_lt P hP _ (fun y hy => hx y (List.mem_of_mem_take hy)) r hr) ?_) _
  have := Nat.mod_le (xs.getD (i / 8) 0) (2 ^ (i % 8))
  omega

def not32 (x : Nat) : Nat := 4294967295 ^^^ x
theorem not32_lt (x : Nat) (h : x < 4294967296) : not32 x < 4294967296 := Nat.xor_lt_two_pow (n := 32) (by decide) h
theorem not32_int (x : Nat) (h : x < 4294967296) : bits .xor .u32 IntKind.u32.max (x : Int) = ((not32 x : Nat) : Int) := xor_u32 4294967295 x (by decide) h

set_option maxRecDepth 4000 in
set_option maxHeartbeats 1000000 in
theorem refCrc_is (w : World) (a : Nat) (A : Option Addr) (n c : Nat) (xs : List Nat) (ha : a < 4294967296) (h : Bs w A n xs) (hn : n ≤ 140737488355328) :
    Calls Try.prog 20 #[.int .u32 a, .slice A n c] w fun e w' => e = .returned (.int .u32 (not32 (crcAll 3988292384 (not32 a) xs) : Nat)) ∧ w = w' := by
  have hna := not32_int a ha
  have HR := Lib.hid (not32_lt a ha)
  have HH := Lib.hid h
  have hlen : xs.length = n := h.1
  clear h ha
  generalize not32 a = r0 at *
  go_enter Try.func20, Try.ntmps20
  go_wp2_with fail
  clear hna
  go_loopw [5, 6] (fun vr vi wr => ∃ (i : Nat), i ≤ 8 * n ∧ vi = .int .i64 i ∧ vr = .int .u32 (refState 3988292384 r0 xs i : Nat) ∧ wr = w) (fun _ vi _ => 8 * n - (intOf vi).toNat)
  case atStart => exact ⟨0, by omega, rfl, by rw [refState_zero], rfl⟩
  case round =>
    obtain ⟨i, hi, rfl, rfl, rfl⟩ := hrel
    by_cases hin : i < 8 * n
    · have hq : i / 8 < n := by omega
      have h := HH.out
      obtain ⟨b, o, rfl, hc⟩ := h.2.2 (by omega)
      have hcell := hc (i / 8) hq
      have hb := h.byte (i / 8)
      have hst := refState_step 3988292384 r0 xs i (by omega) hb
      have hlt := refState_lt 3988292384 r0 xs (by decide) h.2.1 HR.out i hb
      generalize hq' : i / 8 = q at *
      generalize xs.getD q 0 = x at *
      generalize hst1 : refState 3988292384 r0 xs (i + 1) = R' at *
      have HS1 := Lib.hid hst1
      generalize refState 3988292384 r0 xs i = R at *
      have e8 : (i : Int) / 8 = (q : Int) := by omega
      have hqn : (q : Int) < n := by omega
      obtain ⟨k, hk⟩ : ∃ k, k = i % 8 := ⟨_, rfl⟩
      rw [← hk] at hst
      have ek : (i : Int) % 8 = (k : Int) := by omega
      have hk8 : k < 8 := by omega
      have hand := and1_u32 R hlt
      have hxor : ∀ y : Nat, y ≤ 1 → bits .xor .u32 ((R % 2 : Nat) : Int) (y : Int) = ((R % 2 ^^^ y : Nat) : Int) := fun y hy => xor_u32 (R % 2) y (by omega) (by omega)
      have hp := xor_u32 (R / 2) 3988292384 (by omega) (by decide)
      have HST := Lib.hid hst
      have hin' : (i : Int) < 8 * n := by omega
      clear hst hq' hst1 hk hc h hlt
      go_wp2_with fail
      refine (refbit_is wr x k false hb hk8).mono ?_
      rintro e w2 ⟨rfl, rfl⟩
      simp only [if_false, Bool.false_eq_true]
      have hy : (x.testBit k).toNat = 0 ∨ (x.testBit k).toNat = 1 := by cases x.testBit k <;> simp
      have hyi : (if x.testBit k then 1 else 0) = (x.testBit k).toNat := by cases x.testBit k <;> rfl
      have hst := HST.out
      rw [hyi, ref_bit _ _ _ hy] at hst
      clear HST hyi
      generalize (x.testBit k).toNat = y at *
      have hxy := hxor y (by omega)
      have hv : (R % 2 ^^^ y) = 0 ∨ (R % 2 ^^^ y) = 1 := by
        rcases hy with rfl | rfl <;> rcases Nat.mod_two_eq_zero_or_one R with h | h <;> rw [h] <;> simp
      have hy1 : y ≤ 1 := by omega
      clear hxor hy
      generalize (R % 2 ^^^ y) = v at *
      have hp' : bits .xor .u32 ((R : Int) / 2) 3988292384 = ((R / 2 ^^^ 3988292384 : Nat) : Int) := hp
      have hxy' : bits .xor .u32 ((R : Int) % 2) (y : Int) = ((v : Nat) : Int) := hxy
      clear hp hxy
      rcases hv with rfl | rfl
      · simp only [Nat.zero_ne_one, if_false] at hst
        have HS := Lib.hid hst
        clear hst
        go_wp2_with fail
        go_roundw
        case rel => exact ⟨i + 1, by omega, by go_num, by rw [HS1.out, ← HS.out]; rfl, by trivial⟩
        case measure => simp [intOf]; omega
      · simp only [if_true] at hst
        have HS := Lib.hid hst
        clear hst
        go_wp2_with fail
        go_roundw
        case rel => exact ⟨i + 1, by omega, by go_num, by rw [HS1.out, ← HS.out], by trivial⟩
        case measure => simp [intOf]; omega
    · obtain rfl : i = 8 * n := by omega
      have h := HH.out
      have hfin : refState 3988292384 r0 xs (8 * n) = crcAll 3988292384 r0 xs := by rw [← hlen]; exact refState_all _ _ _
      have hnx := not32_int (crcAll 3988292384 r0 xs) (crcAll_lt _ (by decide) xs h.2.1 r0 HR.out)
      rw [hfin]
      clear hfin h
      go_wp2_with fail
      go_ret
      exact ⟨rfl, rfl⟩
end Go.Proofs.Ytnjdhkaabpmahaa
