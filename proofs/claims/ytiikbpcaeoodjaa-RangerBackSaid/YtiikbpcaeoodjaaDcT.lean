/- The decoder: Tree and Reverse. -/
import Derived.Test.YtiikbpcaeoodjaaDcW
import Derived.Test.YtiikbpcaeoodjaaSp13
namespace Go.Proofs.Ytiikbpcaeoodjaa
open Go.RowKit
set_option linter.unusedVariables false
set_option linter.unusedSimpArgs false

/-- A number of its bits, the highest first. -/
def valH (l : List Nat) : Nat := l.foldl (fun v x => 2 * v + x) 0
theorem valH_snoc (l : List Nat) (x : Nat) : valH (l ++ [x]) = 2 * valH l + x := by simp [valH, List.foldl_append]
/-- .. the lowest first. -/
def valL : List Nat → Nat
  | [] => 0
  | x :: r => x + 2 * valL r
theorem valL_snoc : ∀ (l : List Nat) (x : Nat), valL (l ++ [x]) = valL l + x * 2 ^ l.length
  | [], x => by simp [valL]
  | y :: r, x => by
    rw [List.cons_append, valL, valL_snoc r x, valL, List.length_cons, Nat.pow_succ]
    rw [show x * (2 ^ r.length * 2) = 2 * (x * 2 ^ r.length) by rw [← Nat.mul_assoc]; omega]
    omega
theorem valH_lt : ∀ (n : Nat) (l : List Nat), l.length = n → (∀ x ∈ l, x ≤ 1) → valH l < 2 ^ n := by
  intro n
  induction n with
  | zero => intro l h _; rw [List.length_eq_zero_iff.1 h]; decide
  | succ n ih =>
    intro l h hx
    rcases List.eq_nil_or_concat l with rfl | ⟨r, x, rfl⟩
    · simp at h
    · rw [List.concat_eq_append] at *
      have h1 := ih r (by simp at h; exact h) (fun y hy => hx y (List.mem_append_left _ hy))
      have h2 := hx x (List.mem_append_right _ (List.mem_singleton_self _))
      rw [valH_snoc, Nat.pow_succ]
      omega
theorem valL_lt : ∀ (l : List Nat), (∀ x ∈ l, x ≤ 1) → valL l < 2 ^ l.length
  | [], _ => by decide
  | x :: r, h => by
    have h1 := valL_lt r (fun y hy => h y (List.mem_cons_of_mem _ hy))
    have h2 := h x (List.mem_cons_self ..)
    rw [valL, List.length_cons, Nat.pow_succ]
    omega
theorem take_snoc (l : List Nat) (i : Nat) (h : i < l.length) : l.take (i + 1) = l.take i ++ [l.getD i 0] := by
  rw [List.take_add_one]
  congr 1
  simp [List.getD_eq_getElem?_getD, h]
theorem or_shl (v x i : Nat) (hv : v < 2 ^ i) (hx : x ≤ 1) (hi : i < 40) : bits .or .i64 (v : Int) ((x : Int) * 2 ^ i) = ((v + x * 2 ^ i : Nat) : Int) := by
  have hp : 2 ^ i ≤ 2 ^ 40 := Nat.pow_le_pow_right (by omega) (by omega)
  have hm : x * 2 ^ i ≤ 2 ^ i := by rcases (show x = 0 ∨ x = 1 by omega) with rfl | rfl <;> omega
  rw [powI, ← Int.natCast_mul, bits_or_i64_nat _ _ (by omega) (by omega)]
  have h := Nat.two_pow_add_eq_or_of_lt (i := i) (b := v) hv x
  rw [show x * 2 ^ i = 2 ^ i * x by rw [Nat.mul_comm], Nat.or_comm, ← h, Nat.add_comm]

set_option maxRecDepth 8000 in
theorem dTree_of (w : World) (g : Nat) (base n : Int) (P : Nat → List Nat → World → Prop)
    (h : Calls Try.prog 60 #[.pointer (some ⟨g, 0, none⟩), .int .i64 base, .int .i64 n] w fun e' w' => ∃ (Al : Option Addr) (cl er : Nat) (l : List Nat), e' = .returned (.tuple #[.slice Al l.length cl, .int .i64 (er : Nat)]) ∧ w'.ownsRow w.heap.size 3 1 (.slice Al l.length cl) l.length ((toI l).map (Value.int .i64)) ∧ l.length ≤ 16 ∧ (∀ x ∈ l, x ≤ 1) ∧ P er l w') :
    Calls Try.prog 34 #[.pointer (some ⟨g, 0, none⟩), .int .i64 base, .int .i64 n] w fun e' w' => ∃ (er : Nat) (l : List Nat), e' = .returned (.tuple #[.int .i64 (valH l : Nat), .int .i64 (er : Nat)]) ∧ P er l w' := by
  have HW := Lib.hid h
  clear h
  go_enter Try.func34, Try.ntmps34
  go_wp2_with fail
  refine HW.out.mono ?_
  rintro x w2 ⟨Al, cl, er, l, rfl, ho, hl, hx, hp⟩
  obtain ⟨N, hN⟩ : ∃ N, N = l.length := ⟨_, rfl⟩
  have HN := Lib.hid hN
  rw [← hN] at ho hl ⊢
  have HO := Lib.hid ho
  have HXS := Lib.hid hx
  have HP := Lib.hid hp
  clear ho hx hp HW hN
  go_wp2_with fail
  go_loopw [10, 22] (fun vv vi wr => ∃ (i : Nat), i ≤ N ∧ vv = .int .i64 (valH (l.take i) : Nat) ∧ vi = .int .i64 i ∧ w2 = wr) (fun _ vi _ => N - (intOf vi).toNat)
  case atStart => exact ⟨0, by omega, rfl, rfl, rfl⟩
  case round =>
    obtain ⟨i, hi, rfl, rfl, rfl⟩ := hrel
    by_cases hin : i < N
    · obtain ⟨b, rfl, hc⟩ := own_at HO.out i hin
      have hg : (toI l).getD i 0 = ((l.getD i 0 : Nat) : Int) := by simp [toI, List.getD_eq_getElem?_getD, show i < l.length by rw [← HN.out]; exact hin]
      rw [hg] at hc
      have hx1 : l.getD i 0 ≤ 1 := HXS.out _ (by simp [List.getD_eq_getElem?_getD, show i < l.length by rw [← HN.out]; exact hin])
      have hvb := valH_lt i (l.take i) (by simp; rw [← HN.out]; omega) (fun y hy => HXS.out y (List.mem_of_mem_take hy))
      have hp16 : 2 ^ i ≤ 2 ^ 16 := Nat.pow_le_pow_right (by omega) (by omega)
      have HS : Hid (valH (l.take (i + 1)) = 2 * valH (l.take i) + l.getD i 0) := by show _ = _; rw [take_snoc l i (by rw [← HN.out]; exact hin), valH_snoc]
      have hvi : (valH (l.take i) : Int) < 1000000 := by omega
      have hor := or_low (valH (l.take i)) (l.getD i 0) hx1 (by omega)
      rw [← HS.out] at hor
      generalize l.getD i 0 = x at *
      generalize valH (l.take i) = v at *
      clear hg hx1 hvb hp16
      go_wp2_with fail
      go_roundw
      case rel => exact ⟨i + 1, by omega, rfl, by go_num, trivial⟩
      case measure => simp [intOf]; omega
    · obtain rfl : N = i := by omega
      have hv : valH (l.take N) = valH l := by rw [HN.out, List.take_length]
      rw [hv]
      clear hv
      go_wp2_with fail
      go_ret2
      exact ⟨er, l, rfl, HP.out⟩
set_option maxRecDepth 8000 in
theorem dRev_of (w : World) (g : Nat) (base n : Int) (P : Nat → List Nat → World → Prop)
    (h : Calls Try.prog 60 #[.pointer (some ⟨g, 0, none⟩), .int .i64 base, .int .i64 n] w fun e' w' => ∃ (Al : Option Addr) (cl er : Nat) (l : List Nat), e' = .returned (.tuple #[.slice Al l.length cl, .int .i64 (er : Nat)]) ∧ w'.ownsRow w.heap.size 3 1 (.slice Al l.length cl) l.length ((toI l).map (Value.int .i64)) ∧ l.length ≤ 16 ∧ (∀ x ∈ l, x ≤ 1) ∧ P er l w') :
    Calls Try.prog 36 #[.pointer (some ⟨g, 0, none⟩), .int .i64 base, .int .i64 n] w fun e' w' => ∃ (er : Nat) (l : List Nat), e' = .returned (.tuple #[.int .i64 (valL l : Nat), .int .i64 (er : Nat)]) ∧ P er l w' := by
  have HW := Lib.hid h
  clear h
  go_enter Try.func36, Try.ntmps36
  go_wp2_with fail
  refine HW.out.mono ?_
  rintro x w2 ⟨Al, cl, er, l, rfl, ho, hl, hx, hp⟩
  obtain ⟨N, hN⟩ : ∃ N, N = l.length := ⟨_, rfl⟩
  have HN := Lib.hid hN
  rw [← hN] at ho hl ⊢
  have HO := Lib.hid ho
  have HXS := Lib.hid hx
  have HP := Lib.hid hp
  clear ho hx hp HW hN
  go_wp2_with fail
  go_loopw [10, 22] (fun vv vi wr => ∃ (i : Nat), i ≤ N ∧ vv = .int .i64 (valL (l.take i) : Nat) ∧ vi = .int .i64 i ∧ w2 = wr) (fun _ vi _ => N - (intOf vi).toNat)
  case atStart => exact ⟨0, by omega, rfl, rfl, rfl⟩
  case round =>
    obtain ⟨i, hi, rfl, rfl, rfl⟩ := hrel
    by_cases hin : i < N
    · obtain ⟨b, rfl, hc⟩ := own_at HO.out i hin
      have hg : (toI l).getD i 0 = ((l.getD i 0 : Nat) : Int) := by simp [toI, List.getD_eq_getElem?_getD, show i < l.length by rw [← HN.out]; exact hin]
      rw [hg] at hc
      have hx1 : l.getD i 0 ≤ 1 := HXS.out _ (by simp [List.getD_eq_getElem?_getD, show i < l.length by rw [← HN.out]; exact hin])
      have hli : (l.take i).length = i := by simp; rw [← HN.out]; omega
      have hvb := valL_lt (l.take i) (fun y hy => HXS.out y (List.mem_of_mem_take hy))
      rw [hli] at hvb
      have HS : Hid (valL (l.take (i + 1)) = valL (l.take i) + l.getD i 0 * 2 ^ i) := by show _ = _; rw [take_snoc l i (by rw [← HN.out]; exact hin), valL_snoc, hli]
      have hor := or_shl (valL (l.take i)) (l.getD i 0) i hvb hx1 (by omega)
      rw [← HS.out] at hor
      have hp16 : 2 ^ i ≤ 2 ^ 16 := Nat.pow_le_pow_right (by omega) (by omega)
      have hm : l.getD i 0 * 2 ^ i ≤ 2 ^ i := by rcases (show l.getD i 0 = 0 ∨ l.getD i 0 = 1 by omega) with h | h <;> rw [h] <;> omega
      have hsw : IntKind.i64.wrap ((l.getD i 0 : Int) * 2 ^ i) = (l.getD i 0 : Int) * 2 ^ i := by
        rw [powI, ← Int.natCast_mul]
        generalize l.getD i 0 * 2 ^ i = z at *
        rw [IntKind.wrap_i64]
        omega
      have hi64 : i < 64 := by omega
      generalize l.getD i 0 = x at *
      generalize valL (l.take i) = v at *
      clear hg hx1 hvb hp16 hm hli
      go_wp2_with fail
      go_roundw
      case rel => exact ⟨i + 1, by omega, rfl, by go_num, trivial⟩
      case measure => simp [intOf]; omega
    · obtain rfl : N = i := by omega
      have hv : valL (l.take N) = valL l := by rw [HN.out, List.take_length]
      rw [hv]
      clear hv
      go_wp2_with fail
      go_ret2
      exact ⟨er, l, rfl, HP.out⟩
end Go.Proofs.Ytiikbpcaeoodjaa
