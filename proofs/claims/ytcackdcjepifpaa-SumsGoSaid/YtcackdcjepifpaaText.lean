/- The program's sum of a text. -/
import Derived.Test.YtcackdcjepifpaaCrcAlong
namespace Go.Proofs.Ytcackdcjepifpaa
open Go.RowKit
set_option linter.unusedVariables false
set_option linter.unusedSimpArgs false

set_option maxRecDepth 4000 in
set_option maxHeartbeats 1000000 in
theorem alongText_is (w : World) (a : Nat) (t : ByteArray) (n : Nat) (xs : List Nat) (ha : a < 4294967296) (h : xs = t.data.toList.map (·.toNat)) (hn : t.size = n) (hn2 : n ≤ 140737488355328) :
    Calls Try.prog 25 #[.int .u32 a, .string t] w fun e w' => e = .returned (.int .u32 (not32 (crcAll 3988292384 (not32 a) xs) : Nat)) ∧ Grow w w' := by
  have hna := not32_int a ha
  have HR := Lib.hid (not32_lt a ha)
  have hlen : xs.length = n := by rw [h, ← hn, List.length_map]; rfl
  have hx256 : Hid (∀ x ∈ xs, x < 256) := fun x hx => by rw [h] at hx; obtain ⟨u, _, rfl⟩ := List.mem_map.1 hx; exact u.toNat_lt
  have HX := Lib.hid h
  clear h ha
  generalize not32 a = r0 at *
  go_enter Try.func25, Try.ntmps25
  go_wp2_with fail
  refine (lowTable_is w).mono ?_
  rintro e w1 ⟨rfl, k1⟩
  have hz := (zero_of_info info_tab).1
  have hR0 : Rw (w1.alloc (.cells (Array.replicate 256 (.int .u32 0)) 44)) w1.heap.size 44 .u32 256 (fun _ => 0) := by
    unfold Rw
    rw [← rowv_zero]
    exact heap_alloc_new w1 _
  obtain ⟨w3, hst, hT, hk3⟩ := hR0.over (P := Try.prog) (fun i => ZPn 3988292384 8 i)
  have hK : Grow w w3 := Keeps.trans (Keeps.alloc k1 _) hk3 (fun j hj h => by have := k1.size; omega)
  have hgw : w.heap.size ≤ w1.heap.size := k1.size
  clear hk3 hR0 k1
  go_wp2_with fail
  clear hst hz hna
  go_loopw [6, 13] (fun vr vi wr => ∃ (i : Nat), i ≤ n ∧ vi = .int .i64 i ∧ vr = .int .u32 (crcAll 3988292384 r0 (xs.take i) : Nat) ∧ wr = w3) (fun _ vi _ => n - (intOf vi).toNat)
  case atStart => exact ⟨0, by omega, rfl, rfl, rfl⟩
  case round =>
    obtain ⟨i, hi, rfl, rfl, rfl⟩ := hrel
    by_cases hin : i < n
    · have hin' : (i : Int) < n := by omega
      have hi' : i < t.size := by omega
      have hb : (t[i]'hi').toNat < 256 := (t[i]'hi').toNat_lt
      have hxg : xs.getD i 0 = (t[i]'hi').toNat := by
        rw [HX.out, List.getD_eq_getElem?_getD, List.getElem?_map, List.getElem?_eq_getElem (by rw [Array.length_toList]; exact hi')]
        rfl
      have hst := crcAll_step 3988292384 r0 xs i (by omega)
      have hlt := crcAll_lt 3988292384 (by decide) (xs.take i) (fun y hy => hx256 y (List.mem_of_mem_take hy)) r0 HR.out
      rw [hxg] at hst
      generalize hxx : (t[i]'hi').toNat = x at *
      generalize crcAll 3988292384 r0 (xs.take i) = R at *
      rw [byte_step] at hst
      have hv : (R % 256 ^^^ x) < 256 := Nat.xor_lt_two_pow (n := 8) (by omega) hb
      have hx8 : bits .xor .u8 ((R : Int) % 256) (x : Int) = ((R % 256 ^^^ x : Nat) : Int) := by
        have := u8_xor ((R % 256 : Nat) : Int) (x : Int) (by omega) (by omega) (by omega) (by omega)
        rw [Int.toNat_natCast, Int.toNat_natCast] at this
        exact this
      generalize (R % 256 ^^^ x) = v at *
      have hcv := hT.cell v hv
      have hTl : ZPn 3988292384 8 v < 4294967296 := ZPn_lt 3988292384 32 v (by decide) (by omega) 8
      have hx32 : bits .xor .u32 ((R : Int) / 256) ((ZPn 3988292384 8 v : Nat) : Int) = ((R / 256 ^^^ ZPn 3988292384 8 v : Nat) : Int) := xor_u32 (R / 256) _ (by omega) hTl
      generalize ZPn 3988292384 8 v = y at *
      have HST := Lib.hid hst
      have hin' : (i : Int) < n := by omega
      have hv' : (v : Int) < 256 := by omega
      clear hst hlt hTl hxg
      go_wp2_with fail
      go_roundw
      case rel => exact ⟨i + 1, by omega, by go_num, by rw [HST.out], by trivial⟩
      case measure => simp [intOf]; omega
    · obtain rfl : i = n := by omega
      rw [List.take_of_length_le (by omega)]
      have hnx := not32_int (crcAll 3988292384 r0 xs) (crcAll_lt _ (by decide) xs hx256 r0 HR.out)
      go_wp2_with fail
      go_ret
      exact ⟨rfl, hK⟩
end Go.Proofs.Ytcackdcjepifpaa
