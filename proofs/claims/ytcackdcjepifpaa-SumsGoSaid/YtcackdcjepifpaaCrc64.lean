/- The program's Crc64. -/
import Derived.Test.YtcackdcjepifpaaCrc64Ref
import Derived.Test.YtcackdcjepifpaaCrcAlong
namespace Go.Proofs.Ytcackdcjepifpaa
open Go.RowKit
set_option linter.unusedVariables false
set_option linter.unusedSimpArgs false

theorem info_tab64 : (Try.prog.info? 45).map (fun i => (i.zero, i.size)) = some (some (.agg (Array.replicate 256 (.int .u64 0))), 256) := by kernel_rfl
theorem ZP_mul (P r : Nat) : r / 2 ^^^ (P * (r % 2)) = ZP P r := by
  unfold ZP
  split
  · rename_i h; rw [h, Nat.mul_one]
  · rename_i h; rw [show r % 2 = 0 from by omega, Nat.mul_zero, Nat.xor_zero]
theorem zp64_int (b : Nat) (hb : b < 18446744073709551616) : bits .xor .u64 ((b : Int) / 2) (14514072000185962306 * ((b : Int) % 2)) = ((ZP 14514072000185962306 b : Nat) : Int) := by
  rw [show (b : Int) % 2 = ((b % 2 : Nat) : Int) from rfl, show (b : Int) / 2 = ((b / 2 : Nat) : Int) from rfl, show (14514072000185962306 : Int) * ((b % 2 : Nat) : Int) = ((14514072000185962306 * (b % 2) : Nat) : Int) from by omega, xor_u64n _ _ (by omega) (by omega), ZP_mul]

set_option maxRecDepth 4000 in
set_option maxHeartbeats 1000000 in
theorem crc64_is (w : World) (a : Nat) (A : Option Addr) (n c : Nat) (xs : List Nat) (ha : a < 18446744073709551616) (h : Bs w A n xs) (hn : n ≤ 140737488355328) :
    Calls Try.prog 12 #[.int .u64 a, .slice A n c] w fun e w' => e = .returned (.int .u64 (not64 (crcAll 14514072000185962306 (not64 a) xs) : Nat)) ∧ Grow w w' := by
  have hna := not64_int a ha
  have HR := Lib.hid (not64_lt a ha)
  have HH := Lib.hid h
  have hlen : xs.length = n := h.1
  clear h ha
  generalize not64 a = r0 at *
  have HNA := Lib.hid hna
  clear hna
  have hz := (zero_of_info info_tab64).1
  go_enter Try.func12, Try.ntmps12
  go_wp2_with fail
  rw [rowv_zero]
  obtain ⟨w1, hw1⟩ : ∃ w1, w1 = w.alloc (.cells (rowv .u64 256 fun _ => 0) 45) := ⟨_, rfl⟩
  have hM : Rw w1 w.heap.size 45 .u64 256 (fun _ => 0) := by subst hw1; exact heap_alloc_new w _
  have hK : Grow w w1 := by subst hw1; exact (Keeps.refl (fun _ => False) _).alloc _
  rw [← hw1]
  clear hw1 hz
  go_loopw [11] (fun vi wr => ∃ (i : Nat), i ≤ 256 ∧ vi = .int .i64 i ∧ Rw wr w.heap.size 45 .u64 256 (fun j => if j < i then ZPn 14514072000185962306 8 j else 0) ∧ Grow w wr) (fun vi _ => 256 - (intOf vi).toNat)
  case atStart => exact ⟨0, by omega, rfl, by simpa using hM, hK⟩
  case round =>
    obtain ⟨i, hi, rfl, hM, hK⟩ := hrel
    by_cases h256 : i < 256
    · have h256' : (i : Int) < 256 := by omega
      have hcc := hM.cell i h256
      have hff := blk_frozen hM i
      have HM := Lib.hid hM
      have HK := Lib.hid hK
      clear hM hK
      go_wp2_with fail
      go_loopw [7, 16] (fun vr vj wq => ∃ (j : Nat), j ≤ 8 ∧ vj = .int .i64 j ∧ vr = .int .u64 (ZPn 14514072000185962306 j i : Nat) ∧ wq = wr) (fun _ vj _ => 8 - (intOf vj).toNat)
      case atStart => exact ⟨0, by omega, rfl, rfl, rfl⟩
      case round =>
        obtain ⟨j, hj, rfl, rfl, rfl⟩ := hrel
        by_cases h8 : j < 8
        · have hlt : ZPn 14514072000185962306 j i < 18446744073709551616 := ZPn_lt 14514072000185962306 64 i (by decide) (by omega) j
          have hst : Hid (ZP 14514072000185962306 (ZPn 14514072000185962306 j i) = ZPn 14514072000185962306 (j + 1) i) := rfl
          have h1 := and1_u64n _ hlt
          have hzz := zp64_int _ hlt
          generalize ZPn 14514072000185962306 j i = R at *
          have hm2 : R % 2 < 2 := Nat.mod_lt _ (by decide)
          clear hlt
          go_wp2_with fail
          go_roundw
          case rel => exact ⟨j + 1, by omega, by go_num, by rw [← hst.out], by trivial⟩
          case measure => simp [intOf]; omega
        · obtain rfl : j = 8 := by omega
          go_wp2_with fail
          go_roundw
          case rel =>
            refine ⟨i + 1, by omega, by go_num, Rw.congr (HM.out.put i (ZPn 14514072000185962306 8 i) h256) ?_, Keeps.setCell HK.out (p := ⟨w.heap.size, i, none⟩) (fun h => by simp at h) _⟩
            intro j hj
            by_cases h1 : j = i
            · subst h1; rw [if_pos rfl, if_pos (by omega)]
            · rw [if_neg h1]
              by_cases h2 : j < i
              · rw [if_pos h2, if_pos (by omega)]
              · rw [if_neg h2, if_neg (by omega)]
          case measure => simp [intOf]; omega
    · obtain rfl : i = 256 := by omega
      have hT : Rw wr w.heap.size 45 .u64 256 (fun j => ZPn 14514072000185962306 8 j) := hM.congr fun j hj => by rw [if_pos hj]
      have HB := Lib.hid ((HH.out).keep hK (fun _ _ h => h))
      have HK := Lib.hid hK
      have hna := HNA.out
      clear hM hK HH
      go_wp2_with fail
      clear hna
      go_loopw [8, 33] (fun vr vi wq => ∃ (i : Nat), i ≤ n ∧ vi = .int .i64 i ∧ vr = .int .u64 (crcAll 14514072000185962306 r0 (xs.take i) : Nat) ∧ wq = wr) (fun _ vi _ => n - (intOf vi).toNat)
      case atStart => exact ⟨0, by omega, rfl, rfl, rfl⟩
      case round =>
        obtain ⟨i, hi, rfl, rfl, rfl⟩ := hrel
        by_cases hin : i < n
        · have h := HB.out
          obtain ⟨b, o, rfl, hc⟩ := h.2.2 (by omega)
          have hcell := hc i hin
          have hb := h.byte i
          have hst := crcAll_step 14514072000185962306 r0 xs i (by omega)
          have hlt := crcAll64_lt 14514072000185962306 (by decide) (xs.take i) (fun y hy => h.2.1 y (List.mem_of_mem_take hy)) r0 HR.out
          generalize xs.getD i 0 = x at *
          generalize crcAll 14514072000185962306 r0 (xs.take i) = R at *
          rw [byte_step] at hst
          have hv : (R % 256 ^^^ x) < 256 := Nat.xor_lt_two_pow (n := 8) (by omega) hb
          have hx8 : bits .xor .u8 ((R : Int) % 256) (x : Int) = ((R % 256 ^^^ x : Nat) : Int) := u8_xor_nat (R % 256) x (by omega) hb
          generalize (R % 256 ^^^ x) = v at *
          have hcv := hT.cell v hv
          have hTl : ZPn 14514072000185962306 8 v < 18446744073709551616 := ZPn_lt 14514072000185962306 64 v (by decide) (by omega) 8
          have hx64 : bits .xor .u64 ((R : Int) / 256) ((ZPn 14514072000185962306 8 v : Nat) : Int) = ((R / 256 ^^^ ZPn 14514072000185962306 8 v : Nat) : Int) := xor_u64n (R / 256) _ (by omega) hTl
          generalize ZPn 14514072000185962306 8 v = y at *
          have HST := Lib.hid hst
          have hin' : (i : Int) < n := by omega
          have hv' : (v : Int) < 256 := by omega
          clear hst hc h hlt hTl
          go_wp2_with fail
          go_roundw
          case rel => (first | exact ⟨i + 1, by omega, by go_num, by rw [HST.out], by trivial⟩ | ((repeat apply Exists.intro); exact ⟨⟨i + 1, by omega, by go_num, by rw [HST.out], by trivial⟩, rfl⟩))
          case measure => simp [intOf]; omega
        · obtain rfl : i = n := by omega
          have h := HB.out
          rw [List.take_of_length_le (by omega)]
          have hnx := not64_int (crcAll 14514072000185962306 r0 xs) (crcAll64_lt _ (by decide) xs h.2.1 r0 HR.out)
          clear h
          go_wp2_with fail
          go_ret
          exact ⟨rfl, HK.out⟩
end Go.Proofs.Ytcackdcjepifpaa
