/- The program's high sum. -/
import Derived.Test.YtcackdcjepifpaaHighRef
import Derived.Test.YtcackdcjepifpaaCrcAlong
namespace Go.Proofs.Ytcackdcjepifpaa
open Go.RowKit
set_option linter.unusedVariables false
set_option linter.unusedSimpArgs false

theorem crcHi_step (P r : Nat) (xs : List Nat) (i : Nat) (h : i < xs.length) : crcHi P r (xs.take (i + 1)) = HPn P 8 (crcHi P r (xs.take i) ^^^ xs.getD i 0 * 16777216) := by
  have hx : xs[i]? = some (xs.getD i 0) := by rw [List.getElem?_eq_getElem h, List.getD_eq_getElem?_getD, List.getElem?_eq_getElem h]; rfl
  rw [List.take_add_one, hx]
  simp [crcHi, List.foldl_append]
theorem hp_int (b : Nat) (hb : b < 4294967296) : bits .xor .u32 ((b : Int) * 2 % 4294967296) (79764919 * ((b : Int) / 2147483648)) = ((HP 79764919 b : Nat) : Int) := by
  have e1 : (b : Int) * 2 % 4294967296 = ((b * 2 % 4294967296 : Nat) : Int) := by omega
  have e2 : 79764919 * ((b : Int) / 2147483648) = ((79764919 * (b / 2147483648) : Nat) : Int) := by omega
  rw [e1, e2, xor_u32 _ _ (by omega) (by omega)]
  congr 1
  have h1 : b / 2147483648 = 0 ∨ b / 2147483648 = 1 := by omega
  unfold HP
  rcases h1 with h | h <;> rw [h] <;> simp
set_option maxRecDepth 4000 in
set_option maxHeartbeats 1000000 in
theorem crcHigh_is (w : World) (a : Nat) (A : Option Addr) (n c : Nat) (xs : List Nat) (ha : a < 4294967296) (h : Bs w A n xs) (hn : n ≤ 140737488355328) :
    Calls Try.prog 11 #[.int .u32 a, .slice A n c] w fun e w' => e = .returned (.int .u32 (not32 (crcHi 79764919 (not32 a) xs) : Nat)) ∧ Grow w w' := by
  have hna := not32_int a ha
  have HR := Lib.hid (not32_lt a ha)
  have HH := Lib.hid h
  have hlen : xs.length = n := h.1
  clear h ha
  generalize not32 a = r0 at *
  have HNA := Lib.hid hna
  clear hna
  have hz := (zero_of_info info_tab).1
  go_enter Try.func11, Try.ntmps11
  go_wp2_with fail
  rw [rowv_zero]
  obtain ⟨w1, hw1⟩ : ∃ w1, w1 = w.alloc (.cells (rowv .u32 256 fun _ => 0) 44) := ⟨_, rfl⟩
  have hM : Rw w1 w.heap.size 44 .u32 256 (fun _ => 0) := by subst hw1; exact heap_alloc_new w _
  have hK : Grow w w1 := by subst hw1; exact (Keeps.refl (fun _ => False) _).alloc _
  rw [← hw1]
  clear hw1 hz
  go_loopw [11] (fun vi wr => ∃ (i : Nat), i ≤ 256 ∧ vi = .int .i64 i ∧ Rw wr w.heap.size 44 .u32 256 (fun j => if j < i then HPn 79764919 8 (j * 16777216) else 0) ∧ Grow w wr) (fun vi _ => 256 - (intOf vi).toNat)
  case atStart => exact ⟨0, by omega, rfl, by simpa using hM, hK⟩
  case round =>
    obtain ⟨i, hi, rfl, hM, hK⟩ := hrel
    by_cases h256 : i < 256
    · have h256' : (i : Int) < 256 := by omega
      have hcc := hM.cell i h256
      have hff := blk_frozen hM i
      have HM := Lib.hid hM
      have HK := Lib.hid hK
      clear hM hK
      go_wp2_with fail
      go_loopw [7, 17] (fun vr vj wq => ∃ (j : Nat), j ≤ 8 ∧ vj = .int .i64 j ∧ vr = .int .u32 (HPn 79764919 j (i * 16777216) : Nat) ∧ wq = wr) (fun _ vj _ => 8 - (intOf vj).toNat)
      case atStart => exact ⟨0, by omega, rfl, rfl, rfl⟩
      case round =>
        obtain ⟨j, hj, rfl, rfl, rfl⟩ := hrel
        by_cases h8 : j < 8
        · have hlt : HPn 79764919 j (i * 16777216) < 4294967296 := HPn_lt 79764919 (i * 16777216) (by decide) (by omega) j
          have hst : Hid (HP 79764919 (HPn 79764919 j (i * 16777216)) = HPn 79764919 (j + 1) (i * 16777216)) := rfl
          have hzz := hp_int _ hlt
          generalize HPn 79764919 j (i * 16777216) = R at *
          have hm2 : R / 2147483648 < 2 := by omega
          clear hlt
          go_wp2_with fail
          go_roundw
          case rel => exact ⟨j + 1, by omega, by go_num, by rw [← hst.out], by trivial⟩
          case measure => simp [intOf]; omega
        · obtain rfl : j = 8 := by omega
          go_wp2_with fail
          go_roundw
          case rel =>
            refine ⟨i + 1, by omega, by go_num, Rw.congr (HM.out.put i (HPn 79764919 8 (i * 16777216)) h256) ?_, Keeps.setCell HK.out (p := ⟨w.heap.size, i, none⟩) (fun h => by simp at h) _⟩
            intro j hj
            by_cases h1 : j = i
            · subst h1; rw [if_pos rfl, if_pos (by omega)]
            · rw [if_neg h1]
              by_cases h2 : j < i
              · rw [if_pos h2, if_pos (by omega)]
              · rw [if_neg h2, if_neg (by omega)]
          case measure => simp [intOf]; omega
    · obtain rfl : i = 256 := by omega
      have hT : Rw wr w.heap.size 44 .u32 256 (fun j => HPn 79764919 8 (j * 16777216)) := hM.congr fun j hj => by rw [if_pos hj]
      have HB := Lib.hid ((HH.out).keep hK (fun _ _ h => h))
      have HK := Lib.hid hK
      have hna := HNA.out
      clear hM hK HH
      go_wp2_with fail
      clear hna
      go_loopw [8, 34] (fun vr vi wq => ∃ (i : Nat), i ≤ n ∧ vi = .int .i64 i ∧ vr = .int .u32 (crcHi 79764919 r0 (xs.take i) : Nat) ∧ wq = wr) (fun _ vi _ => n - (intOf vi).toNat)
      case atStart => exact ⟨0, by omega, rfl, rfl, rfl⟩
      case round =>
        obtain ⟨i, hi, rfl, rfl, rfl⟩ := hrel
        by_cases hin : i < n
        · have h := HB.out
          obtain ⟨b, o, rfl, hc⟩ := h.2.2 (by omega)
          have hcell := hc i hin
          have hb := h.byte i
          have hst := crcHi_step 79764919 r0 xs i (by omega)
          have hlt := crcHi_lt 79764919 (by decide) (xs.take i) (fun y hy => h.2.1 y (List.mem_of_mem_take hy)) r0 HR.out
          generalize xs.getD i 0 = x at *
          generalize crcHi 79764919 r0 (xs.take i) = R at *
          rw [byte_step_high _ _ _ hlt hb] at hst
          have hR24 : R / 16777216 < 256 := by omega
          have hv : (R / 16777216 ^^^ x) < 256 := Nat.xor_lt_two_pow (n := 8) hR24 hb
          have hx8 : bits .xor .u8 ((R : Int) / 16777216) (x : Int) = ((R / 16777216 ^^^ x : Nat) : Int) := u8_xor_nat (R / 16777216) x hR24 hb
          generalize (R / 16777216 ^^^ x) = v at *
          have hcv := hT.cell v hv
          have hTl : HPn 79764919 8 (v * 16777216) < 4294967296 := HPn_lt 79764919 (v * 16777216) (by decide) (by omega) 8
          have hx64 : bits .xor .u32 ((R : Int) * 256 % 4294967296) ((HPn 79764919 8 (v * 16777216) : Nat) : Int) = ((R * 256 % 4294967296 ^^^ HPn 79764919 8 (v * 16777216) : Nat) : Int) := xor_u32 (R * 256 % 4294967296) _ (Nat.mod_lt _ (by decide)) hTl
          generalize HPn 79764919 8 (v * 16777216) = y at *
          have HST := Lib.hid hst
          have hin' : (i : Int) < n := by omega
          have hv' : (v : Int) < 256 := by omega
          have hRi : (R : Int) < 4294967296 := by omega
          clear hst hc h hlt hTl hR24
          go_wp2_with fail
          go_roundw
          case rel => (first | exact ⟨i + 1, by omega, by go_num, by rw [HST.out], by trivial⟩ | ((repeat apply Exists.intro); exact ⟨⟨i + 1, by omega, by go_num, by rw [HST.out], by trivial⟩, rfl⟩))
          case measure => simp [intOf]; omega
        · obtain rfl : i = n := by omega
          have h := HB.out
          rw [List.take_of_length_le (by omega)]
          have hnx := not32_int (crcHi 79764919 r0 xs) (crcHi_lt _ (by decide) xs h.2.1 r0 HR.out)
          clear h
          go_wp2_with fail
          go_ret
          exact ⟨rfl, HK.out⟩
end Go.Proofs.Ytcackdcjepifpaa
