/- The program's sum of bytes. -/
import Derived.Test.YtnjdhkaabpmahaaCrcTab
import Derived.Test.YtnjdhkaabpmahaaCrcRef
namespace Go.Proofs.Ytnjdhkaabpmahaa
open Go.RowKit
set_option linter.unusedVariables false
set_option linter.unusedSimpArgs false

theorem crcAll_step (P r : Nat) (xs : List Nat) (i : Nat) (h : i < xs.length) : crcAll P r (xs.take (i + 1)) = ZPn P 8 (crcAll P r (xs.take i) ^^^ xs.getD i 0) := by
  have hx : xs[i]? = some (xs.getD i 0) := by rw [List.getElem?_eq_getElem h, List.getD_eq_getElem?_getD, List.getElem?_eq_getElem h]; rfl
  rw [List.take_add_one, hx]
  simp [crcAll, List.foldl_append]
theorem Bs.keep {S : Nat → Prop} {w w' : World} {A : Option Addr} {n : Nat} {xs : List Nat} (h : Bs w A n xs) (k : Keeps S w w') (hS : ∀ j, j < w.heap.size → ¬ S j) : Bs w' A n xs := by
  refine ⟨h.1, h.2.1, fun hn => ?_⟩
  obtain ⟨b, o, e, hc⟩ := h.2.2 hn
  refine ⟨b, o, e, fun j hj => ?_⟩
  have h1 := hc j hj
  rw [← h1]
  have hb := World.block_lt_of_cell? w _ h1
  exact World.cell?_of_block (k.block _ hb (hS _ hb))

set_option maxRecDepth 4000 in
set_option maxHeartbeats 1000000 in
theorem along_is (w : World) (a : Nat) (A : Option Addr) (n c : Nat) (xs : List Nat) (ha : a < 4294967296) (h : Bs w A n xs) (hn : n ≤ 140737488355328) :
    Calls Try.prog 32 #[.int .u32 a, .slice A n c] w fun e w' => e = .returned (.int .u32 (not32 (crcAll 3988292384 (not32 a) xs) : Nat)) ∧ Grow w w' := by
  have hna := not32_int a ha
  have HR := Lib.hid (not32_lt a ha)
  have HH := Lib.hid h
  have hlen : xs.length = n := h.1
  clear h ha
  generalize not32 a = r0 at *
  go_enter Try.func32, Try.ntmps32
  go_wp2_with fail
  refine (lowTable_is w).mono ?_
  rintro e w1 ⟨rfl, k1⟩
  have hz := (zero_of_info info_tab).1
  have hR0 : Rw (w1.alloc (.cells (Array.replicate 256 (.int .u32 0)) 85)) w1.heap.size 85 .u32 256 (fun _ => 0) := by
    unfold Rw
    rw [← rowv_zero]
    exact heap_alloc_new w1 _
  obtain ⟨w3, hst, hT, hk3⟩ := hR0.over (P := Try.prog) (fun i => ZPn 3988292384 8 i)
  have hK : Grow w w3 := Keeps.trans (Keeps.alloc k1 _) hk3 (fun j hj h => by have := k1.size; omega)
  have hgw : w.heap.size ≤ w1.heap.size := k1.size
  have hB3 := (HH.out).keep hK (fun _ _ h => h)
  clear hk3 hR0 k1 HH
  have HB := Lib.hid hB3
  clear hB3
  go_wp2_with fail
  clear hst hz hna
  go_loopw [6, 13] (fun vr vi wr => ∃ (i : Nat), i ≤ n ∧ vi = .int .i64 i ∧ vr = .int .u32 (crcAll 3988292384 r0 (xs.take i) : Nat) ∧ wr = w3) (fun _ vi _ => n - (intOf vi).toNat)
  case atStart => exact ⟨0, by omega, rfl, rfl, rfl⟩
  case round =>
    obtain ⟨i, hi, rfl, rfl, rfl⟩ := hrel
    by_cases hin : i < n
    · have h := HB.out
      obtain ⟨b, o, rfl, hc⟩ := h.2.2 (by omega)
      have hcell := hc i hin
      have hb := h.byte i
      have hst := crcAll_step 3988292384 r0 xs i (by omega)
      have hlt := crcAll_lt 3988292384 (by decide) (xs.take i) (fun y hy => h.2.1 y (List.mem_of_mem_take hy)) r0 HR.out
      generalize xs.getD i 0 = x at *
      generalize crcAll 3988292384 r0 (xs.take i) = R at *
      rw [byte_step] at hst
      have hv : (R % 256 ^^^ x) < 256 := Nat.xor_lt_two_pow (n := 8) (by omega) hb
      have hx8 : bits .xor .u8 ((R : Int) % 256) (x : Int) = ((R % 256 ^^^ x : Nat) : Int) := by
        have := u8_xor ((R % 256 : Nat) : Int) (x : Int) (by omega) (by omega) (by omega) (by omega)
        rw [Int.toNat_natCast, Int.toNat_natCast] at this
        exact this
      generalize (R % 256 ^^^ x) = v at *
      have hcv := hT.cell v hv
      have hTl : ZPn 3988292384 8 v < 4294967296 := ZPn_lt 3988292384 32 v (by decide) (by omega) 8
      have hx32 : bits .xor .u32 ((R : Int) / 256) ((ZPn 3988292384 8 v : Nat) : Int) = ((R / 256 ^^^ ZPn 3988292384 8 v : Nat) : Int) := xor_u32 (R / 256) _ (by omega) hTl
      generalize ZPn 3988292384 8 v = y at *
      have HST := Lib.hid hst
      have hin' : (i : Int) < n := by omega
      have hv' : (v : Int) < 256 := by omega
      clear hst hc h hlt hTl
      go_wp2_with fail
      go_roundw
      case rel => exact ⟨i + 1, by omega, by go_num, by rw [HST.out], by trivial⟩
      case measure => simp [intOf]; omega
    · obtain rfl : i = n := by omega
      have h := HB.out
      rw [List.take_of_length_le (by omega)]
      have hnx := not32_int (crcAll 3988292384 r0 xs) (crcAll_lt _ (by decide) xs h.2.1 r0 HR.out)
      clear h
      go_wp2_with fail
      go_ret
      exact ⟨rfl, hK⟩
end Go.Proofs.Ytnjdhkaabpmahaa
