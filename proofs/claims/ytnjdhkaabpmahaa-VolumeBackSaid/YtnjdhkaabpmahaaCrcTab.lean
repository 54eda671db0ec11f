/- The table of the sum: 256 registers. -/
import Derived.Test.YtnjdhkaabpmahaaCrcPure
import Derived.Test.YtnjdhkaabpmahaaRow
import Derived.Test.YtnjdhkaabpmahaaJoin
namespace Go.Proofs.Ytnjdhkaabpmahaa
open Go.RowKit
set_option linter.unusedVariables false
set_option linter.unusedSimpArgs false

theorem info_tab : (Try.prog.info? 85).map (fun i => (i.zero, i.size)) = some (some (.agg (Array.replicate 256 (.int .u32 0))), 256) := by kernel_rfl
theorem zp_int (b : Nat) (hb : b < 4294967296) : bits .xor .u32 ((b : Int) / 2) (3988292384 * ((b : Int) % 2)) = ((ZP 3988292384 b : Nat) : Int) := zz_int b hb

set_option maxRecDepth 4000 in
set_option maxHeartbeats 1000000 in
theorem lowTable_is (w : World) :
    Calls Try.prog 44 #[] w fun e w' => e = .returned (.agg (rowv .u32 256 fun i => ZPn 3988292384 8 i)) ∧ Grow w w' := by
  have hz := (zero_of_info info_tab).1
  go_enter Try.func44, Try.ntmps44
  go_wp2_with fail
  rw [rowv_zero]
  obtain ⟨w1, hw1⟩ : ∃ w1, w1 = w.alloc (.cells (rowv .u32 256 fun _ => 0) 85) := ⟨_, rfl⟩
  have hM : Rw w1 w.heap.size 85 .u32 256 (fun _ => 0) := by subst hw1; exact heap_alloc_new w _
  have hK : Grow w w1 := by subst hw1; exact (Keeps.refl (fun _ => False) _).alloc _
  rw [← hw1]
  clear hw1 hz
  go_loopw [3] (fun vi wr => ∃ (i : Nat), i ≤ 256 ∧ vi = .int .i64 i ∧ Rw wr w.heap.size 85 .u32 256 (fun j => if j < i then ZPn 3988292384 8 j else 0) ∧ Grow w wr) (fun vi _ => 256 - (intOf vi).toNat)
  case atStart => exact ⟨0, by omega, rfl, by simpa using hM, hK⟩
  case round =>
    obtain ⟨i, hi, rfl, hM, hK⟩ := hrel
    by_cases h256 : i < 256
    · have h256' : (i : Int) < 256 := by omega
      have hcc := hM.cell i h256
      have hff := blk_frozen hM i
      have HM := Lib.hid hM
      have HK := Lib.hid hK
      clear hM hK
      go_wp2_with fail
      go_loopw [2, 8] (fun vr vj wq => ∃ (j : Nat), j ≤ 8 ∧ vj = .int .i64 j ∧ vr = .int .u32 (ZPn 3988292384 j i : Nat) ∧ wq = wr) (fun _ vj _ => 8 - (intOf vj).toNat)
      case atStart => exact ⟨0, by omega, rfl, rfl, rfl⟩
      case round =>
        obtain ⟨j, hj, rfl, rfl, rfl⟩ := hrel
        by_cases h8 : j < 8
        · have hlt : ZPn 3988292384 j i < 4294967296 := ZPn_lt 3988292384 32 i (by decide) (by omega) j
          have hst : Hid (ZP 3988292384 (ZPn 3988292384 j i) = ZPn 3988292384 (j + 1) i) := rfl
          have h1 := and1_u32 _ hlt
          have hzz := zp_int _ hlt
          generalize ZPn 3988292384 j i = R at *
          have hm2 : R % 2 < 2 := Nat.mod_lt _ (by decide)
          clear hlt
          go_wp2_with fail
          go_roundw
          case rel => exact ⟨j + 1, by omega, by go_num, by rw [← hst.out], by trivial⟩
          case measure => simp [intOf]; omega
        · obtain rfl : j = 8 := by omega
          go_wp2_with fail
          go_roundw
          case rel =>
            refine ⟨i + 1, by omega, by go_num, Rw.congr (HM.out.put i (ZPn 3988292384 8 i) h256) ?_, Keeps.setCell HK.out (p := ⟨w.heap.size, i, none⟩) (fun h => by simp at h) _⟩
            intro j hj
            by_cases h1 : j = i
            · subst h1; rw [if_pos rfl, if_pos (by omega)]
            · rw [if_neg h1]
              by_cases h2 : j < i
              · rw [if_pos h2, if_pos (by omega)]
              · rw [if_neg h2, if_neg (by omega)]
          case measure => simp [intOf]; omega
    · obtain rfl : i = 256 := by omega
      go_upto_region 11 with fail
      have hM1 : Rw wr w.heap.size 85 .u32 256 (fun j => ZPn 3988292384 8 j) := hM.congr fun j hj => by rw [if_pos hj]
      refine wp_region_lit ?_
      refine wpList_load_row rfl _ rfl w.heap.size rfl hM1 Try.underlying85 rfl (zero_of_info info_tab).2 ?_
      refine wpList_store_row rfl _ _ rfl w.heap.size rfl _ rfl hM1 (zero_of_info info_tab).2 ?_
      intro w9 hM9 hK9
      go_wp2_with fail
      refine bodyPost_ret (results_row (s := 0) rfl rfl hM9 Try.underlying85 rfl (zero_of_info info_tab).2) rfl ⟨rfl, Keeps.trans hK hK9 (fun j hj h => by omega)⟩
end Go.Proofs.Ytnjdhkaabpmahaa
