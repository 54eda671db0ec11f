/- bytes.Repeat of one byte: the walk. -/
import Derived.Test.YteccmnjcmmbhlaaRep
import Derived.Test.YteccmnjcmmbhlaaSp10
import Derived.Lib.MakeNoZero
namespace Go.Proofs.Yteccmnjcmmbhlaa
open Go.RowKit
set_option linter.unusedVariables false
set_option linter.unusedSimpArgs false

theorem Try.info_u8x : ∃ i, Try.prog.info? 5 = some i ∧ i.size = 1 := by
  obtain ⟨i, hi, _, h4, _⟩ := info_parts Try.infoU8'
  exact ⟨i, hi, h4⟩

set_option maxRecDepth 4000 in
set_option maxHeartbeats 2000000 in
theorem rep_is (w : World) (A : Option Addr) (c1 k : Nat) (x : Int) (h : Nums .u8 w A 1 c1 [x]) (hk : k ≤ 255) :
    Calls Try.prog 34 #[.slice A 1 c1, .int .i64 k] w fun e w' => ∃ A' c', e = .returned (.slice A' k c') ∧ Src w' 1 A' k c' ((List.replicate k x).map (Value.int .u8)) ∧ Grow w w' := by
  have H := Lib.hid h
  clear h
  by_cases hk0 : k = 0
  · subst hk0
    go_enter Try.func34, Try.ntmps34
    go_wp2_with fail
    go_ret
    exact ⟨_, _, rfl, src_own (own_none w 5) (fun u hu => by cases hu), (Keeps.refl _ _).alloc _⟩
  have M := Lib.hid (mul_is w k (by omega))
  obtain ⟨cs, hrunM, hle, _⟩ := Lib.run_makeNoZero (P := Try.prog) w #[3] 22 5 Try.underlying22 k (by omega)
  have hcall : (callFunc 44 #[.int .i64 (k : Int)]).run Try.prog w = .ok (.value (.slice (some ⟨w.heap.size, 0, none⟩) k cs.size)) ((w.alloc (.cells cs 5)).drewN 2) := by
    rw [run_callFunc_extern Try.func44 (by kernel_rfl) (by kernel_rfl) (by kernel_rfl) (e := Extern.BytealgMakeNoZero.makeNoZero #[3] #[22]) (by kernel_rfl), hrunM]
    rfl
  clear hrunM
  have i0 : (0 : Int) ≤ (k : Int) := by omega
  have i1 : (k : Int) ≤ (cs.size : Int) := by omega
  go_enter Try.func34, Try.ntmps34
  go_wp2_with fail
  refine M.out.mono ?_
  rintro e w1 ⟨rfl, rfl⟩
  have hh0 : ((w.alloc (.cells cs 5)).drewN 2).heap[w.heap.size]? = some (.cells cs.toList.toArray 5 (0, 0)) := by
    rw [Array.toArray_toList]
    exact heap_alloc_new w _
  have hb0 : Below w.heap.size w ((w.alloc (.cells cs 5)).drewN 2) := ⟨rfl, rfl, rfl, by simp, fun k hk => heap_alloc_old w _ hk⟩
  have hNw : Nums .u8 ((w.alloc (.cells cs 5)).drewN 2) A 1 c1 [x] := H.out.grow (((Keeps.refl _ w).alloc _).drewN 2)
  obtain ⟨ba, oa, hA, hcx⟩ := hNw.at_ (by omega)
  have hcx := hcx 0 (by omega)
  have hsz8 : (Try.prog.info? 5).map (·.size) = some 1 := by
    obtain ⟨i8, hi8, hs8⟩ := Try.info_u8x
    rw [hi8]; simp [hs8]
  subst hA
  have hcsl : cs.toList.length = cs.size := by simp
  generalize cs.toList = cl at *
  go_wp2_with (refine wpList_copy_splice rfl (.tmp 58) (.tmp 59) 22 22 rfl 5 Try.underlying22 hsz8 (some ⟨w.heap.size, 0, none⟩) (some ⟨ba, oa, none⟩) k k 1 c1 rfl rfl w.heap.size 0 cl 5 hh0 [.int .u8 x] (by rw [show Nat.min 1 k = 1 from Nat.min_eq_left (by omega)]; rfl) (fun _ => ⟨rfl, _, rfl, fun j v hj => by
      match j, hj with
      | 0, hj => injection hj with hj; subst hj; exact hcx⟩) (by rw [hcsl]; show 0 + 1 ≤ cs.size; omega) (fun v hv => by rw [List.mem_singleton.1 hv]; rfl) w.heap.size w hb0 (Nat.le_refl _) ?_; intro w2 hg2 hb2)
  have HCX : Hid (∀ j, j < 1 → (splice cl 0 [Value.int .u8 x])[j]? = some (.int .u8 x)) := fun j hj => by
    obtain rfl : j = 0 := by omega
    simp [splice]
  have hlen : (splice cl 0 [Value.int .u8 x]).length = cs.size := by rw [length_splice cl 0 _ (by rw [hcsl]; show 0 + 1 ≤ cs.size; omega), hcsl]
  generalize splice cl 0 [Value.int .u8 x] = c0 at *
  have HSZ := Lib.hid hsz8
  clear hh0 hb0 hNw hcx hcall M hsz8
  go_loopw [10, 11] (fun vb _ wr => ∃ (b : Nat) (cu : List Value), 1 ≤ b ∧ b ≤ k ∧ vb = .int .i64 b ∧ Hid (wr.heap[w.heap.size]? = some (.cells cu.toArray 5 (0, 0))) ∧ cu.length = cs.size ∧ Hid (∀ j, j < b → cu[j]? = some (.int .u8 x)) ∧ Hid (Below w.heap.size w wr)) (fun vb _ _ => k - (intOf vb).toNat)
  case atStart => exact ⟨1, c0, by omega, by omega, rfl, hg2, hlen, HCX.out, hb2⟩
  case round =>
    obtain ⟨b, cu, hb1, hbk, rfl, HH, hcl, HX, HBl⟩ := hrel
    by_cases hlt : b < k
    · have hy : Hv.Hyp2 Grow Grow (fun _ _ _ => True) := ⟨Keeps.refl _, fun _ _ _ h k => Keeps.trans h k fun _ _ h => h, fun _ _ _ _ _ _ => trivial, Keeps.refl _, fun _ _ _ h k => Keeps.trans h k fun _ _ h => h, fun _ _ h => h⟩
      have HY := Lib.hid hy
      clear hy
      go_wp2_with fail
      refine Hv.wp_region_hav2 Grow Grow (fun _ _ _ => True) HY.out [3, 6] [1007] [(0, [1, 2, 4, 5]), (1, [3]), (1, [6]), (4, [7]), (0, [0, 8, 9])] [(0, 1, [?o1, ?o2, ?o4, ?o5]), (1, 3, [?o3]), (1, 6, [?o6]), (4, 7, [?o7]), (0, 0, [?o0, ?o8, ?o9])] [?o0, ?o1, ?o2, ?o3, ?o4, ?o5, ?o6, ?o7, ?o8, ?o9] (by kernel_rfl) (by kernel_rfl) (by kernel_rfl) ?_
      have HHd : Hid (wr.drew.heap[w.heap.size]? = some (.cells cu.toArray 5 (0, 0))) := HH.out
      have HBd : Hid (Below w.heap.size w wr.drew) := ⟨HBl.out.os, HBl.out.tape, HBl.out.output, HBl.out.size, HBl.out.block⟩
      clear HH HBl
      generalize wr.drew = wd at *
      refine Hv.seg_calm ?_
      go_wp2_with fail
      refine Hv.seg_held (by kernel_rfl) (.slice (some ⟨w.heap.size, b, none⟩) (k - b) (k - b)) (fun w7 hk7 => ?_) ?_
      · go_simp
        omega
      refine Hv.seg_held (by kernel_rfl) (.slice (some ⟨w.heap.size, 0, none⟩) b k) (fun w7 hk7 => ?_) ?_
      · go_simp
      have hmb : Nat.min b (k - b) ≤ b := Nat.min_le_left _ _
      have hmk : Nat.min b (k - b) ≤ k - b := Nat.min_le_right _ _
      have hm1 : 1 ≤ Nat.min b (k - b) := Nat.le_min.2 ⟨hb1, by omega⟩
      obtain ⟨m, hmm⟩ : ∃ m, m = Nat.min b (k - b) := ⟨_, rfl⟩
      have hlm : (List.replicate m (Value.int .u8 x)).length = Nat.min b (k - b) := by rw [List.length_replicate, hmm]
      have hlm2 : (List.replicate m (Value.int .u8 x)).length = m := List.length_replicate
      rw [← hmm] at hmb hmk hm1
      clear hmm
      have hcs : ∀ j v, (List.replicate m (Value.int .u8 x))[j]? = some v → wd.cell? ((⟨w.heap.size, 0, none⟩ : Addr).add j) = some v := fun j v hj => by
        have hjm : j < m := by have := (List.getElem?_eq_some_iff.1 hj).1; simpa using this
        have hv : v = .int .u8 x := by simp [hjm] at hj; exact hj.symm
        subst hv
        rw [show ((⟨w.heap.size, 0, none⟩ : Addr).add j) = ⟨w.heap.size, j, none⟩ by simp [Addr.add_lit], blk_cell HHd.out j]
        simpa using HX.out j (by omega)
      refine Hv.seg_last ?_
      refine wpList_copy_splice rfl (.tmp 70) (.tmp 73) 22 22 rfl 5 Try.underlying22 HSZ.out (some ⟨w.heap.size, b, none⟩) (some ⟨w.heap.size, 0, none⟩) (k - b) (k - b) b k rfl rfl w.heap.size b cu 5 HHd.out (List.replicate m (Value.int .u8 x)) hlm (fun _ => ⟨rfl, _, rfl, hcs⟩) (by omega) (fun v hv => by rw [(List.mem_replicate.1 hv).2]; rfl) w.heap.size w HBd.out (Nat.le_refl _) ?_
      intro w3 hg3 hb3
      go_wp2_with fail
      refine Hv.seg_calm ?_
      go_wp2_with fail
      refine Hv.seg_end ⟨by kernel_rfl, ?_⟩
      go_wp2_with fail
      go_roundw
      case rel =>
        have hsp := length_splice cu b (List.replicate m (Value.int .u8 x)) (by omega)
        refine ⟨b + m, _, by omega, by omega, by go_num, hg3.out, by rw [hsp]; exact hcl, fun j hj => ?_, hb3⟩
        unfold splice
        by_cases hjb : j < b
        · rw [List.getElem?_append_left (by simp; omega), List.getElem?_take, if_pos hjb]
          exact HX.out j hjb
        · rw [List.getElem?_append_right (by simp; omega), List.getElem?_append_left (by simp; omega), List.getElem?_replicate, if_pos (by simp; omega)]
      case measure => simp [intOf]; omega
    · obtain rfl : k = b := by omega
      go_wp2_with fail
      go_ret
      refine ⟨_, _, rfl, ⟨by simp, (fun h => nomatch h), fun ad e j u hj => ?_, fun u hu => by obtain ⟨y, _, rfl⟩ := List.mem_map.1 hu; rfl⟩, Keeps.of_below HBl.out⟩
      injection e with e
      subst e
      have hjk : j < k := by have := (List.getElem?_eq_some_iff.1 hj).1; simpa using this
      have hu : u = .int .u8 x := by simp [hjk] at hj; exact hj.symm
      subst hu
      rw [show ((⟨w.heap.size, 0, none⟩ : Addr).add j) = ⟨w.heap.size, j, none⟩ by simp [Addr.add_lit], blk_cell HH.out j]
      simpa using HX.out j hjk
end Go.Proofs.Yteccmnjcmmbhlaa
