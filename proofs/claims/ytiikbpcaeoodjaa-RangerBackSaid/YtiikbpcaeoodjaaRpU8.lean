/- slices.Repeat of one number (slices.Repeat[[]byte,byte]). -/
import Derived.Test.YtiikbpcaeoodjaaMul
import Derived.Laws.CopyOwn
namespace Go.Proofs.Ytiikbpcaeoodjaa
open Go.RowKit
set_option linter.unusedVariables false
set_option linter.unusedSimpArgs false

theorem Try.info_rpU8 : (Try.prog.info? 5).map (fun i => (i.zero, i.size, i.bytes)) = some (some (.int .u8 0), 1, 1) := by kernel_rfl
set_option maxRecDepth 4000 in
set_option maxHeartbeats 2000000 in
theorem rpU8_is (w : World) (A : Option Addr) (c1 k : Nat) (x : Int) (h : Nums .u8 w A 1 c1 [x]) (hk : 1 * k ≤ 140737488355328) :
    Calls Try.prog 63 #[.slice A 1 c1, .int .i64 k] w fun e w' => e = .returned (.slice (some ⟨w.heap.size, 0, none⟩) k k) ∧ w'.ownsRow w.heap.size 5 1 (.slice (some ⟨w.heap.size, 0, none⟩) k k) k ((List.replicate k x).map (Value.int .u8)) ∧ Grow w w' := by
  have H := Lib.hid h
  have M := Lib.hid (mul_one w k (by omega))
  have hz0 : (Value.int .u8 0).cells = #[Value.int .u8 0] := rfl
  clear h
  go_enter Try.func63, Try.ntmps63
  go_wp2_with fail
  refine M.out.mono ?_
  rintro e w1 ⟨rfl, rfl⟩
  go_wp2_with (at_make; refine wpList_make rfl (.tmp 29) (.tmp 29) 29 5 rfl Try.underlying29 Try.info_rpU8 hz0 k rfl rfl (by omega) (by unfold maxLen; omega) ?_)
  intro w1 ho1 hg1 hz1
  obtain ⟨cl, hcl0, hcsl⟩ : ∃ cl : List Value, w1.heap[w.heap.size]? = some (.cells cl.toArray 5 (0, 0)) ∧ cl.length = k := by
    rcases ho1.2 with ⟨hv, _⟩ | ⟨g, cap, cur, hv, _, hh, _, _, hcs, _⟩
    · cases hv
    · injection hv with hv _ hcap
      injection hv with hv
      injection hv with hv
      subst hv
      exact ⟨cur.toList, by rw [Array.toArray_toList]; exact hh, by simp; omega⟩
  have hb1 : Below w.heap.size w w1 := hg1.below (fun _ _ h => h) (Nat.le_refl _)
  have hNw : Nums .u8 w1 A 1 c1 [x] := H.out.grow hg1
  obtain ⟨ba, oa, hA, hcx⟩ := hNw.at_ (by omega)
  have hcx := hcx 0 (by omega)
  have hsz8 : (Try.prog.info? 5).map (·.size) = some 1 := by kernel_rfl
  subst hA
  have HB1 := Lib.hid hb1
  have HC0 := Lib.hid hcl0
  have HCX0 := Lib.hid hcx
  have HSZ := Lib.hid hsz8
  have HZ1 := Lib.hid hz1
  clear hz0 M ho1 hg1 hz1 hb1 hNw hcl0 hcx hsz8
  by_cases hk0 : k = 0
  · subst hk0
    go_wp2_with (refine wpList_copy_splice rfl (.tmp 31) (.tmp 32) 29 29 rfl 5 Try.underlying29 HSZ.out (some ⟨w.heap.size, 0, none⟩) (some ⟨ba, oa, none⟩) 0 0 1 c1 rfl rfl w.heap.size 0 cl 5 HC0.out [] rfl (fun h => by simp at h) (by simp) (fun v hv => by cases hv) w.heap.size w HB1.out (Nat.le_refl _) ?_; intro w2 hg2 hb2)
    go_loopw [8] (fun vb wr => vb = .int .i64 0 ∧ w2 = wr) (fun _ _ => 0)
    case atStart => exact ⟨rfl, rfl⟩
    case round =>
      obtain ⟨rfl, rfl⟩ := hrel
      go_wp2_with fail
      go_ret
      have hcl : cl = [] := List.eq_nil_of_length_eq_zero hcsl
      exact ⟨rfl, ⟨rfl, .inr ⟨w.heap.size, 0, #[], rfl, Nat.le_refl _, by rw [hg2.out, hcl]; rfl, Nat.le_refl _, Nat.zero_le _, rfl, rfl⟩⟩, Keeps.of_below hb2⟩
  go_wp2_with (refine wpList_copy_splice rfl (.tmp 31) (.tmp 32) 29 29 rfl 5 Try.underlying29 HSZ.out (some ⟨w.heap.size, 0, none⟩) (some ⟨ba, oa, none⟩) k k 1 c1 rfl rfl w.heap.size 0 cl 5 HC0.out [.int .u8 x] (by rw [show Nat.min 1 k = 1 from Nat.min_eq_left (by omega)]; rfl) (fun _ => ⟨rfl, _, rfl, fun j v hj => by
      match j, hj with
      | 0, hj => injection hj with hj; subst hj; exact HCX0.out⟩) (by rw [hcsl]; show 0 + 1 ≤ k; omega) (fun v hv => by rw [List.mem_singleton.1 hv]; rfl) w.heap.size w HB1.out (Nat.le_refl _) ?_; intro w2 hg2 hb2)
  have HCX : Hid (∀ j, j < 1 → (splice cl 0 [Value.int .u8 x])[j]? = some (.int .u8 x)) := fun j hj => by
    obtain rfl : j = 0 := by omega
    simp [splice]
  have hlen : (splice cl 0 [Value.int .u8 x]).length = k := by rw [length_splice cl 0 _ (by rw [hcsl]; show 0 + 1 ≤ k; omega), hcsl]
  generalize splice cl 0 [Value.int .u8 x] = c0 at *
  clear HB1 HC0 HCX0 hcsl H
  go_loopw [8] (fun vb wr => ∃ (b : Nat) (cu : List Value), 1 ≤ b ∧ b ≤ k ∧ vb = .int .i64 b ∧ Hid (wr.heap[w.heap.size]? = some (.cells cu.toArray 5 (0, 0))) ∧ Hid (cu.length = k) ∧ Hid (∀ j, j < b → cu[j]? = some (.int .u8 x)) ∧ Hid (Below w.heap.size w wr)) (fun vb _ => k - (intOf vb).toNat)
  case atStart => exact ⟨1, c0, by omega, by omega, rfl, hg2, hlen, HCX.out, hb2⟩
  case round =>
    obtain ⟨b, cu, hb1, hbk, rfl, HH, hcl, HX, HBl⟩ := hrel
    by_cases hlt : b < k
    · have hy : Hv.Hyp2 Grow Grow (fun _ _ _ => True) := ⟨Keeps.refl _, fun _ _ _ h k => Keeps.trans h k fun _ _ h => h, fun _ _ _ _ _ _ => trivial, Keeps.refl _, fun _ _ _ h k => Keeps.trans h k fun _ _ h => h, fun _ _ h => h⟩
      have HY := Lib.hid hy
      clear hy
      go_wp2_with fail
      refine Hv.wp_region_hav2 Grow Grow (fun _ _ _ => True) HY.out [3, 6] [1007] [(0, [1, 2, 4, 5]), (1, [3]), (1, [6]), (4, [7]), (0, [0, 8, 9])] [(0, 1, [?o1, ?o2, ?o4, ?o5]), (1, 3, [?o3]), (1, 6, [?o6]), (4, 7, [?o7]), (0, 0, [?o0, ?o8, ?o9])] [?o0, ?o1, ?o2, ?o3, ?o4, ?o5, ?o6, ?o7, ?o8, ?o9] (by kernel_rfl) (by kernel_rfl) (by kernel_rfl) ?_
      have HHd : Hid (wr.drew.heap[w.heap.size]? = some (.cells cu.toArray 5 (0, 0))) := HH.out
      have HBd : Hid (Below w.heap.size w wr.drew) := ⟨HBl.out.os, HBl.out.tape, HBl.out.output, HBl.out.size, HBl.out.block⟩
      clear HH HBl
      generalize wr.drew = wd at *
      refine Hv.seg_calm ?_
      go_wp2_with fail
      refine Hv.seg_held (by kernel_rfl) (.slice (some ⟨w.heap.size, b, none⟩) (k - b) (k - b)) (fun w7 hk7 => ?_) ?_
      · go_simp
        omega
      refine Hv.seg_held (by kernel_rfl) (.slice (some ⟨w.heap.size, 0, none⟩) b k) (fun w7 hk7 => ?_) ?_
      · go_simp
      have hmb : Nat.min b (k - b) ≤ b := Nat.min_le_left _ _
      have hmk : Nat.min b (k - b) ≤ k - b := Nat.min_le_right _ _
      have hm1 : 1 ≤ Nat.min b (k - b) := Nat.le_min.2 ⟨hb1, by omega⟩
      obtain ⟨m, hmm⟩ : ∃ m, m = Nat.min b (k - b) := ⟨_, rfl⟩
      have hlm : (List.replicate m (Value.int .u8 x)).length = Nat.min b (k - b) := by rw [List.length_replicate, hmm]
      have hlm2 : (List.replicate m (Value.int .u8 x)).length = m := List.length_replicate
      rw [← hmm] at hmb hmk hm1
      clear hmm
      have hcs : ∀ j v, (List.replicate m (Value.int .u8 x))[j]? = some v → wd.cell? ((⟨w.heap.size, 0, none⟩ : Addr).add j) = some v := fun j v hj => by
        have hjm : j < m := by have := (List.getElem?_eq_some_iff.1 hj).1; simpa using this
        have hv : v = .int .u8 x := by simp [hjm] at hj; exact hj.symm
        subst hv
        rw [show ((⟨w.heap.size, 0, none⟩ : Addr).add j) = ⟨w.heap.size, j, none⟩ by simp [Addr.add_lit], blk_cell HHd.out j]
        simpa using HX.out j (by omega)
      refine Hv.seg_last ?_
      refine wpList_copy_splice rfl (.tmp 41) (.tmp 44) 29 29 rfl 5 Try.underlying29 HSZ.out (some ⟨w.heap.size, b, none⟩) (some ⟨w.heap.size, 0, none⟩) (k - b) (k - b) b k rfl rfl w.heap.size b cu 5 HHd.out (List.replicate m (Value.int .u8 x)) hlm (fun _ => ⟨rfl, _, rfl, hcs⟩) (by rw [hcl.out]; omega) (fun v hv => by rw [(List.mem_replicate.1 hv).2]; rfl) w.heap.size w HBd.out (Nat.le_refl _) ?_
      intro w3 hg3 hb3
      go_wp2_with fail
      refine Hv.seg_calm ?_
      go_wp2_with fail
      refine Hv.seg_end ⟨by kernel_rfl, ?_⟩
      go_wp2_with fail
      go_roundw
      case rel =>
        have hsp := length_splice cu b (List.replicate m (Value.int .u8 x)) (by rw [hcl.out]; omega)
        refine ⟨b + m, _, by omega, by omega, by go_num, hg3.out, by show _ = _; rw [hsp]; exact hcl.out, fun j hj => ?_, hb3⟩
        unfold splice
        by_cases hjb : j < b
        · rw [List.getElem?_append_left (by simp; have := hcl.out; omega), List.getElem?_take, if_pos hjb]
          exact HX.out j hjb
        · rw [List.getElem?_append_right (by simp; have := hcl.out; omega), List.getElem?_append_left (by simp; have := hcl.out; omega), List.getElem?_replicate, if_pos (by simp; have := hcl.out; omega)]
      case measure => simp [intOf]; omega
    · obtain rfl : k = b := by omega
      go_wp2_with fail
      go_ret
      refine ⟨rfl, ⟨by simp, .inr ⟨w.heap.size, k, cu.toArray, rfl, Nat.le_refl _, HH.out, Nat.le_refl _, by unfold maxLen; omega, by simpa using hcl.out, ?_⟩⟩, Keeps.of_below HBl.out⟩
      apply List.ext_getElem?
      intro j
      by_cases hj : j < k
      · rw [List.getElem?_take, if_pos (by omega)]
        simp only [HX.out j hj]
        simp [hj]
      · rw [List.getElem?_eq_none (by simp; omega), List.getElem?_eq_none (by simp; omega)]
end Go.Proofs.Ytiikbpcaeoodjaa
