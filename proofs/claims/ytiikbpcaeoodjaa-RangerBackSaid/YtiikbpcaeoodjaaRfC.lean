/- The document's encoder: settle, a bit by a chance. -/
import Derived.Test.YtiikbpcaeoodjaaRfE
namespace Go.Proofs.Ytiikbpcaeoodjaa
open Go.RowKit
set_option linter.unusedVariables false
set_option linter.unusedSimpArgs false

/-- What a call on the document's encoder leaves. -/
def RefTo (w : World) (g : Nat) (vc vo : Value) (e : Enc) (w' : World) : Prop :=
  ∃ vo', RefAt w' g vc vo' e ∧ Keeps (fun k => k = g ∨ vo.ownBlock = some k) w w' ∧ Moved w vo vo'
/-- .. and its chances. -/
def RefTo2 (w : World) (g : Nat) (vc vo : Value) (e : Enc) (w' : World) : Prop :=
  ∃ vo', RefAt w' g vc vo' e ∧ Keeps (fun k => k = g ∨ vc.ownBlock = some k ∨ vo.ownBlock = some k) w w' ∧ Moved w vo vo'

set_option maxRecDepth 100000 in
set_option maxHeartbeats 4000000 in
theorem refSettle_is (w : World) (g : Nat) (vc vo : Value) (e : Enc) (h : RefAt w g vc vo e) (hs : e.low + e.width < 8589934592) (hw : e.width < 4294967296) (ht : 65536 ≤ e.width) (hk : e.kept < 256) (hw1 : 1 ≤ e.waiting) (hb : e.out.length + e.waiting ≤ 99999999999999) :
    Calls Try.prog 48 #[.pointer (some ⟨g, 0, none⟩)] w fun e' w' => e' = .returned (.tuple #[]) ∧ RefTo w g vc vo e.settle w' := by
  obtain ⟨ch, low, width, kept, waiting, out⟩ := e
  simp only at hs hw ht hk hw1 hb
  have H := Lib.hid h
  obtain ⟨E, hE⟩ : ∃ E, E = (⟨ch, low, width, kept, waiting, out⟩ : Enc).settle := ⟨_, rfl⟩
  have HE := Lib.hid hE
  rw [← hE]
  clear h hE
  go_enter Try.func48, Try.ntmps48
  go_wp2_with fail
  go_loopw [] (fun wr => ∃ (vo' : Value) (e1 : Enc), Hid (RefAt wr g vc vo' e1) ∧ Hid (e1 = ⟨ch, low, width, kept, waiting, out⟩ ∨ (e1 = E ∧ 16777216 ≤ e1.width)) ∧ Hid (Keeps (fun k => k = g ∨ vo.ownBlock = some k) w wr) ∧ Hid (Moved w vo vo')) (fun wr => wid (wr.cell? ⟨g, 2, none⟩))
  case atStart => exact ⟨vo, _, H.out, .inl rfl, Keeps.refl _ _, Moved.refl _ _⟩
  case round =>
    obtain ⟨vo', e1, H1, HD, HK, HM⟩ := hrel
    by_cases hlt : e1.width < 16777216
    · have he1 : e1 = ⟨ch, low, width, kept, waiting, out⟩ := by
        rcases HD.out with h | h
        · exact h
        · have := h.2; omega
      subst he1
      simp only at hlt
      have d3 := blk_cell H1.out.blk 2
      have f3 := blk_frozen H1.out.blk 2
      simp at d3
      have H2 : Hid (RefAt (wr.setCell ⟨g, 2, none⟩ (.int .u64 ((width : Int) * 256))) g vc vo' ⟨ch, low, width * 256, kept, waiting, out⟩) :=
        ref_re H1.out ((Keeps.refl (fun k => k = g) wr).setCell (p := ⟨g, 2, none⟩) (fun _ => rfl) (.int .u64 ((width : Int) * 256))) (blk_set H1.out.blk 2 (.int .u64 ((width : Int) * 256))) rfl rfl
      have HEE : Hid (E = (⟨ch, low, width * 256, kept, waiting, out⟩ : Enc).shift) := by
        show _ = _
        rw [HE.out, Enc.settle, if_pos hlt]
      have HC := Lib.hid (refShift_is _ g vc vo' _ H2.out (by simp only; omega) hk hw1 (by simp only; omega))
      have hlt' : (width : Int) < 16777216 := by omega
      have hdl : decide ((width : Int) < 16777216) = true := by simp only [decide_eq_true_eq]; exact hlt'
      have hw0 : (width : Int) * 256 < 4294967296 := by omega
      have HLT := Lib.hid hlt
      clear hlt hlt'
      go_wp2_with fail
      refine HC.out.mono ?_
      rintro x w2 ⟨rfl, vo2, h2, hk2, hm2⟩
      rw [← HEE.out] at h2
      have HK2 : Hid (Keeps (fun k => k = g ∨ vo.ownBlock = some k) w w2) := Keeps.trans (HK.out.setCell (p := ⟨g, 2, none⟩) (fun _ => .inl rfl) _) hk2 fun i hi h => by
        rcases h with h | h
        · exact .inl h
        · rcases HM.out with h9 | ⟨j, h9, hj⟩
          · rw [h9] at h; exact .inr h
          · rw [h9] at h; injection h with h; omega
      have HM2 : Hid (Moved w vo vo2) := HM.out.trans hm2 (by simpa using HK.out.size)
      have hew : E.width = width * 256 := by rw [HEE.out, Enc.shift_width]
      have hc2 := blk_cell h2.blk 2
      simp at hc2
      have HHC := Lib.hid hc2
      have H3 := Lib.hid h2
      have HEW := Lib.hid hew
      clear h2 hk2 hm2 hew hc2 HC
      go_wp2_with fail
      go_roundw
      case rel => exact ⟨vo2, E, H3.out, .inr ⟨rfl, by have hlt := HLT.out; rw [HEW.out]; omega⟩, HK2.out, HM2.out⟩
      case measure => have hlt := HLT.out; rw [HHC.out, d3, wid_int, wid_int, HEW.out]; omega
    · have he : E = e1 := by
        rcases HD.out with h | h
        · subst h
          rw [HE.out, Enc.settle, if_neg hlt]
        · exact h.1.symm
      subst he
      clear HE HD
      have d3 := blk_cell H1.out.blk 2
      simp at d3
      generalize hgw : E.width = width2 at *
      clear hgw
      have hlt' : ¬ (width2 : Int) < 16777216 := by omega
      have hdl : decide ((width2 : Int) < 16777216) = false := by simp only [decide_eq_false_iff_not]; exact hlt'
      clear hlt hlt'
      go_wp2_with fail
      go_end0
      exact ⟨rfl, vo', H1.out, HK.out, HM.out⟩

theorem i64_set (l : List Nat) (i v : Nat) : ((toI l).map (Value.int .i64)).set i (.int .i64 (v : Nat)) = (toI (l.set i v)).map (Value.int .i64) := by simp [toI, List.map_set]
theorem i64_get (l : List Nat) (i : Nat) (h : i < l.length) : ((toI l).map (Value.int .i64))[i]? = some (.int .i64 (l.getD i 0 : Nat)) := by simp [toI, h, List.getD_eq_getElem?_getD]
theorem i64_len (l : List Nat) : ((toI l).map (Value.int .i64)).length = l.length := by simp [toI]

set_option maxRecDepth 4000 in
theorem refAfter_is (w : World) (p bit : Nat) (hp : p ≤ 2017) (hb : bit ≤ 1) :
    Calls Try.prog 64 #[.int .i64 p, .int .i64 bit] w fun e w' => e = .returned (.int .i64 (aft p bit : Nat)) ∧ w' = w := by
  by_cases h0 : bit = 0
  · subst h0
    go_enter Try.func64, Try.ntmps64
    go_wp2_with fail
    go_ret
    exact ⟨congrArg (fun z => Ending.returned (Value.int .i64 z)) (by simp [aft]; omega), rfl⟩
  · obtain rfl : bit = 1 := by omega
    go_enter Try.func64, Try.ntmps64
    go_wp2_with fail
    go_ret
    exact ⟨congrArg (fun z => Ending.returned (Value.int .i64 z)) (by simp [aft]; omega), rfl⟩
theorem ref_aft {w w' : World} {g gc n cc : Nat} {vo : Value} {ch ch' : List Nat} {low width kept waiting : Nat} {out : List Nat} (h : RefAt w g (.slice (some ⟨gc, 0, none⟩) n cc) vo ⟨ch, low, width, kept, waiting, out⟩)
    (ho : w'.ownsRow 0 3 1 (.slice (some ⟨gc, 0, none⟩) n cc) ch.length ((toI ch').map (Value.int .i64))) (k : Keeps (fun k => k = gc) w w') : RefAt w' g (.slice (some ⟨gc, 0, none⟩) n cc) vo ⟨ch', low, width, kept, waiting, out⟩ := by
  have hl : ch'.length = ch.length := by have := ho.1; rw [i64_len] at this; omega
  have hne : gc ≠ g := fun h9 => h.ne_chs (by rw [h9]; rfl)
  refine ⟨block_keep h.blk k (fun h9 => hne h9.symm), ?_, owns_keep h.out k (fun i hi h9 => h.ne_both i (by rw [h9]; rfl) hi)⟩
  simp only [hl]
  exact ho

set_option maxRecDepth 100000 in
set_option maxHeartbeats 4000000 in
theorem refPut_is (w : World) (g : Nat) (vc vo : Value) (e : Enc) (h : RefAt w g vc vo e) (hok : e.Ok) (i bit : Nat) (hi : i < e.ch.length) (hn : e.ch.length ≤ 65536) (hbit : bit ≤ 1) (hb : e.out.length + e.waiting ≤ 99999999999999) :
    Calls Try.prog 46 #[.pointer (some ⟨g, 0, none⟩), .int .i64 i, .int .i64 bit] w fun e' w' => e' = .returned (.tuple #[]) ∧ RefTo2 w g vc vo (e.put i bit) w' := by
  obtain ⟨gc, cc, rfl⟩ : ∃ gc cc, vc = .slice (some ⟨gc, 0, none⟩) e.ch.length cc := by
    rcases h.chs.2 with ⟨hv, hz⟩ | ⟨gc, cap, cur, hv, _⟩
    · exfalso
      omega
    · exact ⟨gc, cap, hv⟩
  obtain ⟨hp1, hp2⟩ := chOk_get hok.ch i hi
  obtain ⟨b1, b2, b3, b4⟩ := Enc.bound_bit e.width (e.ch.getD i 0) hp1 hp2 hok.top hok.width
  have hs := hok.sum
  have hw := hok.width
  have hk := hok.kept
  have hw1 := hok.waiting
  have hN : (((e.width / 2048 : Nat) : Int)) * ((e.ch.getD i 0 : Nat) : Int) = ((e.width / 2048 * e.ch.getD i 0 : Nat) : Int) := by rw [Int.natCast_mul]
  obtain ⟨ch, low, width, kept, waiting, out⟩ := e
  simp only at *
  obtain ⟨p, hp⟩ : ∃ p, p = ch.getD i 0 := ⟨_, rfl⟩
  have HPX : Hid (ch.getD i 0 = p) := hp.symm
  rw [← hp] at hp1 hp2 b1 b2 b3 b4 hN
  obtain ⟨B, hB⟩ : ∃ B, B = width / 2048 * p := ⟨_, rfl⟩
  have HBX : Hid (width / 2048 * p = B) := hB.symm
  rw [← hB] at b1 b2 b3 b4 hN
  obtain ⟨q, hq⟩ : ∃ q, q = width / 2048 := ⟨_, rfl⟩
  have eq1 : (width : Int) / 2048 = (q : Int) := by omega
  rw [← hq] at hN
  have hbi : (B : Int) < 4294967296 := by omega
  have hbw : (B : Int) ≤ width := by omega
  have hlb : (low : Int) + (B : Int) < 8589934592 := by omega
  have hwb : (width : Int) - (B : Int) < 4294967296 := by omega
  have hwb0 : 0 ≤ (width : Int) - (B : Int) := by omega
  have hpi : (p : Int) ≤ 2017 := by omega
  have H := Lib.hid h
  obtain ⟨E, hE⟩ : ∃ E, E = (⟨ch, low, width, kept, waiting, out⟩ : Enc).put i bit := ⟨_, rfl⟩
  have HE := Lib.hid hE
  rw [← hE]
  have HOK := Lib.hid hok
  have HF := Lib.hid (And.intro hs (And.intro hw (And.intro b1 (And.intro b2 (And.intro b3 (And.intro b4 (And.intro hn hb)))))))
  have HP2 := Lib.hid hp2
  clear h hE hp hB hq hok hs hw b1 b2 b3 b4 hn hb hp1 hp2
  by_cases hb0 : bit = 0
  · subst hb0
    have HP : Hid (E = (⟨ch.set i (aft p 0), low, B, kept, waiting, out⟩ : Enc).settle) := by
      show _ = _
      rw [HE.out, Enc.put]
      simp only [HPX.out, HBX.out]
      first | rw [if_pos rfl] | rw [if_pos trivial] | rw [if_neg (by omega)] | rw [if_neg (by simp)]
    clear HE
    go_enter Try.func46, Try.ntmps46
    go_wp2_with fail
    refine wp_region_seq (by kernel_rfl) (by kernel_rfl) ?_
    have HEd := Lib.hid H.out.drew
    have HKd : Hid (Grow w w.drew) := (Keeps.refl _ w).drew
    clear H
    generalize w.drew = wd at *
    have d0 := blk_cell HEd.out.blk 0
    have d1 := blk_cell HEd.out.blk 1
    have d2 := blk_cell HEd.out.blk 2
    have f1 := blk_frozen HEd.out.blk 1
    have f2 := blk_frozen HEd.out.blk 2
    have dc := HEd.out.chs.cellAt i (by simp only [Nat.mul_one]; exact hi)
    simp only at dc
    rw [i64_get ch i hi, HPX.out] at dc
    simp at d0 d1 d2
    go_wp2_with fail
    refine ⟨by kernel_rfl, ?_⟩
    go_wp2_with fail
    have HE2 : Hid (RefAt (wd.setCell ⟨g, 2, none⟩ (.int .u64 (B : Nat))) g (.slice (some ⟨gc, 0, none⟩) ch.length cc) vo ⟨ch, low, B, kept, waiting, out⟩) := ref_re HEd.out ((Keeps.refl (fun k => k = g) wd).setCell (p := ⟨g, 2, none⟩) (fun _ => rfl) (.int .u64 (B : Nat))) (blk_set HEd.out.blk 2 (.int .u64 (B : Nat))) rfl rfl
    have HK2 : Hid (Keeps (fun k => k = g) w (wd.setCell ⟨g, 2, none⟩ (.int .u64 (B : Nat)))) := Keeps.trans (gk HKd.out) ((Keeps.refl (fun k => k = g) wd).setCell (p := ⟨g, 2, none⟩) (fun _ => rfl) (.int .u64 (B : Nat))) fun _ _ h => h
    clear HEd HKd d0 d1 d2 f1 f2 dc
    generalize (wd.setCell ⟨g, 2, none⟩ (.int .u64 (B : Nat))) = w2 at *
    refine Hv.wp_region_hav2 Grow Grow (fun _ _ _ => True) hyG [3, 8, 11, 10, 14] [1015] [(0, [0, 1, 2, 4, 5, 6, 7, 9, 12]), (1, [3]), (1, [8]), (1, [10]), (1, [11]), (2, [13]), (1, [14]), (4, [15])] [(0, 0, [?o0, ?o1, ?o2, ?o4, ?o5, ?o6, ?o7, ?o9, ?o12]), (1, 3, [?o3]), (1, 8, [?o8]), (1, 10, [?o10]), (1, 11, [?o11]), (2, 13, [?o13]), (1, 14, [?o14]), (4, 15, [?o15])] [?o0, ?o1, ?o2, ?o3, ?o4, ?o5, ?o6, ?o7, ?o8, ?o9, ?o10, ?o11, ?o12, ?o13, ?o14, ?o15] (by kernel_rfl) (by kernel_rfl) (by kernel_rfl) ?_
    have HEe := Lib.hid HE2.out.drew
    have HKe : Hid (Keeps (fun k => k = g) w w2.drew) := HK2.out.drew
    clear HE2 HK2
    generalize w2.drew = we at *
    have HC : Hid (∀ w7, Grow we w7 → w7.cell? ⟨g, 0, none⟩ = some (.slice (some ⟨gc, 0, none⟩) ch.length cc) ∧ w7.cell? ⟨gc, i, none⟩ = some (.int .i64 (p : Nat))) := fun w7 h7 => by
      have HE7 := HEe.out.keep h7 (fun h => h) (fun _ _ h => h) (fun _ _ h => h)
      have d0 := blk_cell HE7.blk 0
      have dc := HE7.chs.cellAt i (by simp only [Nat.mul_one]; exact hi)
      simp only at dc
      rw [i64_get ch i hi, HPX.out] at dc
      simp at d0
      exact ⟨d0, dc⟩
    refine Hv.seg_calm ?_
    go_wp2_with fail
    refine Hv.seg_held (by kernel_rfl) (.slice (some ⟨gc, 0, none⟩) ch.length cc) (fun w7 hk7 => ?_) ?_
    · have c7 := (HC.out w7 hk7).1
      go_simp
    refine Hv.seg_held (by kernel_rfl) (.slice (some ⟨gc, 0, none⟩) ch.length cc) (fun w7 hk7 => ?_) ?_
    · have c7 := (HC.out w7 hk7).1
      go_simp
    refine Hv.seg_held (by kernel_rfl) (.pointer (some ⟨gc, i, none⟩)) (fun w7 hk7 => ?_) ?_
    · go_simp
    refine Hv.seg_held (by kernel_rfl) (.int .i64 (p : Nat)) (fun w7 hk7 => ?_) ?_
    · have c7 := (HC.out w7 hk7).2
      go_simp
    refine Hv.seg_call (fun w5 q5 => ?_)
    go_wp2_with fail
    refine (refAfter_is w5 p 0 HP2.out (by omega)).mono ?_
    rintro x w6 ⟨rfl, rfl⟩
    generalize aft p 0 = np at *
    clear hN eq1 hbi hbw hlb hwb hwb0 hpi
    have HE5 := Lib.hid (HEe.out.keep q5 (fun h => h) (fun _ _ h => h) (fun _ _ h => h))
    have HK5 : Hid (Keeps (fun k => k = g) w w6) := Keeps.trans HKe.out (gk q5) fun _ _ h => h
    clear q5 HC HEe HKe
    go_wp2_with fail
    refine ⟨Keeps.refl _ _, ?_⟩
    refine Hv.seg_held (by kernel_rfl) (.pointer (some ⟨gc, i, none⟩)) (fun w7 hk7 => ?_) ?_
    · go_simp
    have hf := HE5.out.chs.frozenAt i
    have hc9 := HE5.out.chs.cellAt i (by simp only [Nat.mul_one]; exact hi)
    simp only at hc9
    rw [i64_get ch i hi, HPX.out] at hc9
    refine Hv.seg_last ?_
    go_wp2_with fail
    refine Hv.seg_end ⟨by kernel_rfl, ?_⟩
    have HE6 : Hid (RefAt (w6.setCell ⟨gc, i, none⟩ (.int .i64 (np : Nat))) g (.slice (some ⟨gc, 0, none⟩) ch.length cc) vo ⟨ch.set i (np), low, B, kept, waiting, out⟩) := ref_aft HE5.out (by have h9 := (HE5.out.chs.stored i (.int .i64 (np : Nat))).1; rw [i64_set] at h9; exact h9) ((Keeps.refl (fun k => k = gc) w6).setCell (p := ⟨gc, i, none⟩) (fun _ => rfl) _)
    have HK6 : Hid (Keeps (fun k => k = g ∨ (Value.slice (some ⟨gc, 0, none⟩) ch.length cc).ownBlock = some k ∨ vo.ownBlock = some k) w (w6.setCell ⟨gc, i, none⟩ (.int .i64 (np : Nat)))) := (HK5.out.mono fun _ _ h => .inl h).setCell (p := ⟨gc, i, none⟩) (fun _ => .inr (.inl rfl)) _
    clear HE5 HK5 hf hc9
    generalize w6.setCell ⟨gc, i, none⟩ (.int .i64 (np : Nat)) = w8 at *
    have HS := Lib.hid (refSettle_is w8 g _ vo _ HE6.out (by obtain ⟨hs, hw, b1, b2, b3, b4, hn, hb⟩ := HF.out; simp only; omega) (by obtain ⟨hs, hw, b1, b2, b3, b4, hn, hb⟩ := HF.out; simp only; omega) (by obtain ⟨hs, hw, b1, b2, b3, b4, hn, hb⟩ := HF.out; simp only; omega) hk hw1 (by obtain ⟨hs, hw, b1, b2, b3, b4, hn, hb⟩ := HF.out; simp only; omega))
    go_wp2_with fail
    refine HS.out.mono ?_
    rintro x w4 ⟨rfl, vo4, h4, hk4, hm4⟩
    rw [← HP.out] at h4
    have HK4 : Hid (Keeps (fun k => k = g ∨ (Value.slice (some ⟨gc, 0, none⟩) ch.length cc).ownBlock = some k ∨ vo.ownBlock = some k) w w4) := Keeps.trans HK6.out hk4 fun _ _ h => h.elim .inl fun h => .inr (.inr h)
    have HM4 : Hid (Moved w vo vo4) := (Moved.refl w vo).trans hm4 HK6.out.size
    have H4 := Lib.hid h4
    clear h4 hk4 hm4 HS
    go_wp2_with fail
    go_end0
    exact ⟨rfl, vo4, H4.out, HK4.out, HM4.out⟩
  · obtain rfl : bit = 1 := by omega
    clear hb0
    have HP : Hid (E = (⟨ch.set i (aft p 1), low + B, width - B, kept, waiting, out⟩ : Enc).settle) := by
      show _ = _
      rw [HE.out, Enc.put]
      simp only [HPX.out, HBX.out]
      first | rw [if_pos rfl] | rw [if_pos trivial] | rw [if_neg (by omega)] | rw [if_neg (by simp)]
    clear HE
    go_enter Try.func46, Try.ntmps46
    go_wp2_with fail
    refine wp_region_seq (by kernel_rfl) (by kernel_rfl) ?_
    have HEd := Lib.hid H.out.drew
    have HKd : Hid (Grow w w.drew) := (Keeps.refl _ w).drew
    clear H
    generalize w.drew = wd at *
    have d0 := blk_cell HEd.out.blk 0
    have d1 := blk_cell HEd.out.blk 1
    have d2 := blk_cell HEd.out.blk 2
    have f1 := blk_frozen HEd.out.blk 1
    have f2 := blk_frozen HEd.out.blk 2
    have dc := HEd.out.chs.cellAt i (by simp only [Nat.mul_one]; exact hi)
    simp only at dc
    rw [i64_get ch i hi, HPX.out] at dc
    simp at d0 d1 d2
    go_wp2_with fail
    refine ⟨by kernel_rfl, ?_⟩
    go_wp2_with fail
    have HE2 : Hid (RefAt ((wd.setCell ⟨g, 1, none⟩ (.int .u64 ((low : Int) + (B : Int)))).setCell ⟨g, 2, none⟩ (.int .u64 ((width : Int) - (B : Int)))) g (.slice (some ⟨gc, 0, none⟩) ch.length cc) vo ⟨ch, low + B, width - B, kept, waiting, out⟩) := ref_re HEd.out (((Keeps.refl (fun k => k = g) wd).setCell (p := ⟨g, 1, none⟩) (fun _ => rfl) (.int .u64 ((low : Int) + (B : Int)))).setCell (p := ⟨g, 2, none⟩) (fun _ => rfl) (.int .u64 ((width : Int) - (B : Int)))) (by obtain ⟨hs, hw, b1, b2, b3, b4, hn, hb⟩ := HF.out; have h9 := blk_set (blk_set HEd.out.blk 1 (.int .u64 ((low : Int) + (B : Int)))) 2 (.int .u64 ((width : Int) - (B : Int))); rw [show ((width : Int) - (B : Int)) = ((width - B : Nat) : Int) by omega, show ((low : Int) + (B : Int)) = ((low + B : Nat) : Int) by omega] at h9 ⊢; exact h9) rfl rfl
    have HK2 : Hid (Keeps (fun k => k = g) w ((wd.setCell ⟨g, 1, none⟩ (.int .u64 ((low : Int) + (B : Int)))).setCell ⟨g, 2, none⟩ (.int .u64 ((width : Int) - (B : Int))))) := Keeps.trans (gk HKd.out) (((Keeps.refl (fun k => k = g) wd).setCell (p := ⟨g, 1, none⟩) (fun _ => rfl) (.int .u64 ((low : Int) + (B : Int)))).setCell (p := ⟨g, 2, none⟩) (fun _ => rfl) (.int .u64 ((width : Int) - (B : Int)))) fun _ _ h => h
    clear HEd HKd d0 d1 d2 f1 f2 dc
    generalize ((wd.setCell ⟨g, 1, none⟩ (.int .u64 ((low : Int) + (B : Int)))).setCell ⟨g, 2, none⟩ (.int .u64 ((width : Int) - (B : Int)))) = w2 at *
    refine Hv.wp_region_hav2 Grow Grow (fun _ _ _ => True) hyG [3, 8, 11, 10, 14] [1015] [(0, [0, 1, 2, 4, 5, 6, 7, 9, 12]), (1, [3]), (1, [8]), (1, [10]), (1, [11]), (2, [13]), (1, [14]), (4, [15])] [(0, 0, [?o0, ?o1, ?o2, ?o4, ?o5, ?o6, ?o7, ?o9, ?o12]), (1, 3, [?o3]), (1, 8, [?o8]), (1, 10, [?o10]), (1, 11, [?o11]), (2, 13, [?o13]), (1, 14, [?o14]), (4, 15, [?o15])] [?o0, ?o1, ?o2, ?o3, ?o4, ?o5, ?o6, ?o7, ?o8, ?o9, ?o10, ?o11, ?o12, ?o13, ?o14, ?o15] (by kernel_rfl) (by kernel_rfl) (by kernel_rfl) ?_
    have HEe := Lib.hid HE2.out.drew
    have HKe : Hid (Keeps (fun k => k = g) w w2.drew) := HK2.out.drew
    clear HE2 HK2
    generalize w2.drew = we at *
    have HC : Hid (∀ w7, Grow we w7 → w7.cell? ⟨g, 0, none⟩ = some (.slice (some ⟨gc, 0, none⟩) ch.length cc) ∧ w7.cell? ⟨gc, i, none⟩ = some (.int .i64 (p : Nat))) := fun w7 h7 => by
      have HE7 := HEe.out.keep h7 (fun h => h) (fun _ _ h => h) (fun _ _ h => h)
      have d0 := blk_cell HE7.blk 0
      have dc := HE7.chs.cellAt i (by simp only [Nat.mul_one]; exact hi)
      simp only at dc
      rw [i64_get ch i hi, HPX.out] at dc
      simp at d0
      exact ⟨d0, dc⟩
    refine Hv.seg_calm ?_
    go_wp2_with fail
    refine Hv.seg_held (by kernel_rfl) (.slice (some ⟨gc, 0, none⟩) ch.length cc) (fun w7 hk7 => ?_) ?_
    · have c7 := (HC.out w7 hk7).1
      go_simp
    refine Hv.seg_held (by kernel_rfl) (.slice (some ⟨gc, 0, none⟩) ch.length cc) (fun w7 hk7 => ?_) ?_
    · have c7 := (HC.out w7 hk7).1
      go_simp
    refine Hv.seg_held (by kernel_rfl) (.pointer (some ⟨gc, i, none⟩)) (fun w7 hk7 => ?_) ?_
    · go_simp
    refine Hv.seg_held (by kernel_rfl) (.int .i64 (p : Nat)) (fun w7 hk7 => ?_) ?_
    · have c7 := (HC.out w7 hk7).2
      go_simp
    refine Hv.seg_call (fun w5 q5 => ?_)
    go_wp2_with fail
    refine (refAfter_is w5 p 1 HP2.out (by omega)).mono ?_
    rintro x w6 ⟨rfl, rfl⟩
    generalize aft p 1 = np at *
    clear hN eq1 hbi hbw hlb hwb hwb0 hpi
    have HE5 := Lib.hid (HEe.out.keep q5 (fun h => h) (fun _ _ h => h) (fun _ _ h => h))
    have HK5 : Hid (Keeps (fun k => k = g) w w6) := Keeps.trans HKe.out (gk q5) fun _ _ h => h
    clear q5 HC HEe HKe
    go_wp2_with fail
    refine ⟨Keeps.refl _ _, ?_⟩
    refine Hv.seg_held (by kernel_rfl) (.pointer (some ⟨gc, i, none⟩)) (fun w7 hk7 => ?_) ?_
    · go_simp
    have hf := HE5.out.chs.frozenAt i
    have hc9 := HE5.out.chs.cellAt i (by simp only [Nat.mul_one]; exact hi)
    simp only at hc9
    rw [i64_get ch i hi, HPX.out] at hc9
    refine Hv.seg_last ?_
    go_wp2_with fail
    refine Hv.seg_end ⟨by kernel_rfl, ?_⟩
    have HE6 : Hid (RefAt (w6.setCell ⟨gc, i, none⟩ (.int .i64 (np : Nat))) g (.slice (some ⟨gc, 0, none⟩) ch.length cc) vo ⟨ch.set i (np), low + B, width - B, kept, waiting, out⟩) := ref_aft HE5.out (by have h9 := (HE5.out.chs.stored i (.int .i64 (np : Nat))).1; rw [i64_set] at h9; exact h9) ((Keeps.refl (fun k => k = gc) w6).setCell (p := ⟨gc, i, none⟩) (fun _ => rfl) _)
    have HK6 : Hid (Keeps (fun k => k = g ∨ (Value.slice (some ⟨gc, 0, none⟩) ch.length cc).ownBlock = some k ∨ vo.ownBlock = some k) w (w6.setCell ⟨gc, i, none⟩ (.int .i64 (np : Nat)))) := (HK5.out.mono fun _ _ h => .inl h).setCell (p := ⟨gc, i, none⟩) (fun _ => .inr (.inl rfl)) _
    clear HE5 HK5 hf hc9
    generalize w6.setCell ⟨gc, i, none⟩ (.int .i64 (np : Nat)) = w8 at *
    have HS := Lib.hid (refSettle_is w8 g _ vo _ HE6.out (by obtain ⟨hs, hw, b1, b2, b3, b4, hn, hb⟩ := HF.out; simp only; omega) (by obtain ⟨hs, hw, b1, b2, b3, b4, hn, hb⟩ := HF.out; simp only; omega) (by obtain ⟨hs, hw, b1, b2, b3, b4, hn, hb⟩ := HF.out; simp only; omega) hk hw1 (by obtain ⟨hs, hw, b1, b2, b3, b4, hn, hb⟩ := HF.out; simp only; omega))
    go_wp2_with fail
    refine HS.out.mono ?_
    rintro x w4 ⟨rfl, vo4, h4, hk4, hm4⟩
    rw [← HP.out] at h4
    have HK4 : Hid (Keeps (fun k => k = g ∨ (Value.slice (some ⟨gc, 0, none⟩) ch.length cc).ownBlock = some k ∨ vo.ownBlock = some k) w w4) := Keeps.trans HK6.out hk4 fun _ _ h => h.elim .inl fun h => .inr (.inr h)
    have HM4 : Hid (Moved w vo vo4) := (Moved.refl w vo).trans hm4 HK6.out.size
    have H4 := Lib.hid h4
    clear h4 hk4 hm4 HS
    go_wp2_with fail
    go_end0
    exact ⟨rfl, vo4, H4.out, HK4.out, HM4.out⟩
end Go.Proofs.Ytiikbpcaeoodjaa
