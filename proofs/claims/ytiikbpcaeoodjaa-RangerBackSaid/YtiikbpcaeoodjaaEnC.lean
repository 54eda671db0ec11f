/- The encoder: settle, and a bit by a chance. -/
import Derived.Test.YtiikbpcaeoodjaaEnS
namespace Go.Proofs.Ytiikbpcaeoodjaa
open Go.RowKit
set_option linter.unusedVariables false
set_option linter.unusedSimpArgs false

/-- How far a width is from the widest. -/
def wid (v : Option Value) : Nat := match v with | some (.int _ n) => 4294967296 - n.toNat | _ => 0
theorem wid_int (k : IntKind) (n : Nat) : wid (some (.int k (n : Nat))) = 4294967296 - n := rfl
/-- What a call on an encoder leaves. -/
def EncTo (w : World) (g gc cc : Nat) (vo : Value) (e : Enc) (w' : World) : Prop :=
  ∃ vo', EncAt w' g gc cc vo' e ∧ Keeps (fun k => k = g ∨ vo.ownBlock = some k) w w' ∧ Moved w vo vo'
/-- .. and its chances. -/
def EncTo2 (w : World) (g gc cc : Nat) (vo : Value) (e : Enc) (w' : World) : Prop :=
  ∃ vo', EncAt w' g gc cc vo' e ∧ Keeps (fun k => k = g ∨ k = gc ∨ vo.ownBlock = some k) w w' ∧ Moved w vo vo'

set_option maxRecDepth 100000 in
set_option maxHeartbeats 4000000 in
theorem settle_is (w : World) (g gc cc : Nat) (vo : Value) (e : Enc) (h : EncAt w g gc cc vo e) (hs : e.low + e.width < 8589934592) (hw : e.width < 4294967296) (ht : 65536 ≤ e.width) (hk : e.kept < 256) (hw1 : 1 ≤ e.waiting) (hb : e.out.length + e.waiting ≤ 99999999999999) :
    Calls Try.prog 47 #[.pointer (some ⟨g, 0, none⟩)] w fun e' w' => e' = .returned (.tuple #[]) ∧ EncTo w g gc cc vo e.settle w' := by
  obtain ⟨ch, low, width, kept, waiting, out⟩ := e
  simp only at hs hw ht hk hw1 hb
  have H := Lib.hid h
  obtain ⟨E, hE⟩ : ∃ E, E = (⟨ch, low, width, kept, waiting, out⟩ : Enc).settle := ⟨_, rfl⟩
  have HE := Lib.hid hE
  rw [← hE]
  clear h hE
  go_enter Try.func47, Try.ntmps47
  go_wp2_with fail
  go_loopw [] (fun wr => ∃ (vo' : Value) (e1 : Enc), Hid (EncAt wr g gc cc vo' e1) ∧ Hid (e1 = ⟨ch, low, width, kept, waiting, out⟩ ∨ (e1 = E ∧ 16777216 ≤ e1.width)) ∧ Hid (Keeps (fun k => k = g ∨ vo.ownBlock = some k) w wr) ∧ Hid (Moved w vo vo')) (fun wr => wid (wr.cell? ⟨g, 3, none⟩))
  case atStart => exact ⟨vo, _, H.out, .inl rfl, Keeps.refl _ _, Moved.refl _ _⟩
  case round =>
    obtain ⟨vo', e1, H1, HD, HK, HM⟩ := hrel
    by_cases hlt : e1.width < 16777216
    · have he1 : e1 = ⟨ch, low, width, kept, waiting, out⟩ := by
        rcases HD.out with h | h
        · exact h
        · have := h.2; omega
      subst he1
      simp only at hlt
      have d3 := blk_cell H1.out.blk 3
      have f3 := blk_frozen H1.out.blk 3
      simp at d3
      have H2 : Hid (EncAt (wr.setCell ⟨g, 3, none⟩ (.int .u32 ((width : Int) * 256))) g gc cc vo' ⟨ch, low, width * 256, kept, waiting, out⟩) :=
        enc_re H1.out ((Keeps.refl (fun k => k = g) wr).setCell (p := ⟨g, 3, none⟩) (fun _ => rfl) (.int .u32 ((width : Int) * 256))) (blk_set H1.out.blk 3 (.int .u32 ((width : Int) * 256))) rfl rfl
      have HEE : Hid (E = (⟨ch, low, width * 256, kept, waiting, out⟩ : Enc).shift) := by
        show _ = _
        rw [HE.out, Enc.settle, if_pos hlt]
      have HC := Lib.hid (shift_is _ g gc cc vo' _ H2.out (by simp only; omega) hk hw1 (by simp only; omega))
      have hlt' : (width : Int) < 16777216 := by omega
      have hdl : decide ((width : Int) < 16777216) = true := by simp only [decide_eq_true_eq]; exact hlt'
      have hw0 : (width : Int) * 256 < 4294967296 := by omega
      have HLT := Lib.hid hlt
      clear hlt hlt'
      go_wp2_with fail
      refine HC.out.mono ?_
      rintro x w2 ⟨rfl, vo2, h2, hk2, hm2⟩
      rw [← HEE.out] at h2
      have HK2 : Hid (Keeps (fun k => k = g ∨ vo.ownBlock = some k) w w2) := Keeps.trans (HK.out.setCell (p := ⟨g, 3, none⟩) (fun _ => .inl rfl) _) hk2 fun i hi h => by
        rcases h with h | h
        · exact .inl h
        · rcases HM.out with h9 | ⟨j, h9, hj⟩
          · rw [h9] at h; exact .inr h
          · rw [h9] at h; injection h with h; omega
      have HM2 : Hid (Moved w vo vo2) := HM.out.trans hm2 (by simpa using HK.out.size)
      have hew : E.width = width * 256 := by rw [HEE.out, Enc.shift_width]
      have hc2 := blk_cell h2.blk 3
      simp at hc2
      have HHC := Lib.hid hc2
      have H3 := Lib.hid h2
      have HEW := Lib.hid hew
      clear h2 hk2 hm2 hew hc2 HC
      go_wp2_with fail
      go_roundw
      case rel => exact ⟨vo2, E, H3.out, .inr ⟨rfl, by have hlt := HLT.out; rw [HEW.out]; omega⟩, HK2.out, HM2.out⟩
      case measure => have hlt := HLT.out; rw [HHC.out, d3, wid_int, wid_int, HEW.out]; omega
    · have he : E = e1 := by
        rcases HD.out with h | h
        · subst h
          rw [HE.out, Enc.settle, if_neg hlt]
        · exact h.1.symm
      subst he
      clear HE HD
      have d3 := blk_cell H1.out.blk 3
      simp at d3
      generalize hgw : E.width = width2 at *
      clear hgw
      have hlt' : ¬ (width2 : Int) < 16777216 := by omega
      have hdl : decide ((width2 : Int) < 16777216) = false := by simp only [decide_eq_false_iff_not]; exact hlt'
      clear hlt hlt'
      go_wp2_with fail
      go_end0
      exact ⟨rfl, vo', H1.out, HK.out, HM.out⟩
theorem enc_aft {w w' : World} {g gc cc : Nat} {vo : Value} {ch ch' : List Nat} {low width kept waiting : Nat} {out : List Nat} (h : EncAt w g gc cc vo ⟨ch, low, width, kept, waiting, out⟩)
    (ho : w'.ownsRow 0 88 1 (.slice (some ⟨gc, 0, none⟩) ch.length cc) ch.length (u16s ch')) (k : Keeps (fun k => k = gc) w w') : EncAt w' g gc cc vo ⟨ch', low, width, kept, waiting, out⟩ := by
  have hl : ch'.length = ch.length := by have := ho.1; rw [u16s_len] at this; omega
  refine ⟨?_, ?_, ?_⟩
  · simp only [hl]
    exact block_keep h.blk k (fun h9 => h.ne_chs h9.symm)
  · simp only [hl]
    exact ho
  · exact owns_keep h.out k (fun i hi h9 => h.ne_both (by rw [hi, h9]))

set_option maxRecDepth 100000 in
set_option maxHeartbeats 4000000 in
theorem chance_is (w : World) (g gc cc : Nat) (vo : Value) (e : Enc) (h : EncAt w g gc cc vo e) (hok : e.Ok) (i bit : Nat) (hi : i < e.ch.length) (hn : e.ch.length ≤ 65536) (hbit : bit ≤ 1) (hb : e.out.length + e.waiting ≤ 99999999999999) :
    Calls Try.prog 40 #[.pointer (some ⟨g, 0, none⟩), .int .i64 i, .int .i64 bit] w fun e' w' => e' = .returned (.tuple #[]) ∧ EncTo2 w g gc cc vo (e.put i bit) w' := by
  obtain ⟨hp1, hp2⟩ := chOk_get hok.ch i hi
  obtain ⟨b1, b2, b3, b4⟩ := Enc.bound_bit e.width (e.ch.getD i 0) hp1 hp2 hok.top hok.width
  have hs := hok.sum
  have hw := hok.width
  have hk := hok.kept
  have hw1 := hok.waiting
  have hN : (((e.width / 2048 : Nat) : Int)) * ((e.ch.getD i 0 : Nat) : Int) = ((e.width / 2048 * e.ch.getD i 0 : Nat) : Int) := by rw [Int.natCast_mul]
  obtain ⟨ch, low, width, kept, waiting, out⟩ := e
  simp only at *
  obtain ⟨p, hp⟩ : ∃ p, p = ch.getD i 0 := ⟨_, rfl⟩
  have HPX : Hid (ch.getD i 0 = p) := hp.symm
  rw [← hp] at hp1 hp2 b1 b2 b3 b4 hN
  obtain ⟨B, hB⟩ : ∃ B, B = width / 2048 * p := ⟨_, rfl⟩
  have HBX : Hid (width / 2048 * p = B) := hB.symm
  rw [← hB] at b1 b2 b3 b4 hN
  obtain ⟨q, hq⟩ : ∃ q, q = width / 2048 := ⟨_, rfl⟩
  have eq1 : (width : Int) / 2048 = (q : Int) := by omega
  rw [← hq] at hN
  have hbi : (B : Int) < 4294967296 := by omega
  have hbw : (B : Int) ≤ width := by omega
  have hlb : (low : Int) + (B : Int) < 8589934592 := by omega
  have hwb : (width : Int) - (B : Int) < 4294967296 := by omega
  have hwb0 : 0 ≤ (width : Int) - (B : Int) := by omega
  have H := Lib.hid h
  obtain ⟨E, hE⟩ : ∃ E, E = (⟨ch, low, width, kept, waiting, out⟩ : Enc).put i bit := ⟨_, rfl⟩
  have HE := Lib.hid hE
  rw [← hE]
  have HOK := Lib.hid hok
  have HF := Lib.hid (And.intro hs (And.intro hw (And.intro b1 (And.intro b2 (And.intro b3 (And.intro b4 (And.intro hn hb)))))))
  clear h hE hp hB hq hok hs hw b1 b2 b3 b4 hn hb
  by_cases hb0 : bit = 0
  · subst hb0
    have HP : Hid (E = (⟨ch.set i (aft p 0), low, B, kept, waiting, out⟩ : Enc).settle) := by
      show _ = _
      rw [HE.out, Enc.put]
      simp only [HPX.out, HBX.out]
      first | rw [if_pos rfl] | rw [if_pos trivial] | rw [if_neg (by omega)] | rw [if_neg (by simp)]
    clear HE
    go_enter Try.func40, Try.ntmps40
    go_wp2_with fail
    refine wp_region_seq (by kernel_rfl) (by kernel_rfl) ?_
    have HEd := Lib.hid H.out.drew
    have HKd : Hid (Grow w w.drew) := (Keeps.refl _ w).drew
    clear H
    generalize w.drew = wd at *
    have d1 := blk_cell HEd.out.blk 1
    have d2 := blk_cell HEd.out.blk 2
    have d3 := blk_cell HEd.out.blk 3
    have f2 := blk_frozen HEd.out.blk 2
    have f3 := blk_frozen HEd.out.blk 3
    have dc := HEd.out.chs.cellAt i (by simp only [u16s_len]; omega)
    simp only at dc
    rw [u16s_get ch i hi, HPX.out] at dc
    simp at d1 d2 d3
    go_wp2_with fail
    refine ⟨by kernel_rfl, ?_⟩
    have HE2 : Hid (EncAt (wd.setCell ⟨g, 3, none⟩ (.int .u32 (B : Nat))) g gc cc vo ⟨ch, low, B, kept, waiting, out⟩) := enc_re HEd.out ((Keeps.refl (fun k => k = g) wd).setCell (p := ⟨g, 3, none⟩) (fun _ => rfl) (.int .u32 (B : Nat))) (blk_set HEd.out.blk 3 (.int .u32 (B : Nat))) rfl rfl
    have HK2 : Hid (Keeps (fun k => k = g) wd (wd.setCell ⟨g, 3, none⟩ (.int .u32 (B : Nat)))) := (Keeps.refl (fun k => k = g) wd).setCell (p := ⟨g, 3, none⟩) (fun _ => rfl) (.int .u32 (B : Nat))
    have h91 := blk_cell HE2.out.blk 1
    simp at h91
    have HA := Lib.hid (after_is (wd.setCell ⟨g, 3, none⟩ (.int .u32 (B : Nat))) gc ch.length cc ch i 0 HE2.out.chs hi (by rw [HPX.out]; exact hp1) (by rw [HPX.out]; exact hp2) (by obtain ⟨hs, hw, b1, b2, b3, b4, hn, hb⟩ := HF.out; omega) (by omega))
    go_wp2_with fail
    refine HA.out.mono ?_
    rintro x w3 ⟨rfl, ho3, hk3⟩
    rw [HPX.out] at ho3
    have HE3 : Hid (EncAt w3 g gc cc vo ⟨ch.set i (aft p 0), low, B, kept, waiting, out⟩) := enc_aft HE2.out ho3 hk3
    have HK3 : Hid (Keeps (fun k => k = g ∨ k = gc ∨ vo.ownBlock = some k) w w3) := Keeps.trans (Keeps.trans (gk HKd.out) HK2.out fun _ _ h => .inl h) hk3 fun _ _ h => .inr (.inl h)
    have HS := Lib.hid (settle_is w3 g gc cc vo _ HE3.out (by obtain ⟨hs, hw, b1, b2, b3, b4, hn, hb⟩ := HF.out; simp only; omega) (by obtain ⟨hs, hw, b1, b2, b3, b4, hn, hb⟩ := HF.out; simp only; omega) (by obtain ⟨hs, hw, b1, b2, b3, b4, hn, hb⟩ := HF.out; simp only; omega) hk hw1 (by obtain ⟨hs, hw, b1, b2, b3, b4, hn, hb⟩ := HF.out; simp only; omega))
    clear ho3 hk3 HA HE2 HK2 HEd HKd
    go_wp2_with fail
    refine HS.out.mono ?_
    rintro x w4 ⟨rfl, vo4, h4, hk4, hm4⟩
    rw [← HP.out] at h4
    have HK4 : Hid (Keeps (fun k => k = g ∨ k = gc ∨ vo.ownBlock = some k) w w4) := Keeps.trans HK3.out hk4 fun _ _ h => h.elim .inl fun h => .inr (.inr h)
    have HM4 : Hid (Moved w vo vo4) := (Moved.refl w vo).trans hm4 HK3.out.size
    have H4 := Lib.hid h4
    clear h4 hk4 hm4 HS
    go_wp2_with fail
    go_end0
    exact ⟨rfl, vo4, H4.out, HK4.out, HM4.out⟩
  · obtain rfl : bit = 1 := by omega
    clear hb0
    have HP : Hid (E = (⟨ch.set i (aft p 1), low + B, width - B, kept, waiting, out⟩ : Enc).settle) := by
      show _ = _
      rw [HE.out, Enc.put]
      simp only [HPX.out, HBX.out]
      first | rw [if_pos rfl] | rw [if_pos trivial] | rw [if_neg (by omega)] | rw [if_neg (by simp)]
    clear HE
    go_enter Try.func40, Try.ntmps40
    go_wp2_with fail
    refine wp_region_seq (by kernel_rfl) (by kernel_rfl) ?_
    have HEd := Lib.hid H.out.drew
    have HKd : Hid (Grow w w.drew) := (Keeps.refl _ w).drew
    clear H
    generalize w.drew = wd at *
    have d1 := blk_cell HEd.out.blk 1
    have d2 := blk_cell HEd.out.blk 2
    have d3 := blk_cell HEd.out.blk 3
    have f2 := blk_frozen HEd.out.blk 2
    have f3 := blk_frozen HEd.out.blk 3
    have dc := HEd.out.chs.cellAt i (by simp only [u16s_len]; omega)
    simp only at dc
    rw [u16s_get ch i hi, HPX.out] at dc
    simp at d1 d2 d3
    go_wp2_with fail
    refine ⟨by kernel_rfl, ?_⟩
    have HE2 : Hid (EncAt ((wd.setCell ⟨g, 2, none⟩ (.int .u64 ((low : Int) + (B : Int)))).setCell ⟨g, 3, none⟩ (.int .u32 ((width : Int) - (B : Int)))) g gc cc vo ⟨ch, low + B, width - B, kept, waiting, out⟩) := enc_re HEd.out (((Keeps.refl (fun k => k = g) wd).setCell (p := ⟨g, 2, none⟩) (fun _ => rfl) (.int .u64 ((low : Int) + (B : Int)))).setCell (p := ⟨g, 3, none⟩) (fun _ => rfl) (.int .u32 ((width : Int) - (B : Int)))) (by obtain ⟨hs, hw, b1, b2, b3, b4, hn, hb⟩ := HF.out; have h9 := blk_set (blk_set HEd.out.blk 2 (.int .u64 ((low : Int) + (B : Int)))) 3 (.int .u32 ((width : Int) - (B : Int))); rw [show ((width : Int) - (B : Int)) = ((width - B : Nat) : Int) by omega, show ((low : Int) + (B : Int)) = ((low + B : Nat) : Int) by omega] at h9 ⊢; exact h9) rfl rfl
    have HK2 : Hid (Keeps (fun k => k = g) wd ((wd.setCell ⟨g, 2, none⟩ (.int .u64 ((low : Int) + (B : Int)))).setCell ⟨g, 3, none⟩ (.int .u32 ((width : Int) - (B : Int))))) := ((Keeps.refl (fun k => k = g) wd).setCell (p := ⟨g, 2, none⟩) (fun _ => rfl) (.int .u64 ((low : Int) + (B : Int)))).setCell (p := ⟨g, 3, none⟩) (fun _ => rfl) (.int .u32 ((width : Int) - (B : Int)))
    have h91 := blk_cell HE2.out.blk 1
    simp at h91
    have HA := Lib.hid (after_is ((wd.setCell ⟨g, 2, none⟩ (.int .u64 ((low : Int) + (B : Int)))).setCell ⟨g, 3, none⟩ (.int .u32 ((width : Int) - (B : Int)))) gc ch.length cc ch i 1 HE2.out.chs hi (by rw [HPX.out]; exact hp1) (by rw [HPX.out]; exact hp2) (by obtain ⟨hs, hw, b1, b2, b3, b4, hn, hb⟩ := HF.out; omega) (by omega))
    go_wp2_with fail
    refine HA.out.mono ?_
    rintro x w3 ⟨rfl, ho3, hk3⟩
    rw [HPX.out] at ho3
    have HE3 : Hid (EncAt w3 g gc cc vo ⟨ch.set i (aft p 1), low + B, width - B, kept, waiting, out⟩) := enc_aft HE2.out ho3 hk3
    have HK3 : Hid (Keeps (fun k => k = g ∨ k = gc ∨ vo.ownBlock = some k) w w3) := Keeps.trans (Keeps.trans (gk HKd.out) HK2.out fun _ _ h => .inl h) hk3 fun _ _ h => .inr (.inl h)
    have HS := Lib.hid (settle_is w3 g gc cc vo _ HE3.out (by obtain ⟨hs, hw, b1, b2, b3, b4, hn, hb⟩ := HF.out; simp only; omega) (by obtain ⟨hs, hw, b1, b2, b3, b4, hn, hb⟩ := HF.out; simp only; omega) (by obtain ⟨hs, hw, b1, b2, b3, b4, hn, hb⟩ := HF.out; simp only; omega) hk hw1 (by obtain ⟨hs, hw, b1, b2, b3, b4, hn, hb⟩ := HF.out; simp only; omega))
    clear ho3 hk3 HA HE2 HK2 HEd HKd
    go_wp2_with fail
    refine HS.out.mono ?_
    rintro x w4 ⟨rfl, vo4, h4, hk4, hm4⟩
    rw [← HP.out] at h4
    have HK4 : Hid (Keeps (fun k => k = g ∨ k = gc ∨ vo.ownBlock = some k) w w4) := Keeps.trans HK3.out hk4 fun _ _ h => h.elim .inl fun h => .inr (.inr h)
    have HM4 : Hid (Moved w vo vo4) := (Moved.refl w vo).trans hm4 HK3.out.size
    have H4 := Lib.hid h4
    clear h4 hk4 hm4 HS
    go_wp2_with fail
    go_end0
    exact ⟨rfl, vo4, H4.out, HK4.out, HM4.out⟩
end Go.Proofs.Ytiikbpcaeoodjaa
