/- The decoder: a bit by a chance. -/
import Derived.Test.YtiikbpcaeoodjaaDcS
namespace Go.Proofs.Ytiikbpcaeoodjaa
open Go.RowKit
set_option linter.unusedVariables false
set_option linter.unusedSimpArgs false

theorem dec_aft {w w' : World} {g gc cc : Nat} {RB : Nat → Prop} {A : Option Addr} {c : Nat} {d : Dec} {ch' : List Nat} (h : DecAt w g gc cc RB A c d)
    (ho : w'.ownsRow 0 88 1 (.slice (some ⟨gc, 0, none⟩) d.ch.length cc) d.ch.length (u16s ch')) (k : Keeps (fun k => k = gc) w w') : DecAt w' g gc cc RB A c { d with ch := ch' } := by
  have hl : ch'.length = d.ch.length := by have := ho.1; rw [u16s_len] at this; omega
  refine ⟨?_, ?_, h.rst.keep k (fun b o e h9 => h.ngc (h9 ▸ h.rb b o e)), h.rb, h.ng, h.ngc⟩
  · simp only [hl]
    exact block_keep h.blk k (fun h9 => h.ne h9.symm)
  · simp only [hl]
    exact ho

set_option maxRecDepth 100000 in
set_option maxHeartbeats 4000000 in
theorem dChance_is (w : World) (g gc cc : Nat) (RB : Nat → Prop) (A : Option Addr) (c : Nat) (d : Dec) (h : DecAt w g gc cc RB A c d) (hok : d.Ok) (i : Nat) (hi : i < d.ch.length) (hn : d.ch.length ≤ 65536) :
    Calls Try.prog 55 #[.pointer (some ⟨g, 0, none⟩), .int .i64 i] w fun e' w' => e' = .returned (.tuple #[.int .i64 (if (d.get i).over then 0 else d.told i : Nat), .bool (!(d.get i).over)]) ∧ DecTo2 w g gc cc RB (d.get i) w' := by
  by_cases hov : d.over = true
  · have HG : Hid (d.get i = d) := by show _ = _; rw [Dec.get, if_pos hov]
    rw [HG.out, hov]
    have d5 := blk_cell h.blk 5
    simp at d5
    rw [hov] at d5
    have H := Lib.hid h
    clear h hok HG hov
    go_enter Try.func55, Try.ntmps55
    go_wp2_with fail
    go_ret2
    exact ⟨rfl, A, c, H.out, Keeps.refl _ _⟩
  obtain ⟨hp1, hp2⟩ := chOk_get hok.ch i hi
  have hov' : d.over = false := by simpa using hov
  obtain ⟨b1, b2, b3, b4⟩ := Enc.bound_bit d.width (d.ch.getD i 0) hp1 hp2 (hok.top hov') hok.width
  have hw := hok.width
  have hc := hok.code
  have hr := hok.rest
  have hN : (((d.width / 2048 : Nat) : Int)) * ((d.ch.getD i 0 : Nat) : Int) = ((d.width / 2048 * d.ch.getD i 0 : Nat) : Int) := by rw [Int.natCast_mul]
  obtain ⟨ch, width, code, rest, over⟩ := d
  simp only at *
  subst hov'
  clear hov
  obtain ⟨p, hp⟩ : ∃ p, p = ch.getD i 0 := ⟨_, rfl⟩
  have HPX : Hid (ch.getD i 0 = p) := hp.symm
  rw [← hp] at hp1 hp2 b1 b2 b3 b4 hN
  obtain ⟨B, hB⟩ : ∃ B, B = width / 2048 * p := ⟨_, rfl⟩
  have HBX : Hid (width / 2048 * p = B) := hB.symm
  rw [← hB] at b1 b2 b3 b4 hN
  obtain ⟨q, hq⟩ : ∃ q, q = width / 2048 := ⟨_, rfl⟩
  have eq1 : (width : Int) / 2048 = (q : Int) := by omega
  rw [← hq] at hN
  have hbi : (B : Int) < 4294967296 := by omega
  have hbw : (B : Int) ≤ width := by omega
  have hwb : (width : Int) - (B : Int) < 4294967296 := by omega
  have hwb0 : 0 ≤ (width : Int) - (B : Int) := by omega
  have hcm : (code : Int) < 4294967296 := by omega
  have H := Lib.hid h
  have HF := Lib.hid (And.intro hw (And.intro b1 (And.intro b2 (And.intro b3 (And.intro b4 (And.intro hn (And.intro hc hr)))))))
  have HP2 := Lib.hid (And.intro hp1 hp2)
  obtain ⟨E, hE⟩ : ∃ E, E = (⟨ch, width, code, rest, false⟩ : Dec).get i := ⟨_, rfl⟩
  obtain ⟨T, hT⟩ : ∃ T, T = (⟨ch, width, code, rest, false⟩ : Dec).told i := ⟨_, rfl⟩
  have HE := Lib.hid hE
  have HT := Lib.hid hT
  rw [← hE, ← hT]
  obtain ⟨V, hV⟩ : ∃ V : Nat, V = if E.over then 0 else T := ⟨_, rfl⟩
  obtain ⟨OV, hOV⟩ : ∃ OV : Bool, OV = !E.over := ⟨_, rfl⟩
  rw [← hV, ← hOV]
  have HV := Lib.hid hV
  have HOV := Lib.hid hOV
  clear hV hOV h hE hT hp hB hq hok hw b1 b2 b3 b4 hn hc hr
  by_cases hlt : code < B
  · have hcb : decide (code < B) = true := decide_eq_true hlt
    have HS0 : Hid ((⟨ch, B, code, rest, false⟩ : Dec).settle = (⟨ch, width, code, rest, false⟩ : Dec).step p) := by
      show _ = _
      simp only [Dec.step, Dec.halfW, Dec.halfC, HBX.out]
      rw [if_pos (by omega), if_pos (by omega)]
    have HBIT : Hid (Dec.bitOf width code p = 0) := by
      show _ = _
      simp only [Dec.bitOf, HBX.out]
      rw [if_pos (by omega)]
    obtain ⟨S1, hS1⟩ : ∃ S1, S1 = (⟨ch, B, code, rest, false⟩ : Dec).settle := ⟨_, rfl⟩
    have hch1 : S1.ch = ch := by rw [hS1, Dec.settle_ch]
    have HE1 : Hid (E = if S1.over then S1 else { S1 with ch := ch.set i (aft p 0) }) := by
      show _ = _
      rw [HE.out, Dec.get, if_neg (by simp)]
      simp only [HPX.out, HBIT.out, ← HS0.out, ← hS1]
    have HT1 : Hid (T = 0) := by
      show _ = _
      rw [HT.out, Dec.told, if_neg (by simp)]
      simp only [HPX.out, HBIT.out]
    have HSE := Lib.hid hS1
    have HCH := Lib.hid hch1
    clear hS1 hch1 HE HT HS0 HBIT
    go_enter Try.func55, Try.ntmps55
    have d5 := blk_cell H.out.blk 5
    simp at d5
    go_wp2_with fail
    refine wp_region_seq (by kernel_rfl) (by kernel_rfl) ?_
    have HEd := Lib.hid H.out.drew
    have HKd : Hid (Grow w w.drew) := (Keeps.refl _ w).drew
    clear H d5
    generalize w.drew = wd at *
    have d1 := blk_cell HEd.out.blk 1
    have d2 := blk_cell HEd.out.blk 2
    have d3 := blk_cell HEd.out.blk 3
    have f2 := blk_frozen HEd.out.blk 2
    have f3 := blk_frozen HEd.out.blk 3
    have dc := HEd.out.chs.cellAt i (by simp only [u16s_len]; omega)
    simp only at dc
    rw [u16s_get ch i hi, HPX.out] at dc
    simp at d1 d2 d3
    go_wp2_with fail
    refine ⟨by kernel_rfl, ?_⟩
    clear eq1 hN hp1 hp2 hbi hcm hwb0 hbw hwb
    have HE2 : Hid (DecAt (wd.setCell ⟨g, 2, none⟩ (.int .u32 (B : Nat))) g gc cc RB A c ⟨ch, B, code, rest, false⟩) := HEd.out.re (d' := ⟨ch, B, code, rest, false⟩) ((Keeps.refl (fun k => k = g) wd).setCell (p := ⟨g, 2, none⟩) (fun _ => rfl) (.int .u32 (B : Nat))) (blk_set HEd.out.blk 2 (.int .u32 (B : Nat))) rfl rfl
    have hcb0 : Hid True := trivial
    have HK2 : Hid (Keeps (fun k => k = g) w (wd.setCell ⟨g, 2, none⟩ (.int .u32 (B : Nat)))) := Keeps.trans (gk HKd.out) ((Keeps.refl (fun k => k = g) wd).setCell (p := ⟨g, 2, none⟩) (fun _ => rfl) (.int .u32 (B : Nat))) fun _ _ h => h
    have HA := Lib.hid (dSettle_is (wd.setCell ⟨g, 2, none⟩ (.int .u32 (B : Nat))) g gc cc RB A c _ HE2.out rfl (by obtain ⟨hw, b1, b2, b3, b4, hn, hc, hr⟩ := HF.out; simp only; omega) (by obtain ⟨hw, b1, b2, b3, b4, hn, hc, hr⟩ := HF.out; simp only; omega) (by obtain ⟨hw, b1, b2, b3, b4, hn, hc, hr⟩ := HF.out; simp only; omega) HF.out.2.2.2.2.2.2.2)
    rw [← HSE.out] at HA
    go_wp2_with fail
    skip
    clear d1 d2 d3 f2 f3 dc
    refine HA.out.mono ?_
    rintro x w3 ⟨rfl, A3, c3, h3, hk3⟩
    have HE3 := Lib.hid h3
    have HK3 : Hid (Keeps (fun k => k = g) w w3) := Keeps.trans HK2.out hk3 fun _ _ h => h
    clear h3 hk3 HA HE2 HK2 HEd HKd
    cases hso : S1.over
    · have HE1b : Hid (E = { S1 with ch := ch.set i (aft p 0) }) := HE1.out.trans (if_neg (by rw [hso]; exact Bool.false_ne_true))
      clear HE1
      have HE1 := HE1b
      clear HE1b
      have heo : E.over = false := by rw [HE1.out]; exact hso
      have d1 := blk_cell HE3.out.blk 1
      simp at d1
      rw [HCH.out] at d1
      have hcs := HE3.out.chs
      rw [HCH.out] at hcs
      have HAF := Lib.hid (after_is w3 gc ch.length cc ch i 0 hcs hi (by rw [HPX.out]; exact HP2.out.1) (by rw [HPX.out]; exact HP2.out.2) (by obtain ⟨hw, b1, b2, b3, b4, hn, hc, hr⟩ := HF.out; omega) (by omega))
      rw [HPX.out] at HAF
      clear hcs
      go_wp2_with fail
      refine HAF.out.mono ?_
      rintro x w4 ⟨rfl, ho4, hk4⟩
      have HE4 : Hid (DecAt w4 g gc cc RB A3 c3 E) := by
        show DecAt _ _ _ _ _ _ _ _
        rw [HE1.out]
        exact dec_aft HE3.out (by rw [HCH.out]; exact ho4) hk4
      have HK4 : Hid (Keeps (fun k => k = g ∨ k = gc) w w4) := Keeps.trans (HK3.out.mono fun _ _ h => .inl h) hk4 fun _ _ h => .inr h
      clear ho4 hk4 HAF d1
      go_wp2_with fail
      go_ret2
      exact ⟨by rw [HV.out, HOV.out, heo, HT1.out]; rfl, A3, c3, HE4.out, HK4.out⟩
    · have HE1b : Hid (E = S1) := HE1.out.trans (if_pos hso)
      clear HE1
      have HE1 := HE1b
      clear HE1b
      have heo : E.over = true := by rw [HE1.out]; exact hso
      go_wp2_with fail
      go_ret2
      exact ⟨by rw [HV.out, HOV.out, heo]; rfl, A3, c3, by rw [HE1.out]; exact HE3.out, HK3.out.mono fun _ _ h => .inl h⟩
  · have hcb : decide (code < B) = false := decide_eq_false hlt
    have HEM : Hid (((code : Int) - (B : Int)) % 4294967296 = (code : Int) - (B : Int) ∧ ((width : Int) - (B : Int)) % 4294967296 = (width : Int) - (B : Int)) := ⟨by omega, by omega⟩
    have HS0 : Hid ((⟨ch, width - B, code - B, rest, false⟩ : Dec).settle = (⟨ch, width, code, rest, false⟩ : Dec).step p) := by
      show _ = _
      simp only [Dec.step, Dec.halfW, Dec.halfC, HBX.out]
      rw [if_neg (by omega), if_neg (by omega)]
    have HBIT : Hid (Dec.bitOf width code p = 1) := by
      show _ = _
      simp only [Dec.bitOf, HBX.out]
      rw [if_neg (by omega)]
    obtain ⟨S1, hS1⟩ : ∃ S1, S1 = (⟨ch, width - B, code - B, rest, false⟩ : Dec).settle := ⟨_, rfl⟩
    have hch1 : S1.ch = ch := by rw [hS1, Dec.settle_ch]
    have HE1 : Hid (E = if S1.over then S1 else { S1 with ch := ch.set i (aft p 1) }) := by
      show _ = _
      rw [HE.out, Dec.get, if_neg (by simp)]
      simp only [HPX.out, HBIT.out, ← HS0.out, ← hS1]
    have HT1 : Hid (T = 1) := by
      show _ = _
      rw [HT.out, Dec.told, if_neg (by simp)]
      simp only [HPX.out, HBIT.out]
    have HSE := Lib.hid hS1
    have HCH := Lib.hid hch1
    clear hS1 hch1 HE HT HS0 HBIT
    go_enter Try.func55, Try.ntmps55
    have d5 := blk_cell H.out.blk 5
    simp at d5
    go_wp2_with fail
    refine wp_region_seq (by kernel_rfl) (by kernel_rfl) ?_
    have HEd := Lib.hid H.out.drew
    have HKd : Hid (Grow w w.drew) := (Keeps.refl _ w).drew
    clear H d5
    generalize w.drew = wd at *
    have d1 := blk_cell HEd.out.blk 1
    have d2 := blk_cell HEd.out.blk 2
    have d3 := blk_cell HEd.out.blk 3
    have f2 := blk_frozen HEd.out.blk 2
    have f3 := blk_frozen HEd.out.blk 3
    have dc := HEd.out.chs.cellAt i (by simp only [u16s_len]; omega)
    simp only at dc
    rw [u16s_get ch i hi, HPX.out] at dc
    simp at d1 d2 d3
    go_wp2_with fail
    refine ⟨by kernel_rfl, ?_⟩
    clear eq1 hN hp1 hp2 hbi hcm hwb0 hbw hwb
    have HE2 : Hid (DecAt ((wd.setCell ⟨g, 3, none⟩ (.int .u32 ((code : Int) - (B : Int)))).setCell ⟨g, 2, none⟩ (.int .u32 ((width : Int) - (B : Int)))) g gc cc RB A c ⟨ch, width - B, code - B, rest, false⟩) := HEd.out.re (d' := ⟨ch, width - B, code - B, rest, false⟩) (((Keeps.refl (fun k => k = g) wd).setCell (p := ⟨g, 3, none⟩) (fun _ => rfl) (.int .u32 ((code : Int) - (B : Int)))).setCell (p := ⟨g, 2, none⟩) (fun _ => rfl) (.int .u32 ((width : Int) - (B : Int)))) (by obtain ⟨hw, b1, b2, b3, b4, hn, hc, hr⟩ := HF.out; have h9 := blk_set (blk_set HEd.out.blk 3 (.int .u32 ((code : Int) - (B : Int)))) 2 (.int .u32 ((width : Int) - (B : Int))); rw [show ((width : Int) - (B : Int)) = ((width - B : Nat) : Int) by omega, show ((code : Int) - (B : Int)) = ((code - B : Nat) : Int) by omega] at h9 ⊢; exact h9) rfl rfl
    have hcb0 : Hid True := trivial
    have HK2 : Hid (Keeps (fun k => k = g) w ((wd.setCell ⟨g, 3, none⟩ (.int .u32 ((code : Int) - (B : Int)))).setCell ⟨g, 2, none⟩ (.int .u32 ((width : Int) - (B : Int))))) := Keeps.trans (gk HKd.out) (((Keeps.refl (fun k => k = g) wd).setCell (p := ⟨g, 3, none⟩) (fun _ => rfl) (.int .u32 ((code : Int) - (B : Int)))).setCell (p := ⟨g, 2, none⟩) (fun _ => rfl) (.int .u32 ((width : Int) - (B : Int)))) fun _ _ h => h
    have HA := Lib.hid (dSettle_is ((wd.setCell ⟨g, 3, none⟩ (.int .u32 ((code : Int) - (B : Int)))).setCell ⟨g, 2, none⟩ (.int .u32 ((width : Int) - (B : Int)))) g gc cc RB A c _ HE2.out rfl (by obtain ⟨hw, b1, b2, b3, b4, hn, hc, hr⟩ := HF.out; simp only; omega) (by obtain ⟨hw, b1, b2, b3, b4, hn, hc, hr⟩ := HF.out; simp only; omega) (by obtain ⟨hw, b1, b2, b3, b4, hn, hc, hr⟩ := HF.out; simp only; omega) HF.out.2.2.2.2.2.2.2)
    rw [← HSE.out] at HA
    go_wp2_with fail
    simp only [HEM.out.1, HEM.out.2]
    clear d1 d2 d3 f2 f3 dc
    refine HA.out.mono ?_
    rintro x w3 ⟨rfl, A3, c3, h3, hk3⟩
    have HE3 := Lib.hid h3
    have HK3 : Hid (Keeps (fun k => k = g) w w3) := Keeps.trans HK2.out hk3 fun _ _ h => h
    clear h3 hk3 HA HE2 HK2 HEd HKd
    cases hso : S1.over
    · have HE1b : Hid (E = { S1 with ch := ch.set i (aft p 1) }) := HE1.out.trans (if_neg (by rw [hso]; exact Bool.false_ne_true))
      clear HE1
      have HE1 := HE1b
      clear HE1b
      have heo : E.over = false := by rw [HE1.out]; exact hso
      have d1 := blk_cell HE3.out.blk 1
      simp at d1
      rw [HCH.out] at d1
      have hcs := HE3.out.chs
      rw [HCH.out] at hcs
      have HAF := Lib.hid (after_is w3 gc ch.length cc ch i 1 hcs hi (by rw [HPX.out]; exact HP2.out.1) (by rw [HPX.out]; exact HP2.out.2) (by obtain ⟨hw, b1, b2, b3, b4, hn, hc, hr⟩ := HF.out; omega) (by omega))
      rw [HPX.out] at HAF
      clear hcs
      go_wp2_with fail
      refine HAF.out.mono ?_
      rintro x w4 ⟨rfl, ho4, hk4⟩
      have HE4 : Hid (DecAt w4 g gc cc RB A3 c3 E) := by
        show DecAt _ _ _ _ _ _ _ _
        rw [HE1.out]
        exact dec_aft HE3.out (by rw [HCH.out]; exact ho4) hk4
      have HK4 : Hid (Keeps (fun k => k = g ∨ k = gc) w w4) := Keeps.trans (HK3.out.mono fun _ _ h => .inl h) hk4 fun _ _ h => .inr h
      clear ho4 hk4 HAF d1
      go_wp2_with fail
      go_ret2
      exact ⟨by rw [HV.out, HOV.out, heo, HT1.out]; rfl, A3, c3, HE4.out, HK4.out⟩
    · have HE1b : Hid (E = S1) := HE1.out.trans (if_pos hso)
      clear HE1
      have HE1 := HE1b
      clear HE1b
      have heo : E.over = true := by rw [HE1.out]; exact hso
      go_wp2_with fail
      go_ret2
      exact ⟨by rw [HV.out, HOV.out, heo]; rfl, A3, c3, by rw [HE1.out]; exact HE3.out, HK3.out.mono fun _ _ h => .inl h⟩
end Go.Proofs.Ytiikbpcaeoodjaa
