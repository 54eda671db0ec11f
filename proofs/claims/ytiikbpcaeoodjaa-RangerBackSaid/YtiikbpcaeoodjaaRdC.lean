/- The document's decoder: a bit by a chance. -/
import Derived.Test.YtiikbpcaeoodjaaRdT
namespace Go.Proofs.Ytiikbpcaeoodjaa
open Go.RowKit
set_option linter.unusedVariables false
set_option linter.unusedSimpArgs false

theorem Dec.settle_set (d : Dec) (x : List Nat) : ({ d with ch := x } : Dec).settle = { d.settle with ch := x } := by
  obtain ⟨ch, width, code, rest, over⟩ := d
  unfold Dec.settle
  simp only
  split
  · cases rest <;> rfl
  · rfl
theorem rdec_aft {w w' : World} {g gc n cc m c q : Nat} {BB : Nat → Prop} {A : Option Addr} {xs : List Int} {ch ch' : List Nat} {width code : Nat} {rest : List Nat} {over : Bool} (h : RDecAt w g (.slice (some ⟨gc, 0, none⟩) n cc) BB A m c xs q ⟨ch, width, code, rest, over⟩)
    (ho : w'.ownsRow 0 3 1 (.slice (some ⟨gc, 0, none⟩) n cc) ch.length ((toI ch').map (Value.int .i64))) (k : Keeps (fun k => k = gc) w w') : RDecAt w' g (.slice (some ⟨gc, 0, none⟩) n cc) BB A m c xs q ⟨ch', width, code, rest, over⟩ := by
  have hl : ch'.length = ch.length := by have := ho.1; rw [i64_len] at this; omega
  have hne : gc ≠ g := fun h9 => h.ne_chs (by rw [h9]; rfl)
  refine ⟨block_keep h.blk k (fun h9 => hne h9.symm), ?_, h.bs.keep k (fun b o e h9 => h.nvc gc rfl (h9 ▸ h.rb b o e)), h.len, h.rest, h.rb, h.ng, h.nvc⟩
  simp only [hl]
  exact ho

theorem set_getD_self (l : List Nat) (i : Nat) (h : i < l.length) : l.set i (l.getD i 0) = l := by
  rw [List.getD_eq_getElem?_getD, List.getElem?_eq_getElem h]
  simp
set_option maxRecDepth 100000 in
set_option maxHeartbeats 4000000 in
theorem rGet_over (w : World) (g : Nat) (vc : Value) (BB : Nat → Prop) (A : Option Addr) (m c : Nat) (xs : List Int) (q : Nat) (d : Dec) (h : RDecAt w g vc BB A m c xs q d) (hov : d.over = true) (i : Int) :
    Calls Try.prog 57 #[.pointer (some ⟨g, 0, none⟩), .int .i64 i] w fun e' w' => e' = .returned (.int .i64 0) ∧ w' = w := by
  have d5 := blk_cell h.blk 5
  simp at d5
  rw [hov] at d5
  clear h hov
  go_enter Try.func57, Try.ntmps57
  go_wp2_with fail
  go_ret
  exact ⟨rfl, rfl⟩

set_option maxRecDepth 100000 in
set_option maxHeartbeats 4000000 in
theorem rGet_is (w : World) (g : Nat) (vc : Value) (BB : Nat → Prop) (A : Option Addr) (m c : Nat) (xs : List Int) (q : Nat) (d : Dec) (h : RDecAt w g vc BB A m c xs q d) (hok : d.Ok) (hov : d.over = false) (i : Nat) (hi : i < d.ch.length) (hn : d.ch.length ≤ 65536) (hm : m ≤ 140737488355328) :
    Calls Try.prog 57 #[.pointer (some ⟨g, 0, none⟩), .int .i64 i] w fun e' w' => e' = .returned (.int .i64 (d.told i : Nat)) ∧ RDecTo2 w g vc BB A m c xs (d.get i) w' := by
  obtain ⟨gc, cc, rfl⟩ : ∃ gc cc, vc = .slice (some ⟨gc, 0, none⟩) d.ch.length cc := by
    rcases h.chs.2 with ⟨hv, hz⟩ | ⟨gc, cap, cur, hv, _⟩
    · exfalso
      omega
    · exact ⟨gc, cap, hv⟩
  obtain ⟨hp1, hp2⟩ := chOk_get hok.ch i hi
  obtain ⟨b1, b2, b3, b4⟩ := Enc.bound_bit d.width (d.ch.getD i 0) hp1 hp2 (hok.top hov) hok.width
  have hw := hok.width
  have hc := hok.code
  have hN : (((d.width / 2048 : Nat) : Int)) * ((d.ch.getD i 0 : Nat) : Int) = ((d.width / 2048 * d.ch.getD i 0 : Nat) : Int) := by rw [Int.natCast_mul]
  obtain ⟨ch, width, code, rest, over⟩ := d
  simp only at *
  subst hov
  obtain ⟨p, hp⟩ : ∃ p, p = ch.getD i 0 := ⟨_, rfl⟩
  have HPX : Hid (ch.getD i 0 = p) := hp.symm
  rw [← hp] at hp1 hp2 b1 b2 b3 b4 hN
  obtain ⟨B, hB⟩ : ∃ B, B = width / 2048 * p := ⟨_, rfl⟩
  have HBX : Hid (width / 2048 * p = B) := hB.symm
  rw [← hB] at b1 b2 b3 b4 hN
  obtain ⟨qq, hq⟩ : ∃ qq, qq = width / 2048 := ⟨_, rfl⟩
  have eq1 : (width : Int) / 2048 = (qq : Int) := by omega
  rw [← hq] at hN
  have hbi : (B : Int) < 4294967296 := by omega
  have hbw : (B : Int) ≤ width := by omega
  have hwb : (width : Int) - (B : Int) < 4294967296 := by omega
  have hwb0 : 0 ≤ (width : Int) - (B : Int) := by omega
  have hcm : (code : Int) < 4294967296 := by omega
  have hpi : (p : Int) ≤ 2017 := by omega
  have H := Lib.hid h
  have HF := Lib.hid (And.intro hw (And.intro b1 (And.intro b2 (And.intro b3 (And.intro b4 (And.intro hn (And.intro hc hm)))))))
  have HP2 := Lib.hid (And.intro hp1 hp2)
  have hml : m ≤ 140737488355328 := hm
  obtain ⟨E, hE⟩ : ∃ E, E = (⟨ch, width, code, rest, false⟩ : Dec).get i := ⟨_, rfl⟩
  obtain ⟨T, hT⟩ : ∃ T, T = (⟨ch, width, code, rest, false⟩ : Dec).told i := ⟨_, rfl⟩
  have HE := Lib.hid hE
  have HT := Lib.hid hT
  rw [← hE, ← hT]
  have HM := Lib.hid hml
  clear h hE hT hp hB hq hok hw b1 b2 b3 b4 hn hc hm hml hp1 hp2
  by_cases hlt : code < B
  · have hcb : decide (code < B) = true := decide_eq_true hlt
    have HZ := Lib.hid hlt
    have HS0 : Hid ((⟨ch, B, code, rest, false⟩ : Dec).settle = (⟨ch, width, code, rest, false⟩ : Dec).step p) := by
      show _ = _
      simp only [Dec.step, Dec.halfW, Dec.halfC, HBX.out]
      rw [if_pos (by omega), if_pos (by omega)]
    have HBIT : Hid (Dec.bitOf width code p = 0) := by
      show _ = _
      simp only [Dec.bitOf, HBX.out]
      rw [if_pos (by omega)]
    obtain ⟨S1, hS1⟩ : ∃ S1, S1 = (⟨ch, B, code, rest, false⟩ : Dec).settle := ⟨_, rfl⟩
    have hch1 : S1.ch = ch := by rw [hS1, Dec.settle_ch]
    have HE1 : Hid (E = if S1.over then S1 else { S1 with ch := ch.set i (aft p 0) }) := by
      show _ = _
      rw [HE.out, Dec.get, if_neg (by simp)]
      simp only [HPX.out, HBIT.out, ← HS0.out, ← hS1]
    have HS2 : Hid ((⟨ch.set i (aft p 0), B, code, rest, false⟩ : Dec).settle = { S1 with ch := ch.set i (aft p 0) }) := by
      show _ = _
      rw [hS1, ← Dec.settle_set]
    have hT1 : T = 0 := by rw [HT.out, Dec.told, if_neg (by simp)]; simp only [HPX.out]; exact HBIT.out
    subst hT1
    have HCH := Lib.hid hch1
    clear HE HT HS0 HBIT hS1 hch1 hlt
    go_enter Try.func57, Try.ntmps57
    have d5 := blk_cell H.out.blk 5
    simp at d5
    go_wp2_with fail
    clear d5
    refine wp_region_seq (by kernel_rfl) (by kernel_rfl) ?_
    have HEd := Lib.hid H.out.drew
    have HKd : Hid (Grow w w.drew) := (Keeps.refl _ w).drew
    clear H
    generalize w.drew = wd at *
    have d0 := blk_cell HEd.out.blk 0
    have d1 := blk_cell HEd.out.blk 1
    have d2 := blk_cell HEd.out.blk 2
    have f1 := blk_frozen HEd.out.blk 1
    have f2 := blk_frozen HEd.out.blk 2
    have dc := HEd.out.chs.cellAt i (by simp only [Nat.mul_one]; exact hi)
    simp only at dc
    rw [i64_get ch i hi, HPX.out] at dc
    simp at d0 d1 d2
    go_wp2_with fail
    refine ⟨by kernel_rfl, ?_⟩
    go_upto_region 6 with fail
    go_upto_region 10 with fail
    have HE2 : Hid (RDecAt (wd.setCell ⟨g, 1, none⟩ (.int .u64 (B : Nat))) g (.slice (some ⟨gc, 0, none⟩) ch.length cc) BB A m c xs q ⟨ch, B, code, rest, false⟩) := HEd.out.re (d' := ⟨ch, B, code, rest, false⟩) ((Keeps.refl (fun k => k = g) wd).setCell (p := ⟨g, 1, none⟩) (fun _ => rfl) (.int .u64 (B : Nat))) (blk_set HEd.out.blk 1 (.int .u64 (B : Nat))) rfl HEd.out.len HEd.out.rest
    have HK2 : Hid (Keeps (fun k => k = g) w (wd.setCell ⟨g, 1, none⟩ (.int .u64 (B : Nat)))) := Keeps.trans (gk HKd.out) ((Keeps.refl (fun k => k = g) wd).setCell (p := ⟨g, 1, none⟩) (fun _ => rfl) (.int .u64 (B : Nat))) fun _ _ h => h
    clear HEd HKd d0 d1 d2 f1 f2 dc
    generalize (wd.setCell ⟨g, 1, none⟩ (.int .u64 (B : Nat))) = w2 at *
    have d0 := blk_cell HE2.out.blk 0
    have dc := HE2.out.chs.cellAt i (by simp only [Nat.mul_one]; exact hi)
    simp only at dc
    rw [i64_get ch i hi, HPX.out] at dc
    simp at d0
    go_wp2_with fail
    clear d0 dc
    refine Hv.wp_region_hav2 Grow Grow (fun _ _ _ => True) hyG [3, 8] [1009] [(0, [0, 1, 2, 4, 5, 6]), (1, [3]), (2, [7]), (1, [8]), (4, [9])] [(0, 0, [?o0, ?o1, ?o2, ?o4, ?o5, ?o6]), (1, 3, [?o3]), (2, 7, [?o7]), (1, 8, [?o8]), (4, 9, [?o9])] [?o0, ?o1, ?o2, ?o3, ?o4, ?o5, ?o6, ?o7, ?o8, ?o9] (by kernel_rfl) (by kernel_rfl) (by kernel_rfl) ?_
    have HEe := Lib.hid HE2.out.drew
    have HKe : Hid (Keeps (fun k => k = g) w w2.drew) := HK2.out.drew
    clear HE2 HK2
    generalize w2.drew = we at *
    have HC : Hid (∀ w7, Grow we w7 → w7.cell? ⟨g, 0, none⟩ = some (.slice (some ⟨gc, 0, none⟩) ch.length cc)) := fun w7 h7 => by
      have HE7 := HEe.out.keep h7 (fun h => h) (fun _ _ h => h) (fun _ _ h => h)
      have d0 := blk_cell HE7.blk 0
      simp at d0
      exact d0
    refine Hv.seg_calm ?_
    go_wp2_with fail
    refine Hv.seg_held (by kernel_rfl) ((.slice (some ⟨gc, 0, none⟩) ch.length cc)) (fun w7 hk7 => ?_) ?_
    · have c7 := HC.out w7 hk7
      go_simp
    refine Hv.seg_call (fun w5 q5 => ?_)
    go_wp2_with fail
    refine (refAfter_is w5 p 0 HP2.out.2 (by omega)).mono ?_
    rintro x w6 ⟨rfl, rfl⟩
    generalize aft p 0 = np at *
    have HE5 := Lib.hid (HEe.out.keep q5 (fun h => h) (fun _ _ h => h) (fun _ _ h => h))
    have HK5 : Hid (Keeps (fun k => k = g) w w6) := Keeps.trans HKe.out (gk q5) fun _ _ h => h
    clear q5 HC HEe HKe hN eq1 hbi hbw hwb hwb0 hpi hcb
    go_wp2_with fail
    refine ⟨Keeps.refl _ _, ?_⟩
    refine Hv.seg_held (by kernel_rfl) (.pointer (some ⟨gc, i, none⟩)) (fun w7 hk7 => ?_) ?_
    · go_simp
    have hf := HE5.out.chs.frozenAt i
    have hc9 := HE5.out.chs.cellAt i (by simp only [Nat.mul_one]; exact hi)
    simp only at hc9
    rw [i64_get ch i hi, HPX.out] at hc9
    refine Hv.seg_last ?_
    go_wp2_with fail
    refine Hv.seg_end ⟨by kernel_rfl, ?_⟩
    have HE6 : Hid (RDecAt (w6.setCell ⟨gc, i, none⟩ (.int .i64 (np : Nat))) g (.slice (some ⟨gc, 0, none⟩) ch.length cc) BB A m c xs q ⟨ch.set i np, B, code, rest, false⟩) := rdec_aft HE5.out (by have h9 := (HE5.out.chs.stored i (.int .i64 (np : Nat))).1; rw [i64_set] at h9; exact h9) ((Keeps.refl (fun k => k = gc) w6).setCell (p := ⟨gc, i, none⟩) (fun _ => rfl) _)
    have HK6 : Hid (Keeps (fun k => k = g ∨ (Value.slice (some ⟨gc, 0, none⟩) ch.length cc).ownBlock = some k) w (w6.setCell ⟨gc, i, none⟩ (.int .i64 (np : Nat)))) := (HK5.out.mono fun _ _ h => .inl h).setCell (p := ⟨gc, i, none⟩) (fun _ => .inr rfl) _
    clear HE5 HK5 hf hc9
    generalize w6.setCell ⟨gc, i, none⟩ (.int .i64 (np : Nat)) = w8 at *
    have HS := Lib.hid (rSettle_is w8 g _ BB A m c xs q _ HE6.out (by have hz := HZ.out; obtain ⟨hw, b1, b2, b3, b4, hn, hc, hm⟩ := HF.out; simp only; omega) (by have hz := HZ.out; obtain ⟨hw, b1, b2, b3, b4, hn, hc, hm⟩ := HF.out; simp only; omega) rfl HM.out)
    rw [HS2.out] at HS
    clear HE6 HZ HS2
    go_wp2_with fail
    refine HS.out.mono ?_
    rintro x w4 ⟨rfl, q4, h4, hk4⟩
    have HK4 : Hid (Keeps (fun k => k = g ∨ (Value.slice (some ⟨gc, 0, none⟩) ch.length cc).ownBlock = some k) w w4) := Keeps.trans HK6.out hk4 fun _ _ h => .inl h
    have H4 := Lib.hid h4
    have d5 := blk_cell h4.blk 5
    simp at d5
    clear h4 hk4 HS HK6
    obtain ⟨ch1, width1, code1, rest1, over1⟩ := S1
    have hcc : ch1 = ch := HCH.out
    subst hcc
    simp only at d5 H4 HE1
    clear HCH
    cases over1
    · have HE2 : Hid (E = ⟨ch1.set i np, width1, code1, rest1, false⟩) := HE1.out
      clear HE1
      go_wp2_with fail
      go_ret
      exact ⟨rfl, q4, by rw [HE2.out]; exact H4.out, HK4.out⟩
    · have HE2 : Hid (E = ⟨ch1, width1, code1, rest1, true⟩) := HE1.out
      clear HE1
      have d0 := blk_cell H4.out.blk 0
      have hlen : (ch1.set i np).length = ch1.length := List.length_set ..
      have hrow := H4.out.chs
      simp only [List.length_set] at hrow
      have fc := hrow.frozenAt i
      have dc := hrow.cellAt i (by simp only [Nat.mul_one]; exact hi)
      rw [i64_get _ i (by rw [hlen]; exact hi)] at dc
      simp at d0
      have hst := (hrow.stored i (.int .i64 (p : Nat))).1
      rw [i64_set, List.set_set] at hst
      have hpp : ch1.set i p = ch1 := by rw [← HPX.out]; exact set_getD_self ch1 i hi
      rw [hpp] at hst
      have HST := Lib.hid hst
      clear hst hpp hlen hrow
      go_wp2_with fail
      have HE9 : Hid (RDecAt (w4.setCell ⟨gc, i, none⟩ (.int .i64 (p : Nat))) g (.slice (some ⟨gc, 0, none⟩) ch1.length cc) BB A m c xs q4 ⟨ch1, width1, code1, rest1, true⟩) := rdec_aft H4.out (by simp only [List.length_set]; exact HST.out) ((Keeps.refl (fun k => k = gc) w4).setCell (p := ⟨gc, i, none⟩) (fun _ => rfl) _)
      have HK9 : Hid (Keeps (fun k => k = g ∨ (Value.slice (some ⟨gc, 0, none⟩) ch1.length cc).ownBlock = some k) w (w4.setCell ⟨gc, i, none⟩ (.int .i64 (p : Nat)))) := HK4.out.setCell (p := ⟨gc, i, none⟩) (fun _ => .inr rfl) _
      go_ret
      exact ⟨rfl, q4, by rw [HE2.out]; exact HE9.out, HK9.out⟩
  · have hcb : decide (code < B) = false := decide_eq_false hlt
    have hcz : 0 ≤ (code : Int) - (B : Int) := by omega
    have hcy : (code : Int) - (B : Int) < 4294967296 := by omega
    have HZ := Lib.hid hlt
    have HS0 : Hid ((⟨ch, width - B, code - B, rest, false⟩ : Dec).settle = (⟨ch, width, code, rest, false⟩ : Dec).step p) := by
      show _ = _
      simp only [Dec.step, Dec.halfW, Dec.halfC, HBX.out]
      rw [if_neg (by omega), if_neg (by omega)]
    have HBIT : Hid (Dec.bitOf width code p = 1) := by
      show _ = _
      simp only [Dec.bitOf, HBX.out]
      rw [if_neg (by omega)]
    obtain ⟨S1, hS1⟩ : ∃ S1, S1 = (⟨ch, width - B, code - B, rest, false⟩ : Dec).settle := ⟨_, rfl⟩
    have hch1 : S1.ch = ch := by rw [hS1, Dec.settle_ch]
    have HE1 : Hid (E = if S1.over then S1 else { S1 with ch := ch.set i (aft p 1) }) := by
      show _ = _
      rw [HE.out, Dec.get, if_neg (by simp)]
      simp only [HPX.out, HBIT.out, ← HS0.out, ← hS1]
    have HS2 : Hid ((⟨ch.set i (aft p 1), width - B, code - B, rest, false⟩ : Dec).settle = { S1 with ch := ch.set i (aft p 1) }) := by
      show _ = _
      rw [hS1, ← Dec.settle_set]
    have hT1 : T = 1 := by rw [HT.out, Dec.told, if_neg (by simp)]; simp only [HPX.out]; exact HBIT.out
    subst hT1
    have HCH := Lib.hid hch1
    clear HE HT HS0 HBIT hS1 hch1 hlt
    go_enter Try.func57, Try.ntmps57
    have d5 := blk_cell H.out.blk 5
    simp at d5
    go_wp2_with fail
    clear d5
    refine wp_region_seq (by kernel_rfl) (by kernel_rfl) ?_
    have HEd := Lib.hid H.out.drew
    have HKd : Hid (Grow w w.drew) := (Keeps.refl _ w).drew
    clear H
    generalize w.drew = wd at *
    have d0 := blk_cell HEd.out.blk 0
    have d1 := blk_cell HEd.out.blk 1
    have d2 := blk_cell HEd.out.blk 2
    have f1 := blk_frozen HEd.out.blk 1
    have f2 := blk_frozen HEd.out.blk 2
    have dc := HEd.out.chs.cellAt i (by simp only [Nat.mul_one]; exact hi)
    simp only at dc
    rw [i64_get ch i hi, HPX.out] at dc
    simp at d0 d1 d2
    go_wp2_with fail
    refine ⟨by kernel_rfl, ?_⟩
    go_upto_region 7 with fail
    go_upto_region 10 with fail
    have HE2 : Hid (RDecAt ((wd.setCell ⟨g, 2, none⟩ (.int .u64 ((code : Int) - (B : Int)))).setCell ⟨g, 1, none⟩ (.int .u64 ((width : Int) - (B : Int)))) g (.slice (some ⟨gc, 0, none⟩) ch.length cc) BB A m c xs q ⟨ch, width - B, code - B, rest, false⟩) := HEd.out.re (d' := ⟨ch, width - B, code - B, rest, false⟩) (((Keeps.refl (fun k => k = g) wd).setCell (p := ⟨g, 2, none⟩) (fun _ => rfl) (.int .u64 ((code : Int) - (B : Int)))).setCell (p := ⟨g, 1, none⟩) (fun _ => rfl) (.int .u64 ((width : Int) - (B : Int)))) (by have hz := HZ.out; obtain ⟨hw, b1, b2, b3, b4, hn, hc, hm⟩ := HF.out; have h9 := blk_set (blk_set HEd.out.blk 2 (.int .u64 ((code : Int) - (B : Int)))) 1 (.int .u64 ((width : Int) - (B : Int))); rw [show ((width : Int) - (B : Int)) = ((width - B : Nat) : Int) by omega, show ((code : Int) - (B : Int)) = ((code - B : Nat) : Int) by omega] at h9 ⊢; exact h9) rfl HEd.out.len HEd.out.rest
    have HK2 : Hid (Keeps (fun k => k = g) w ((wd.setCell ⟨g, 2, none⟩ (.int .u64 ((code : Int) - (B : Int)))).setCell ⟨g, 1, none⟩ (.int .u64 ((width : Int) - (B : Int))))) := Keeps.trans (gk HKd.out) (((Keeps.refl (fun k => k = g) wd).setCell (p := ⟨g, 2, none⟩) (fun _ => rfl) (.int .u64 ((code : Int) - (B : Int)))).setCell (p := ⟨g, 1, none⟩) (fun _ => rfl) (.int .u64 ((width : Int) - (B : Int)))) fun _ _ h => h
    clear HEd HKd d0 d1 d2 f1 f2 dc
    generalize ((wd.setCell ⟨g, 2, none⟩ (.int .u64 ((code : Int) - (B : Int)))).setCell ⟨g, 1, none⟩ (.int .u64 ((width : Int) - (B : Int)))) = w2 at *
    have d0 := blk_cell HE2.out.blk 0
    have dc := HE2.out.chs.cellAt i (by simp only [Nat.mul_one]; exact hi)
    simp only at dc
    rw [i64_get ch i hi, HPX.out] at dc
    simp at d0
    go_wp2_with fail
    clear d0 dc
    refine Hv.wp_region_hav2 Grow Grow (fun _ _ _ => True) hyG [3, 8] [1009] [(0, [0, 1, 2, 4, 5, 6]), (1, [3]), (2, [7]), (1, [8]), (4, [9])] [(0, 0, [?o0, ?o1, ?o2, ?o4, ?o5, ?o6]), (1, 3, [?o3]), (2, 7, [?o7]), (1, 8, [?o8]), (4, 9, [?o9])] [?o0, ?o1, ?o2, ?o3, ?o4, ?o5, ?o6, ?o7, ?o8, ?o9] (by kernel_rfl) (by kernel_rfl) (by kernel_rfl) ?_
    have HEe := Lib.hid HE2.out.drew
    have HKe : Hid (Keeps (fun k => k = g) w w2.drew) := HK2.out.drew
    clear HE2 HK2
    generalize w2.drew = we at *
    have HC : Hid (∀ w7, Grow we w7 → w7.cell? ⟨g, 0, none⟩ = some (.slice (some ⟨gc, 0, none⟩) ch.length cc)) := fun w7 h7 => by
      have HE7 := HEe.out.keep h7 (fun h => h) (fun _ _ h => h) (fun _ _ h => h)
      have d0 := blk_cell HE7.blk 0
      simp at d0
      exact d0
    refine Hv.seg_calm ?_
    go_wp2_with fail
    refine Hv.seg_held (by kernel_rfl) ((.slice (some ⟨gc, 0, none⟩) ch.length cc)) (fun w7 hk7 => ?_) ?_
    · have c7 := HC.out w7 hk7
      go_simp
    refine Hv.seg_call (fun w5 q5 => ?_)
    go_wp2_with fail
    refine (refAfter_is w5 p 1 HP2.out.2 (by omega)).mono ?_
    rintro x w6 ⟨rfl, rfl⟩
    generalize aft p 1 = np at *
    have HE5 := Lib.hid (HEe.out.keep q5 (fun h => h) (fun _ _ h => h) (fun _ _ h => h))
    have HK5 : Hid (Keeps (fun k => k = g) w w6) := Keeps.trans HKe.out (gk q5) fun _ _ h => h
    clear q5 HC HEe HKe hN eq1 hbi hbw hwb hwb0 hpi hcb hcz hcy
    go_wp2_with fail
    refine ⟨Keeps.refl _ _, ?_⟩
    refine Hv.seg_held (by kernel_rfl) (.pointer (some ⟨gc, i, none⟩)) (fun w7 hk7 => ?_) ?_
    · go_simp
    have hf := HE5.out.chs.frozenAt i
    have hc9 := HE5.out.chs.cellAt i (by simp only [Nat.mul_one]; exact hi)
    simp only at hc9
    rw [i64_get ch i hi, HPX.out] at hc9
    refine Hv.seg_last ?_
    go_wp2_with fail
    refine Hv.seg_end ⟨by kernel_rfl, ?_⟩
    have HE6 : Hid (RDecAt (w6.setCell ⟨gc, i, none⟩ (.int .i64 (np : Nat))) g (.slice (some ⟨gc, 0, none⟩) ch.length cc) BB A m c xs q ⟨ch.set i np, width - B, code - B, rest, false⟩) := rdec_aft HE5.out (by have h9 := (HE5.out.chs.stored i (.int .i64 (np : Nat))).1; rw [i64_set] at h9; exact h9) ((Keeps.refl (fun k => k = gc) w6).setCell (p := ⟨gc, i, none⟩) (fun _ => rfl) _)
    have HK6 : Hid (Keeps (fun k => k = g ∨ (Value.slice (some ⟨gc, 0, none⟩) ch.length cc).ownBlock = some k) w (w6.setCell ⟨gc, i, none⟩ (.int .i64 (np : Nat)))) := (HK5.out.mono fun _ _ h => .inl h).setCell (p := ⟨gc, i, none⟩) (fun _ => .inr rfl) _
    clear HE5 HK5 hf hc9
    generalize w6.setCell ⟨gc, i, none⟩ (.int .i64 (np : Nat)) = w8 at *
    have HS := Lib.hid (rSettle_is w8 g _ BB A m c xs q _ HE6.out (by have hz := HZ.out; obtain ⟨hw, b1, b2, b3, b4, hn, hc, hm⟩ := HF.out; simp only; omega) (by have hz := HZ.out; obtain ⟨hw, b1, b2, b3, b4, hn, hc, hm⟩ := HF.out; simp only; omega) rfl HM.out)
    rw [HS2.out] at HS
    clear HE6 HZ HS2
    go_wp2_with fail
    refine HS.out.mono ?_
    rintro x w4 ⟨rfl, q4, h4, hk4⟩
    have HK4 : Hid (Keeps (fun k => k = g ∨ (Value.slice (some ⟨gc, 0, none⟩) ch.length cc).ownBlock = some k) w w4) := Keeps.trans HK6.out hk4 fun _ _ h => .inl h
    have H4 := Lib.hid h4
    have d5 := blk_cell h4.blk 5
    simp at d5
    clear h4 hk4 HS HK6
    obtain ⟨ch1, width1, code1, rest1, over1⟩ := S1
    have hcc : ch1 = ch := HCH.out
    subst hcc
    simp only at d5 H4 HE1
    clear HCH
    cases over1
    · have HE2 : Hid (E = ⟨ch1.set i np, width1, code1, rest1, false⟩) := HE1.out
      clear HE1
      go_wp2_with fail
      go_ret
      exact ⟨rfl, q4, by rw [HE2.out]; exact H4.out, HK4.out⟩
    · have HE2 : Hid (E = ⟨ch1, width1, code1, rest1, true⟩) := HE1.out
      clear HE1
      have d0 := blk_cell H4.out.blk 0
      have hlen : (ch1.set i np).length = ch1.length := List.length_set ..
      have hrow := H4.out.chs
      simp only [List.length_set] at hrow
      have fc := hrow.frozenAt i
      have dc := hrow.cellAt i (by simp only [Nat.mul_one]; exact hi)
      rw [i64_get _ i (by rw [hlen]; exact hi)] at dc
      simp at d0
      have hst := (hrow.stored i (.int .i64 (p : Nat))).1
      rw [i64_set, List.set_set] at hst
      have hpp : ch1.set i p = ch1 := by rw [← HPX.out]; exact set_getD_self ch1 i hi
      rw [hpp] at hst
      have HST := Lib.hid hst
      clear hst hpp hlen hrow
      go_wp2_with fail
      have HE9 : Hid (RDecAt (w4.setCell ⟨gc, i, none⟩ (.int .i64 (p : Nat))) g (.slice (some ⟨gc, 0, none⟩) ch1.length cc) BB A m c xs q4 ⟨ch1, width1, code1, rest1, true⟩) := rdec_aft H4.out (by simp only [List.length_set]; exact HST.out) ((Keeps.refl (fun k => k = gc) w4).setCell (p := ⟨gc, i, none⟩) (fun _ => rfl) _)
      have HK9 : Hid (Keeps (fun k => k = g ∨ (Value.slice (some ⟨gc, 0, none⟩) ch1.length cc).ownBlock = some k) w (w4.setCell ⟨gc, i, none⟩ (.int .i64 (p : Nat)))) := HK4.out.setCell (p := ⟨gc, i, none⟩) (fun _ => .inr rfl) _
      go_ret
      exact ⟨rfl, q4, by rw [HE2.out]; exact HE9.out, HK9.out⟩
end Go.Proofs.Ytiikbpcaeoodjaa
