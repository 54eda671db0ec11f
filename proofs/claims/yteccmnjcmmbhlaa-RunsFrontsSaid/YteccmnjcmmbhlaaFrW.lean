/- The walk of hamperlaw11.RunsFronts. -/
import Derived.Test.YteccmnjcmmbhlaaFrF
import Derived.Test.YteccmnjcmmbhlaaSp11
import Derived.Test.YteccmnjcmmbhlaaPacksW
namespace Go.Proofs.Yteccmnjcmmbhlaa
open Go.RowKit
set_option linter.unusedVariables false
set_option linter.unusedSimpArgs false

set_option maxRecDepth 4000 in
set_option maxHeartbeats 4000000 in
theorem walkRunsFronts (W : World) (a0 : Option Addr) (c0 : Nat) (x0 : List (Int)) (_h0 : Sh.Rd W (.sl 1 (.int .u8)) [.slice a0 x0.length c0] x0) (a1 : Option Addr) (c1 : Nat) (x1 : List (Int)) (_h1 : Sh.Rd W (.sl 1 (.int .u8)) [.slice a1 x1.length c1] x1) (a2 : Option Addr) (c2 : Nat) (x2 : List (Int)) (_h2 : Sh.Rd W (.sl 8 (.int .i64)) [.slice a2 x2.length c2] x2) (_hk : Sh.bulk (.sl 1 (.int .u8)) x0 + Sh.bulk (.sl 1 (.int .u8)) x1 + Sh.bulk (.sl 8 (.int .i64)) x2 ≤ 1048576) :
    Calls Try.prog 7 #[.slice a0 x0.length c0, .slice a1 x1.length c1, .slice a2 x2.length c2] W fun e w' => e = .returned (.bool true) ∧ Below W.heap.size W w' := by
  have hlens : x0.length ≤ 1048576 ∧ x1.length ≤ 1048576 ∧ x2.length ≤ 1048576 := by
    have h : ((List.map (fun _ => 1) x0).sum + 1) + ((List.map (fun _ => 1) x1).sum + 1) + ((List.map (fun _ => 1) x2).sum + 1) ≤ 1048576 := _hk
    rw [sum_ones, sum_ones, sum_ones] at h
    omega
  obtain ⟨hN0, _⟩ := Nums.of_rd _h0
  obtain ⟨hN1, _⟩ := Nums.of_rd _h1
  obtain ⟨hN2, _⟩ := Nums.of_rd _h2
  clear _h0 _h1 _h2 _hk
  obtain ⟨hl0, hl1, hl2⟩ := hlens
  generalize hm0 : x0.length = m0 at *
  generalize hm1 : x1.length = m1 at *
  generalize hm2 : x2.length = m2 at *
  obtain ⟨us, hus⟩ : ∃ us, us = usedP x0 := ⟨_, rfl⟩
  obtain ⟨ku, hku⟩ : ∃ ku, ku = us.length := ⟨_, rfl⟩
  obtain ⟨ps, hps⟩ : ∃ ps, ps = mtfP us x0 := ⟨_, rfl⟩
  obtain ⟨R, hR⟩ : ∃ R, R = unfR x1 x2 := ⟨_, rfl⟩
  have HF : Hid (∀ (w : World) (A : Option Addr) (c : Nat), Nums .u8 w A m0 c x0 → Calls Try.prog 27 #[.slice A m0 c] w fun e w' => ∃ A1 c1 A2 c2, e = .returned (.tuple #[.slice A1 ku c1, .slice A2 m0 c2]) ∧ w'.ownsRow w.heap.size 5 1 (.slice A1 ku c1) ku (us.map (Value.int .u8)) ∧ w'.ownsRow w.heap.size 3 1 (.slice A2 m0 c2) m0 (ps.map (Value.int .i64)) ∧ (∀ b, (Value.slice A2 m0 c2).ownBlock = some b → (Value.slice A1 ku c1).ownBlock ≠ some b) ∧ Grow w w') := fun w A c h => by
    subst hps hku hus
    exact front_is w A m0 c x0 h hl0
  have HRF : Hid (∀ (w : World) (A : Option Addr) (c : Nat), Nums .u8 w A m0 c x0 → Calls Try.prog 28 #[.slice A m0 c] w fun e w' => ∃ A1 c1 A2 c2, e = .returned (.tuple #[.slice A1 ku c1, .slice A2 m0 c2]) ∧ w'.ownsRow w.heap.size 5 1 (.slice A1 ku c1) ku (us.map (Value.int .u8)) ∧ w'.ownsRow w.heap.size 3 1 (.slice A2 m0 c2) m0 (ps.map (Value.int .i64)) ∧ (∀ b, (Value.slice A2 m0 c2).ownBlock = some b → (Value.slice A1 ku c1).ownBlock ≠ some b) ∧ Grow w w') := fun w A c h => by
    subst hps hku hus
    exact refFront_is w A m0 c x0 h hl0
  have HU : Hid (∀ (w : World) (A B : Option Addr) (c d : Nat), Nums .u8 w A m1 c x1 → Nums .i64 w B m2 d x2 → Calls Try.prog 29 #[.slice A m1 c, .slice B m2 d] w fun e w' => ∃ A' c' k, e = .returned (.tuple #[.slice A' k c', .int .i64 R.2]) ∧ w'.ownsRow w.heap.size 5 1 (.slice A' k c') k (R.1.map (Value.int .u8)) ∧ Grow w w') := fun w A B c d h h' => by
    subst hR
    exact unfront_is w A B m1 c m2 d x1 x2 h h' hl1 hl2
  have HRU : Hid (∀ (w : World) (A B : Option Addr) (c d : Nat), Nums .u8 w A m1 c x1 → Nums .i64 w B m2 d x2 → Calls Try.prog 30 #[.slice A m1 c, .slice B m2 d] w fun e w' => ∃ A' c' k, e = .returned (.tuple #[.slice A' k c', .int .i64 R.2]) ∧ w'.ownsRow w.heap.size 5 1 (.slice A' k c') k (R.1.map (Value.int .u8)) ∧ Grow w w') := fun w A B c d h h' => by
    subst hR
    exact refUnfront_is w A B m1 c m2 d x1 x2 h h' hl1 hl2
  have HN0 := Lib.hid hN0
  have HN1 := Lib.hid hN1
  have HN2 := Lib.hid hN2
  clear hN0 hN1 hN2 hm0 hm1 hm2 hus hku hps hR
  go_enter Try.func7, Try.ntmps7
  have ho0 := own_none W 5
  have HA0 : Hid (Grow W (W.alloc (.cells #[] 5))) := (Keeps.refl (fun _ => False) W).alloc (.cells #[] 5)
  have HA1 : Hid (Grow W (W.alloc (.cells #[] 5))) := (Keeps.refl (fun _ => False) W).alloc (.cells #[] 5)
  have HS0 := Lib.hid (HN0.out.grow HA0.out).src
  go_wp2_with (at_builtin; refine wpList_appS rfl (.tmp 18) (.tmp 19) 22 5 rfl Try.underlying22 Try.infoU8' rfl (by decide) W.heap.size _ 0 _ rfl ho0 (by simp) a0 m0 c0 _ rfl HS0.out (by unfold maxLen; omega) (by omega) ?_)
  intro A1 cc wa ho1 k1 _
  (try simp only [Nat.zero_add, List.nil_append] at ho1)
  (try simp only [Nat.zero_add])
  have K1 : Hid (Grow W wa) := Keeps.trans HA1.out k1 (fun i hi h => by simp [Value.ownBlock] at h; omega)
  have HC := Lib.hid (Nums.of_own ho1 HN0.out.rng)
  have GW_wa : Hid (Grow W wa) := K1.out
  clear ho0 HA0 HA1 HS0 ho1 k1
  have zW0 := GW_wa.out.size
  clear K1
  go_wp2_with fail
  refine (HF.out wa _ _ HC.out).mono ?_
  rintro e wb ⟨AU, cU, AP, cP, rfl, hou, hop, hd, hg⟩
  have LTU : Hid (∀ b, (Value.slice AU ku cU).ownBlock = some b → wa.heap.size ≤ b ∧ b < wb.heap.size) := fun b hb => hou.lt b hb
  have LTP : Hid (∀ b, (Value.slice AP m0 cP).ownBlock = some b → wa.heap.size ≤ b ∧ b < wb.heap.size) := fun b hb => hop.lt b hb
  have DPU : Hid (∀ b, (Value.slice AP m0 cP).ownBlock = some b → (Value.slice AU ku cU).ownBlock ≠ some b) := hd
  have K2 := Lib.hid hg
  have z_wb := hg.size
  have RU := Lib.hid hou
  have RP := Lib.hid hop
  have GW_wb := Lib.hid (Grow.trans _ _ _ GW_wa.out K2.out)
  clear hou hop hd hg K2 GW_wa
  clear HC
  have zWa := GW_wb.out.size
  have ho0 := own_none wb 5
  have HA0 : Hid (Grow W (wb.alloc (.cells #[] 5))) := Grow.trans _ _ _ GW_wb.out ((Keeps.refl (fun _ => False) wb).alloc (.cells #[] 5))
  have HA1 : Hid (Grow wb (wb.alloc (.cells #[] 5))) := (Keeps.refl (fun _ => False) wb).alloc (.cells #[] 5)
  have HS0 := Lib.hid (HN0.out.grow HA0.out).src
  go_wp2_with (at_builtin; refine wpList_appS rfl (.tmp 25) (.tmp 26) 22 5 rfl Try.underlying22 Try.infoU8' rfl (by decide) wb.heap.size _ 0 _ rfl ho0 (by simp) a0 m0 c0 _ rfl HS0.out (by unfold maxLen; omega) (by omega) ?_)
  intro A1 cc wc ho1 k1 _
  (try simp only [Nat.zero_add, List.nil_append] at ho1)
  (try simp only [Nat.zero_add])
  have K1 : Hid (Grow wb wc) := Keeps.trans HA1.out k1 (fun i hi h => by simp [Value.ownBlock] at h; omega)
  have HC := Lib.hid (Nums.of_own ho1 HN0.out.rng)
  have GW_wc := Lib.hid (Grow.trans _ _ _ GW_wb.out K1.out)
  clear ho0 HA0 HA1 HS0 ho1 k1
  have z_wc := K1.out.size
  have RU' := Lib.hid (owns_keep RU.out K1.out (fun _ _ h => h))
  clear RU
  have RU := RU'
  clear RU'
  have RP' := Lib.hid (owns_keep RP.out K1.out (fun _ _ h => h))
  clear RP
  have RP := RP'
  clear RP'
  clear K1 GW_wb
  go_wp2_with fail
  refine (HF.out wc _ _ HC.out).mono ?_
  rintro e wd ⟨AV, cV, AQ, cQ, rfl, hou, hop, hd, hg⟩
  have LTV : Hid (∀ b, (Value.slice AV ku cV).ownBlock = some b → wc.heap.size ≤ b ∧ b < wd.heap.size) := fun b hb => hou.lt b hb
  have LTQ : Hid (∀ b, (Value.slice AQ m0 cQ).ownBlock = some b → wc.heap.size ≤ b ∧ b < wd.heap.size) := fun b hb => hop.lt b hb
  have DQV : Hid (∀ b, (Value.slice AQ m0 cQ).ownBlock = some b → (Value.slice AV ku cV).ownBlock ≠ some b) := hd
  have K2 := Lib.hid hg
  have z_wd := hg.size
  have RU' := Lib.hid (owns_keep RU.out K2.out (fun _ _ h => h))
  clear RU
  have RU := RU'
  clear RU'
  have RP' := Lib.hid (owns_keep RP.out K2.out (fun _ _ h => h))
  clear RP
  have RP := RP'
  clear RP'
  have RV := Lib.hid hou
  have RQ := Lib.hid hop
  have GW_wd := Lib.hid (Grow.trans _ _ _ GW_wc.out K2.out)
  clear hou hop hd hg K2 GW_wc
  clear HC
  go_wp2_with fail
  refine (HRF.out wd _ _ (Lib.hid (HN0.out.grow GW_wd.out)).out).mono ?_
  rintro e we ⟨AN, cN, AL, cL, rfl, hou, hop, hd, hg⟩
  have LTN : Hid (∀ b, (Value.slice AN ku cN).ownBlock = some b → wd.heap.size ≤ b ∧ b < we.heap.size) := fun b hb => hou.lt b hb
  have LTL : Hid (∀ b, (Value.slice AL m0 cL).ownBlock = some b → wd.heap.size ≤ b ∧ b < we.heap.size) := fun b hb => hop.lt b hb
  have DLN : Hid (∀ b, (Value.slice AL m0 cL).ownBlock = some b → (Value.slice AN ku cN).ownBlock ≠ some b) := hd
  have K2 := Lib.hid hg
  have z_we := hg.size
  have RU' := Lib.hid (owns_keep RU.out K2.out (fun _ _ h => h))
  clear RU
  have RU := RU'
  clear RU'
  have RP' := Lib.hid (owns_keep RP.out K2.out (fun _ _ h => h))
  clear RP
  have RP := RP'
  clear RP'
  have RV' := Lib.hid (owns_keep RV.out K2.out (fun _ _ h => h))
  clear RV
  have RV := RV'
  clear RV'
  have RQ' := Lib.hid (owns_keep RQ.out K2.out (fun _ _ h => h))
  clear RQ
  have RQ := RQ'
  clear RQ'
  have RN := Lib.hid hou
  have RL := Lib.hid hop
  have GW_we := Lib.hid (Grow.trans _ _ _ GW_wd.out K2.out)
  clear hou hop hd hg K2 GW_wd
  have ho0 := own_none we 5
  have HA0 : Hid (Grow W (we.alloc (.cells #[] 5))) := Grow.trans _ _ _ GW_we.out ((Keeps.refl (fun _ => False) we).alloc (.cells #[] 5))
  have HA1 : Hid (Grow we (we.alloc (.cells #[] 5))) := (Keeps.refl (fun _ => False) we).alloc (.cells #[] 5)
  have HS0 := Lib.hid (HN1.out.grow HA0.out).src
  go_wp2_with (at_builtin; refine wpList_appS rfl (.tmp 37) (.tmp 38) 22 5 rfl Try.underlying22 Try.infoU8' rfl (by decide) we.heap.size _ 0 _ rfl ho0 (by simp) a1 m1 c1 _ rfl HS0.out (by unfold maxLen; omega) (by omega) ?_)
  intro A1 cc wf ho1 k1 _
  (try simp only [Nat.zero_add, List.nil_append] at ho1)
  (try simp only [Nat.zero_add])
  have K1 : Hid (Grow we wf) := Keeps.trans HA1.out k1 (fun i hi h => by simp [Value.ownBlock] at h; omega)
  have HC := Lib.hid (Nums.of_own ho1 HN1.out.rng)
  have GW_wf := Lib.hid (Grow.trans _ _ _ GW_we.out K1.out)
  clear ho0 HA0 HA1 HS0 ho1 k1
  have z_wf := K1.out.size
  have RU' := Lib.hid (owns_keep RU.out K1.out (fun _ _ h => h))
  clear RU
  have RU := RU'
  clear RU'
  have RP' := Lib.hid (owns_keep RP.out K1.out (fun _ _ h => h))
  clear RP
  have RP := RP'
  clear RP'
  have RV' := Lib.hid (owns_keep RV.out K1.out (fun _ _ h => h))
  clear RV
  have RV := RV'
  clear RV'
  have RQ' := Lib.hid (owns_keep RQ.out K1.out (fun _ _ h => h))
  clear RQ
  have RQ := RQ'
  clear RQ'
  have RN' := Lib.hid (owns_keep RN.out K1.out (fun _ _ h => h))
  clear RN
  have RN := RN'
  clear RN'
  have RL' := Lib.hid (owns_keep RL.out K1.out (fun _ _ h => h))
  clear RL
  have RL := RL'
  clear RL'
  clear K1 GW_we
  have ho0 := own_none wf 3
  have HA0 : Hid (Grow W (wf.alloc (.cells #[] 3))) := Grow.trans _ _ _ GW_wf.out ((Keeps.refl (fun _ => False) wf).alloc (.cells #[] 3))
  have HA1 : Hid (Grow wf (wf.alloc (.cells #[] 3))) := (Keeps.refl (fun _ => False) wf).alloc (.cells #[] 3)
  have HS0 := Lib.hid (HN2.out.grow HA0.out).src
  go_wp2_with (at_builtin; refine wpList_appS rfl (.tmp 40) (.tmp 41) 28 3 rfl Try.underlying28 Try.infoI64 rfl (by decide) wf.heap.size _ 0 _ rfl ho0 (by simp) a2 m2 c2 _ rfl HS0.out (by unfold maxLen; omega) (by omega) ?_)
  intro A1 cc wg ho1 k1 _
  (try simp only [Nat.zero_add, List.nil_append] at ho1)
  (try simp only [Nat.zero_add])
  have K1 : Hid (Grow wf wg) := Keeps.trans HA1.out k1 (fun i hi h => by simp [Value.ownBlock] at h; omega)
  have HE := Lib.hid (Nums.of_own ho1 HN2.out.rng)
  have GW_wg := Lib.hid (Grow.trans _ _ _ GW_wf.out K1.out)
  clear ho0 HA0 HA1 HS0 ho1 k1
  have z_wg := K1.out.size
  have HC2 := Lib.hid (HC.out.grow K1.out)
  clear HC
  have RU' := Lib.hid (owns_keep RU.out K1.out (fun _ _ h => h))
  clear RU
  have RU := RU'
  clear RU'
  have RP' := Lib.hid (owns_keep RP.out K1.out (fun _ _ h => h))
  clear RP
  have RP := RP'
  clear RP'
  have RV' := Lib.hid (owns_keep RV.out K1.out (fun _ _ h => h))
  clear RV
  have RV := RV'
  clear RV'
  have RQ' := Lib.hid (owns_keep RQ.out K1.out (fun _ _ h => h))
  clear RQ
  have RQ := RQ'
  clear RQ'
  have RN' := Lib.hid (owns_keep RN.out K1.out (fun _ _ h => h))
  clear RN
  have RN := RN'
  clear RN'
  have RL' := Lib.hid (owns_keep RL.out K1.out (fun _ _ h => h))
  clear RL
  have RL := RL'
  clear RL'
  clear K1 GW_wf
  go_wp2_with fail
  refine (HU.out wg _ _ _ _ HC2.out HE.out).mono ?_
  rintro e wh ⟨AX, cX, kx, rfl, ho, hg⟩
  have LTX : Hid (∀ b, (Value.slice AX kx cX).ownBlock = some b → wg.heap.size ≤ b ∧ b < wh.heap.size) := fun b hb => ho.lt b hb
  have KX := Lib.hid (own_len' ho)
  have K2 := Lib.hid hg
  have z_wh := hg.size
  have RU' := Lib.hid (owns_keep RU.out K2.out (fun _ _ h => h))
  clear RU
  have RU := RU'
  clear RU'
  have RP' := Lib.hid (owns_keep RP.out K2.out (fun _ _ h => h))
  clear RP
  have RP := RP'
  clear RP'
  have RV' := Lib.hid (owns_keep RV.out K2.out (fun _ _ h => h))
  clear RV
  have RV := RV'
  clear RV'
  have RQ' := Lib.hid (owns_keep RQ.out K2.out (fun _ _ h => h))
  clear RQ
  have RQ := RQ'
  clear RQ'
  have RN' := Lib.hid (owns_keep RN.out K2.out (fun _ _ h => h))
  clear RN
  have RN := RN'
  clear RN'
  have RL' := Lib.hid (owns_keep RL.out K2.out (fun _ _ h => h))
  clear RL
  have RL := RL'
  clear RL'
  have RX := Lib.hid ho
  have GW_wh := Lib.hid (Grow.trans _ _ _ GW_wg.out K2.out)
  clear ho hg K2 GW_wg HC2 HE
  go_wp2_with fail
  refine (HRU.out wh _ _ _ _ (HN1.out.grow GW_wh.out) (HN2.out.grow GW_wh.out)).mono ?_
  rintro e wi ⟨AT, cT, kt, rfl, ho, hg⟩
  have LTT : Hid (∀ b, (Value.slice AT kt cT).ownBlock = some b → wh.heap.size ≤ b ∧ b < wi.heap.size) := fun b hb => ho.lt b hb
  have KT := Lib.hid (own_len' ho)
  have K2 := Lib.hid hg
  have z_wi := hg.size
  have RU' := Lib.hid (owns_keep RU.out K2.out (fun _ _ h => h))
  clear RU
  have RU := RU'
  clear RU'
  have RP' := Lib.hid (owns_keep RP.out K2.out (fun _ _ h => h))
  clear RP
  have RP := RP'
  clear RP'
  have RV' := Lib.hid (owns_keep RV.out K2.out (fun _ _ h => h))
  clear RV
  have RV := RV'
  clear RV'
  have RQ' := Lib.hid (owns_keep RQ.out K2.out (fun _ _ h => h))
  clear RQ
  have RQ := RQ'
  clear RQ'
  have RN' := Lib.hid (owns_keep RN.out K2.out (fun _ _ h => h))
  clear RN
  have RN := RN'
  clear RN'
  have RL' := Lib.hid (owns_keep RL.out K2.out (fun _ _ h => h))
  clear RL
  have RL := RL'
  clear RL'
  have RX' := Lib.hid (owns_keep RX.out K2.out (fun _ _ h => h))
  clear RX
  have RX := RX'
  clear RX'
  have RT := Lib.hid ho
  have GW_wi := Lib.hid (Grow.trans _ _ _ GW_wh.out K2.out)
  clear ho hg K2 GW_wh
  have ekt : kt = kx := by rw [KT.out, KX.out]
  subst ekt
  clear KX KT HN0 HN1 HN2 HF HRF HU HRU
  have HS := Lib.hid (spoilt11_is wi _ _ AU AN ku cU cN _ RU.out RN.out)
  go_wp2_with fail
  refine HS.out.mono ?_
  rintro e v1 ⟨rfl, q⟩
  clear HS
  have GW_v1 : Hid (Grow W v1) := Keeps.trans GW_wi.out q (fun i hi h => by have := (LTU.out i h).1; omega)
  have RP' := Lib.hid (owns_keep RP.out q (fun b hb e => DPU.out b hb e))
  clear RP
  have RP := RP'
  clear RP'
  have RV' := Lib.hid (owns_keep RV.out q (fun b hb e => by have h1 := LTV.out b hb; have h2 := LTU.out b e; omega))
  clear RV
  have RV := RV'
  clear RV'
  have RQ' := Lib.hid (owns_keep RQ.out q (fun b hb e => by have h1 := LTQ.out b hb; have h2 := LTU.out b e; omega))
  clear RQ
  have RQ := RQ'
  clear RQ'
  have RN' := Lib.hid (owns_keep RN.out q (fun b hb e => by have h1 := LTN.out b hb; have h2 := LTU.out b e; omega))
  clear RN
  have RN := RN'
  clear RN'
  have RL' := Lib.hid (owns_keep RL.out q (fun b hb e => by have h1 := LTL.out b hb; have h2 := LTU.out b e; omega))
  clear RL
  have RL := RL'
  clear RL'
  have RX' := Lib.hid (owns_keep RX.out q (fun b hb e => by have h1 := LTX.out b hb; have h2 := LTU.out b e; omega))
  clear RX
  have RX := RX'
  clear RX'
  have RT' := Lib.hid (owns_keep RT.out q (fun b hb e => by have h1 := LTT.out b hb; have h2 := LTU.out b e; omega))
  clear RT
  have RT := RT'
  clear RT'
  clear q GW_wi
  have HS := Lib.hid (same_is v1 _ _ AP AL m0 cP cL _ RP.out RL.out (fun b hb e => by have h1 := LTP.out b e; have h2 := LTL.out b hb; omega))
  go_wp2_with fail
  refine HS.out.mono ?_
  rintro e v2 ⟨rfl, q⟩
  clear HS
  have GW_v2 : Hid (Grow W v2) := Keeps.trans GW_v1.out q (fun i hi h => by have := (LTP.out i h).1; omega)
  have RV' := Lib.hid (owns_keep RV.out q (fun b hb e => by have h1 := LTV.out b hb; have h2 := LTP.out b e; omega))
  clear RV
  have RV := RV'
  clear RV'
  have RQ' := Lib.hid (owns_keep RQ.out q (fun b hb e => by have h1 := LTQ.out b hb; have h2 := LTP.out b e; omega))
  clear RQ
  have RQ := RQ'
  clear RQ'
  have RN' := Lib.hid (owns_keep RN.out q (fun b hb e => by have h1 := LTN.out b hb; have h2 := LTP.out b e; omega))
  clear RN
  have RN := RN'
  clear RN'
  have RL' := Lib.hid (owns_keep RL.out q (fun b hb e => by have h1 := LTL.out b hb; have h2 := LTP.out b e; omega))
  clear RL
  have RL := RL'
  clear RL'
  have RX' := Lib.hid (owns_keep RX.out q (fun b hb e => by have h1 := LTX.out b hb; have h2 := LTP.out b e; omega))
  clear RX
  have RX := RX'
  clear RX'
  have RT' := Lib.hid (owns_keep RT.out q (fun b hb e => by have h1 := LTT.out b hb; have h2 := LTP.out b e; omega))
  clear RT
  have RT := RT'
  clear RT'
  clear q GW_v1
  have HS := Lib.hid (spoilt11_is v2 _ _ AV AN ku cV cN _ RV.out RN.out)
  go_wp2_with fail
  refine HS.out.mono ?_
  rintro e v3 ⟨rfl, q⟩
  clear HS
  have GW_v3 : Hid (Grow W v3) := Keeps.trans GW_v2.out q (fun i hi h => by have := (LTV.out i h).1; omega)
  have RQ' := Lib.hid (owns_keep RQ.out q (fun b hb e => DQV.out b hb e))
  clear RQ
  have RQ := RQ'
  clear RQ'
  have RL' := Lib.hid (owns_keep RL.out q (fun b hb e => by have h1 := LTL.out b hb; have h2 := LTV.out b e; omega))
  clear RL
  have RL := RL'
  clear RL'
  have RX' := Lib.hid (owns_keep RX.out q (fun b hb e => by have h1 := LTX.out b hb; have h2 := LTV.out b e; omega))
  clear RX
  have RX := RX'
  clear RX'
  have RT' := Lib.hid (owns_keep RT.out q (fun b hb e => by have h1 := LTT.out b hb; have h2 := LTV.out b e; omega))
  clear RT
  have RT := RT'
  clear RT'
  clear q GW_v2
  have HS := Lib.hid (same_is v3 _ _ AQ AL m0 cQ cL _ RQ.out RL.out (fun b hb e => by have h1 := LTQ.out b e; have h2 := LTL.out b hb; omega))
  go_wp2_with fail
  refine HS.out.mono ?_
  rintro e v4 ⟨rfl, q⟩
  clear HS
  have GW_v4 : Hid (Grow W v4) := Keeps.trans GW_v3.out q (fun i hi h => by have := (LTQ.out i h).1; omega)
  have RX' := Lib.hid (owns_keep RX.out q (fun b hb e => by have h1 := LTX.out b hb; have h2 := LTQ.out b e; omega))
  clear RX
  have RX := RX'
  clear RX'
  have RT' := Lib.hid (owns_keep RT.out q (fun b hb e => by have h1 := LTT.out b hb; have h2 := LTQ.out b e; omega))
  clear RT
  have RT := RT'
  clear RT'
  clear q GW_v3
  have HS := Lib.hid (spoilt11_is v4 _ _ AX AT kt cX cT _ RX.out RT.out)
  go_wp2_with fail
  refine HS.out.mono ?_
  rintro e v5 ⟨rfl, q⟩
  clear HS
  have GW_v5 : Hid (Grow W v5) := Keeps.trans GW_v4.out q (fun i hi h => by have := (LTX.out i h).1; omega)
  clear q GW_v4
  have HNM := Lib.hid (Try.names11_fn v5)
  go_wp2_with fail
  refine HNM.out.mono ?_
  rintro e v6 ⟨rfl, rfl⟩
  go_wp2_with fail
  go_ret
  exact ⟨rfl, Keeps.below GW_v5.out (fun _ _ h => h) (Nat.le_refl _)⟩
end Go.Proofs.Yteccmnjcmmbhlaa
