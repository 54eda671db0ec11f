/- The walk of hamperlaw21.VolumeSplits. -/
import Derived.Test.YtoeapobpdfidkaaVsR
import Derived.Test.YtoeapobpdfidkaaSzW
namespace Go.Proofs.Ytoeapobpdfidkaa
open Go.RowKit
set_option linter.unusedVariables false
set_option linter.unusedSimpArgs false

theorem names21_is (w : World) : Calls Try.prog 36 #[] w fun e w' => e = .returned (.bool true) ∧ w = w' := by
  go_enter Try.func36, Try.ntmps36
  go_wp2_with fail
  go_ret
  exact ⟨rfl, rfl⟩
theorem splP_len (xs : List Int) (size : Int) : (splP xs size).2.length ≤ 1024 := by
  unfold splP
  split
  · exact Nat.zero_le _
  · split
    · exact Nat.zero_le _
    · simp; omega
theorem splP_row (xs : List Int) (size : Int) : ∀ ys ∈ (splP xs size).2, ys.length ≤ 24 + xs.length := fun ys hy => by
  unfold splP at hy
  split at hy
  · cases hy
  · split at hy
    · cases hy
    · obtain ⟨i, _, rfl⟩ := List.mem_map.1 hy
      unfold volP
      rw [List.length_append, hdP_len, List.length_take, List.length_drop]
      omega
theorem Parts.at_ {w : World} {B K c : Nat} {A : Option Addr} {L : List Part} (h : Parts w B (.slice A K c) L) (i : Nat) (hi : i < L.length) : ∃ g t, A = some ⟨g, 0, none⟩ ∧ B ≤ g ∧ (∀ s ∈ L, s.1 ≠ g) ∧ w.cell? ⟨g, i, none⟩ = some (pV t) ∧ L[i]? = some t ∧ t ∈ L := by
  have hlt : i < L.length := hi
  have ht : L[i]? = some L[i] := List.getElem?_eq_getElem hlt
  have hrow := h.row
  rcases hrow.2 with ⟨_, h0⟩ | ⟨g, cap, cur, e, hB, hh, _⟩
  · omega
  · injection e with e1 e2 e3
    subst e1
    subst e2
    refine ⟨g, L[i], rfl, hB, fun s hs hg => ?_, ?_, ht, List.getElem_mem hlt⟩
    · rcases (h.each s hs).2 with ⟨e9, _⟩ | ⟨g9, cap9, cur9, e9, _, hh9, _⟩
      · cases e9
      · injection e9 with e9 _ _
        injection e9 with e9
        injection e9 with e9 _
        rw [← e9, hg, hh] at hh9
        injection hh9 with hh9
        injection hh9 with _ ht9 _
        exact absurd ht9 (by decide)
    · rw [hrow.cellAt i (by omega)]
      rw [List.getElem?_map, ht]
      rfl
theorem up_lt {L : List Part} (h : L.Pairwise fun s t => s.1 < t.1) {i : Nat} {t : Part} (ht : L[i]? = some t) : ∀ s ∈ L.take i, s.1 < t.1 := fun s hs => by
  obtain ⟨j, hj, rfl⟩ := List.mem_iff_getElem.1 hs
  obtain ⟨hi, rfl⟩ := List.getElem?_eq_some_iff.1 ht
  have hj2 : j < i := by have := hj; rw [List.length_take] at this; omega
  rw [List.getElem_take]
  exact (List.pairwise_iff_getElem.1 h) j i (by omega) hi hj2
theorem rows_at {L : List Part} {yss : List (List Int)} (h : L.map (fun t => t.2.2) = yss) {i : Nat} {t : Part} (ht : L[i]? = some t) : yss[i]? = some t.2.2 := by
  rw [← h, List.getElem?_map, ht]; rfl
set_option maxRecDepth 8000 in
set_option maxHeartbeats 4000000 in
theorem walkVolumeSplits (W : World) (a0 : Option Addr) (c0 : Nat) (x0 : List (Int)) (_h0 : Sh.Rd W (.sl 1 (.int .u8)) [.slice a0 x0.length c0] x0) (x1 : Int) (_h1 : (Lit.int .i64 x1).wf = true) (_hk : Sh.bulk (.sl 1 (.int .u8)) x0 + Sh.bulk (.int .i64) x1 ≤ 1048576) :
    Calls Try.prog 8 #[.slice a0 x0.length c0, .int .i64 x1] W fun e w' => e = .returned (.bool true) ∧ Below W.heap.size W w' := by
  obtain ⟨hN0, hcb⟩ := Nums.of_rd _h0
  have hx1 := inKind_wf _h1
  have hcap := hN0.cap
  generalize hm : x0.length = m at *
  have hmu : m ≤ 1048576 := by
    have h : ((List.map (fun _ => 1) x0).sum + 1) + 1 ≤ 1048576 := _hk
    have h1 := szSum x0
    omega
  have HX1 := Lib.hid hx1
  have HN0 := Lib.hid hN0
  have HM := Lib.hid hm
  have HMU := Lib.hid hmu
  have ho0 := own_none W 5
  have HS0 := Lib.hid (hN0.grow ((Keeps.refl (fun _ => False) W).alloc (.cells #[] 5))).src
  clear hN0 hx1 hm hcb hcap _h0 _h1 _hk
  go_enter Try.func8, Try.ntmps8
  go_wp2_with (at_builtin; refine wpList_appS rfl (.tmp 14) (.tmp 15) 51 5 rfl Try.underlying51 Try.infoU8s rfl (by decide) W.heap.size _ 0 _ rfl ho0 (by simp) a0 m c0 _ rfl HS0.out (by unfold maxLen; omega) (by omega) ?_)
  intro A1 c1 wa ho1 k1 _
  (try simp only [Nat.zero_add, List.nil_append] at ho1)
  (try simp only [Nat.zero_add])
  have HGa : Hid (Grow W wa) := Keeps.trans ((Keeps.refl (fun _ => False) W).alloc (.cells #[] 5)) k1 (fun i hi h => by simp [Value.ownBlock] at h; omega)
  have HOa := Lib.hid ho1
  have hza := HGa.out.size
  clear ho1 k1 ho0 HS0
  go_wp2_with (at_builtin; refine wpList_app1 rfl (.tmp 16) (.tmp 17) 51 5 rfl Try.underlying51 Try.infoU8s rfl W.heap.size _ m _ rfl HOa.out hza rfl rfl (by unfold maxLen; omega) (by omega) ?_)
  intro g cap w1 ho1 k1 _
  have HO1 : Hid (w1.ownsRow W.heap.size 5 1 (.slice (some ⟨g, 0, none⟩) (m + 1) cap) (m + 1) ((x0 ++ [90]).map (Value.int .u8))) := by
    show World.ownsRow _ _ _ _ _ _ _
    simp only [List.map_append, List.append_assoc]
    exact ho1
  have HG1 := Lib.hid (grow_own HGa.out HOa.out (Nat.le_refl _) k1)
  have hrng : ∀ y ∈ x0 ++ [90], inKind .u8 y := fun y hy => by
    rcases List.mem_append.1 hy with h | h
    · exact HN0.out.rng y h
    · rw [List.mem_singleton.1 h]; exact mk_u8 (by decide) (by decide)
  have HNI : Hid (Nums .u8 w1 (some ⟨g, 0, none⟩) m cap x0) := by
    have h := (Nums.of_own HO1.out hrng).take m (by omega)
    rw [List.take_left' HM.out] at h
    exact h
  have hcapm : m ≤ cap := HNI.out.cap
  obtain ⟨i8, hi8, hz8, hs8, hb8⟩ := info_parts Try.infoU8s
  have HSL : Hid (∀ w : World, (Instr.slice 51 (.slice (some ⟨g, 0, none⟩) (m + 1) cap) none (some (.int .i64 m)) none).run Try.prog w = .ok (.slice (some ⟨g, 0, none⟩) m cap) w) := fun w => run_pre Try.underlying51 hi8 _ _ _ _ hcapm w
  clear ho1 k1 HGa HOa hi8 hs8 hz8 hb8 hza hrng
  obtain ⟨R, hR⟩ : ∃ R, R = splP x0 x1 := ⟨_, rfl⟩
  have HRE := Lib.hid hR.symm
  clear hR
  have hs1 := HSL.out w1
  go_wp2_with fail
  clear hs1
  have HP1 := Lib.hid (split_is w1 (some ⟨g, 0, none⟩) m cap x0 x1 HNI.out HMU.out HX1.out)
  rw [HRE.out] at HP1
  refine HP1.out.mono ?_
  rintro e w2 ⟨vl, Ll, rfl, hpl, hll, hg2⟩
  have HPL := Lib.hid hpl
  have HLL := Lib.hid hll
  have HG2 := Lib.hid hg2
  clear hpl hll hg2 HP1
  have hs1 := HSL.out w2
  go_wp2_with fail
  clear hs1
  have HP2 := Lib.hid (split_is w2 (some ⟨g, 0, none⟩) m cap x0 x1 (HNI.out.grow HG2.out) HMU.out HX1.out)
  rw [HRE.out] at HP2
  refine HP2.out.mono ?_
  rintro e w3 ⟨vm, Lm, rfl, hpm, hlm, hg3⟩
  have HPM := Lib.hid hpm
  have HLM := Lib.hid hlm
  have HG3 := Lib.hid hg3
  clear hpm hlm hg3 HP2
  go_wp2_with fail
  have HP3 := Lib.hid (rSplit_is w3 a0 m c0 x0 x1 (HN0.out.grow (Grow.trans _ _ _ HG1.out (Grow.trans _ _ _ HG2.out HG3.out))) HMU.out HX1.out)
  rw [HRE.out] at HP3
  have HYL := Lib.hid (splP_len x0 x1)
  have HYW := Lib.hid (splP_row x0 x1)
  rw [HM.out] at HYW
  rw [HRE.out] at HYL HYW
  clear HRE
  refine HP3.out.mono ?_
  rintro e w4 ⟨vr, Lr, rfl, hpr, hlr, hg4⟩
  have HPR := Lib.hid hpr
  have HLR := Lib.hid hlr
  have HG4 := Lib.hid hg4
  clear hpr hlr hg4 HP3
  have HGW : Hid (Grow W w4) := Grow.trans _ _ _ HG1.out (Grow.trans _ _ _ HG2.out (Grow.trans _ _ _ HG3.out HG4.out))
  have HLT : Hid (∀ t ∈ Ll, t.1 < w2.heap.size) := row_len HPL.out
  have HP4 : Hid (Parts w4 w1.heap.size vl Ll) := (HPL.out.grow HG3.out).grow HG4.out
  have HP5 : Hid (Parts w4 w2.heap.size vm Lm) := HPM.out.grow HG4.out
  have HSZ : Hid (w2.heap.size ≤ w3.heap.size) := HG3.out.size
  clear HPL HPM
  obtain ⟨er, yss⟩ := R
  obtain ⟨Al, cl, rfl⟩ := rowf_ci HP4.out.row
  obtain ⟨Am, cm, rfl⟩ := rowf_ci HP5.out.row
  obtain ⟨Ar, cr, rfl⟩ := rowf_ci HPR.out.row
  have el : Ll.length = yss.length := by have h := congrArg List.length HLL.out; simpa using h
  have em : Lm.length = yss.length := by have h := congrArg List.length HLM.out; simpa using h
  have e3 : Lr.length = yss.length := by have h := congrArg List.length HLR.out; simpa using h
  rw [el, em, e3]
  obtain ⟨K, hK⟩ : ∃ K, K = yss.length := ⟨_, rfl⟩
  rw [← hK] at el em e3 ⊢
  have HLen := Lib.hid (And.intro el (And.intro em (And.intro e3 hK)))
  clear el em e3 hK
  simp only
  have hKb : K ≤ 1024 := by rw [HLen.out.2.2.2]; exact HYL.out
  have hKi : (K : Int) ≤ 1024 := by omega
  have hcv := run_str_src (P := Try.prog) (w := w4) (xs := x0 ++ [90]) Try.underlying51 Try.underlying5 Try.underlying9 (src_own (owns_keep HO1.out (Grow.trans _ _ _ HG2.out (Grow.trans _ _ _ HG3.out HG4.out)) (fun _ _ h => h)) (fun u hu => by obtain ⟨y, _, rfl⟩ := List.mem_map.1 hu; rfl))
  have hcw := run_str_src (P := Try.prog) (w := w4) (xs := x0) Try.underlying51 Try.underlying5 Try.underlying9 (HN0.out.grow HGW.out).src
  have hsn := str_snoc x0
  have hss : (strOfNums x0).size = m := by rw [strOfNums_size]; exact HM.out
  generalize strOfNums (x0 ++ [90]) = Z1 at *
  generalize strOfNums x0 = Z0 at *
  have h0 : ((er : Int) != (er : Int)) = false := by simp
  have h1 : ((K : Int) != (K : Int)) = false := by simp
  go_wp2_with fail
  clear hcv hcw hsn hss
  go_loopw [12, 13] (fun vi _ wr => ∃ i : Nat, i ≤ K ∧ vi = .int .i64 i ∧ Hid (Keeps (fun k => ∃ t ∈ Ll.take i, t.1 = k) w4 wr)) (fun vi _ _ => K - (intOf vi).toNat)
  case atStart => exact ⟨0, Nat.zero_le _, rfl, Keeps.refl _ _⟩
  case round =>
    obtain ⟨i, hi, rfl, HK⟩ := hrel
    by_cases hiK : i < K
    · obtain ⟨gl, tl, rfl, hBl, hnl, hcl, htl, hml⟩ := HP4.out.at_ i (by rw [HLen.out.1]; exact hiK)
      obtain ⟨gm, tm, rfl, hBm, hnm, hcm, htm, hmm⟩ := HP5.out.at_ i (by rw [HLen.out.2.1]; exact hiK)
      obtain ⟨gr, tr, rfl, hBr, hnr, hcr, htr, hmr⟩ := HPR.out.at_ i (by rw [HLen.out.2.2.1]; exact hiK)
      obtain ⟨ys, hys⟩ : ∃ ys, ys = tl.2.2 := ⟨_, rfl⟩
      have hym : tm.2.2 = ys := by have h1 := rows_at HLL.out htl; have h2 := rows_at HLM.out htm; rw [h1] at h2; injection h2 with h2; rw [← h2, hys]
      have hyr : tr.2.2 = ys := by have h1 := rows_at HLL.out htl; have h2 := rows_at HLR.out htr; rw [h1] at h2; injection h2 with h2; rw [← h2, hys]
      have hup := up_lt HP4.out.up htl
      have hgl4 : gl < w4.heap.size := World.block_lt_of_cell? w4 _ hcl
      have hltl : tl.1 < w2.heap.size := HLT.out tl hml
      have hgm2 : w2.heap.size ≤ gm := hBm
      -- the rows and their bytes, in every world of the loop
      have hrl := HP4.out.each tl hml
      have hrm := HP5.out.each tm hmm
      have hrr := HPR.out.each tr hmr
      have hBtm : w2.heap.size ≤ tm.1 := own_ge hrm tm.1 rfl
      have hBtr : w3.heap.size ≤ tr.1 := own_ge hrr tr.1 rfl
      have hpl : pV tl = .slice (some ⟨tl.1, 0, none⟩) ys.length tl.2.1 := by unfold pV; rw [hys]
      have hpm : pV tm = .slice (some ⟨tm.1, 0, none⟩) ys.length tm.2.1 := by unfold pV; rw [hym]
      have hpr : pV tr = .slice (some ⟨tr.1, 0, none⟩) ys.length tr.2.1 := by unfold pV; rw [hyr]
      rw [hpl] at hcl hrl
      rw [hpm] at hcm hrm
      rw [hpr] at hcr hrr
      rw [← hys] at hrl
      rw [hym] at hrm
      rw [hyr] at hrr
      obtain ⟨bl, hbl⟩ : ∃ bl, bl = tl.1 := ⟨_, rfl⟩
      obtain ⟨bm, hbm⟩ : ∃ bm, bm = tm.1 := ⟨_, rfl⟩
      obtain ⟨br, hbr⟩ : ∃ br, br = tr.1 := ⟨_, rfl⟩
      obtain ⟨cL, hcL⟩ : ∃ cL, cL = tl.2.1 := ⟨_, rfl⟩
      obtain ⟨cM, hcM⟩ : ∃ cM, cM = tm.2.1 := ⟨_, rfl⟩
      obtain ⟨cR, hcR⟩ : ∃ cR, cR = tr.2.1 := ⟨_, rfl⟩
      rw [← hbl, ← hcL] at hcl hrl
      rw [← hbm, ← hcM] at hcm hrm
      rw [← hbr, ← hcR] at hcr hrr
      have HCL := Lib.hid hcl
      have HCM := Lib.hid hcm
      have HCR := Lib.hid hcr
      have HRL := Lib.hid hrl
      have HRM := Lib.hid hrm
      have HRR := Lib.hid hrr
      have HSl : Hid (∀ k, (∃ t ∈ Ll.take i, t.1 = k) → k < bl ∧ k ≠ gl ∧ k < w2.heap.size) := fun k hk => by
        obtain ⟨t, ht, rfl⟩ := hk
        exact ⟨by rw [hbl]; exact hup t ht, hnl t (List.mem_of_mem_take ht), HLT.out t (List.mem_of_mem_take ht)⟩
      have HBD : Hid (bl < w2.heap.size ∧ w2.heap.size ≤ gm ∧ w2.heap.size ≤ gr ∧ w2.heap.size ≤ bm ∧ w2.heap.size ≤ br ∧ bl ≠ gl) := ⟨by rw [hbl]; exact hltl, hBm, Nat.le_trans HSZ.out hBr, by rw [hbm]; exact hBtm, by rw [hbr]; exact Nat.le_trans HSZ.out hBtr, by rw [hbl]; exact hnl tl hml⟩
      have HYR : Hid (∀ u ∈ ys.map (Value.int .u8), u.oneCell' = true) := fun u hu => by obtain ⟨y, _, rfl⟩ := List.mem_map.1 hu; rfl
      have HYI : Hid (∀ y ∈ ys, inKind .u8 y) := by intro y hy; exact HP4.out.rng tl hml y (by rw [← hys]; exact hy)
      have HTK : Hid (∀ k, (∃ t ∈ Ll.take (i + 1), t.1 = k) ↔ ((∃ t ∈ Ll.take i, t.1 = k) ∨ k = bl)) := fun k => by
        rw [List.take_add_one, htl]
        simp only [List.mem_append, Option.toList_some, List.mem_singleton]
        constructor
        · rintro ⟨t, ht | rfl, rfl⟩
          · exact .inl ⟨t, ht, rfl⟩
          · exact .inr hbl.symm
        · rintro (⟨t, ht, rfl⟩ | rfl)
          · exact ⟨t, .inl ht, rfl⟩
          · exact ⟨tl, .inr rfl, hbl.symm⟩
      obtain ⟨ly, hly⟩ : ∃ ly, ly = ys.length := ⟨_, rfl⟩
      have HLY : Hid (ly = ys.length) := hly
      have HLY2 : Hid (ly ≤ 24 + 1048576) := by
        show _ ≤ _
        have h9 := HYW.out tl.2.2 (by rw [← HLL.out]; exact List.mem_map_of_mem hml)
        rw [hly, hys]
        have := HMU.out
        omega
      rw [← hly] at hcl hcm hcr HCL HCM HCR HRL HRM HRR
      have hiK' : (i : Int) < (K : Int) := by omega
      clear hBl hnl htl hml hBm hnm htm hmm hBr hnr htr hmr hys hym hyr hup hgl4 hltl hgm2 hrl hrm hrr hBtm hBtr hpl hpm hpr hbl hbm hbr hcL hcM hcR hly hcl hcm hcr
      have HL0 : Hid (∀ w7, Grow wr w7 → w7.cell? ⟨gl, i, none⟩ = some (.slice (some ⟨bl, 0, none⟩) ly cL)) := fun w7 q => ckp (ckp HCL.out HK.out (fun h => absurd rfl (HSl.out _ h).2.1)) q (fun h => h)
      have HR0 : Hid (∀ w7, Grow wr w7 → w7.cell? ⟨gr, i, none⟩ = some (.slice (some ⟨br, 0, none⟩) ly cR)) := fun w7 q => ckp (ckp HCR.out HK.out (fun h => by have h1 := (HSl.out _ h).2.2; have := HBD.out; simp only at h1; omega)) q (fun h => h)
      have HLS : Hid (∀ w7, Grow wr w7 → (convert 51 9 (.slice (some ⟨bl, 0, none⟩) ly cL)).run Try.prog w7 = .ok (.string (strOfNums ys)) w7) := fun w7 q => run_str_src Try.underlying51 Try.underlying5 Try.underlying9 (src_own (owns_keep (owns_keep HRL.out HK.out (fun k hk h => by have h1 := (HSl.out k h).1; have hk : bl = k := (by simpa [Value.ownBlock] using hk); omega)) q (fun _ _ h => h)) HYR.out)
      have HRS : Hid (∀ w7, Grow wr w7 → (convert 51 9 (.slice (some ⟨br, 0, none⟩) ly cR)).run Try.prog w7 = .ok (.string (strOfNums ys)) w7) := fun w7 q => run_str_src Try.underlying51 Try.underlying5 Try.underlying9 (src_own (owns_keep (owns_keep HRR.out HK.out (fun k hk h => by have h1 := (HSl.out k h).2.2; have hk : br = k := (by simpa [Value.ownBlock] using hk); have := HBD.out; omega)) q (fun _ _ h => h)) HYR.out)
      go_wp2_with fail
      refine wp_region_hold Grow Grow.refl Grow.trans [3, 4, 8, 9] [(0, [0, 1, 2, 5, 6, 7]), (1, [3]), (1, [4]), (1, [8]), (1, [9]), (0, [10])] [(0, [?o0, ?o1, ?o2, ?o5, ?o6, ?o7]), (1, [?o3]), (1, [?o4]), (1, [?o8]), (1, [?o9]), (0, [?o10])] [?o0, ?o1, ?o2, ?o3, ?o4, ?o5, ?o6, ?o7, ?o8, ?o9, ?o10] (by kernel_rfl) (by kernel_rfl) (by kernel_rfl) ?_
      have qd : Grow wr wr.drew := (Keeps.refl _ wr).drew
      have HKd : Hid (Keeps (fun k => ∃ t ∈ Ll.take i, t.1 = k) w4 wr.drew) := HK.out.drew
      have HL1 := Lib.hid (fun w7 q => HL0.out w7 (Grow.trans _ _ _ qd q))
      have HR1 := Lib.hid (fun w7 q => HR0.out w7 (Grow.trans _ _ _ qd q))
      have HL2 := Lib.hid (fun w7 q => HLS.out w7 (Grow.trans _ _ _ qd q))
      have HR2 := Lib.hid (fun w7 q => HRS.out w7 (Grow.trans _ _ _ qd q))
      clear HL0 HR0 HLS HRS HK qd
      generalize wr.drew = wd at *
      refine seg_calm ?_
      go_wp2_with fail
      refine seg_held (by kernel_rfl) (.slice (some ⟨bl, 0, none⟩) ly cL) (fun w7 hk7 => ?_) ?_
      · have c7 := HL1.out w7 hk7
        go_simp
      refine seg_held (by kernel_rfl) (.string (strOfNums ys)) (fun w7 hk7 => ?_) ?_
      · have c7 := HL2.out w7 hk7
        go_simp
      refine seg_held (by kernel_rfl) (.slice (some ⟨br, 0, none⟩) ly cR) (fun w7 hk7 => ?_) ?_
      · have c7 := HR1.out w7 hk7
        go_simp
      refine seg_held (by kernel_rfl) (.string (strOfNums ys)) (fun w7 hk7 => ?_) ?_
      · have c7 := HR2.out w7 hk7
        go_simp
      obtain ⟨Z, hZ⟩ : ∃ Z, Z = strOfNums ys := ⟨_, rfl⟩
      rw [← hZ]
      have HZ := Lib.hid hZ
      clear hZ
      refine seg_calm ?_
      go_wp2_with fail
      refine seg_end ⟨by kernel_rfl, ?_⟩
      go_wp2_with fail
      have HB0 : Hid (∃ cur, wd.heap[bl]? = some (.cells cur 5 (0, 0)) ∧ ∀ j, j < ly → ∃ x : Nat, x < 256 ∧ cur[j]? = some (.int .u8 (x : Nat))) := by
        have hrow := owns_keep HRL.out HKd.out (fun k hk h => by have h1 := (HSl.out k h).1; have hk : bl = k := (by simpa [Value.ownBlock] using hk); omega)
        have hnb := Nums.of_own hrow HYI.out
        rcases hrow.2 with ⟨e9, _⟩ | ⟨g9, cap9, cur9, e9, _, hh, _⟩
        · cases e9
        · injection e9 with e9 _ _
          injection e9 with e9
          injection e9 with e9 _
          subst e9
          refine ⟨cur9, hh, fun j hj => ?_⟩
          obtain ⟨b9, o9, e8, hc9⟩ := hnb.at_ (by omega)
          injection e8 with e8
          injection e8 with e8 e7
          subst e8
          subst e7
          have h1 := hc9 j hj
          rw [Nat.zero_add, blk_cell hh] at h1
          refine ⟨bytN ys j, (bytN_is hnb j).2, ?_⟩
          rw [h1, (bytN_is hnb j).1]
      have HK0 : Hid (Keeps (fun k => ∃ t ∈ Ll.take (i + 1), t.1 = k) w4 wd) := HKd.out.mono (fun k _ h => (HTK.out k).2 (.inl h))
      have HGL : Hid (∀ w7, Keeps (fun k => ∃ t ∈ Ll.take (i + 1), t.1 = k) w4 w7 → w7.cell? ⟨gl, i, none⟩ = some (.slice (some ⟨bl, 0, none⟩) ly cL)) := fun w7 q => ckp HCL.out q (fun h => by
        rcases (HTK.out _).1 h with h | h
        · exact (HSl.out _ h).2.1 rfl
        · exact HBD.out.2.2.2.2.2 h.symm)
      clear HL1 HL2 HR1 HR2 HKd
      have hlyb : ly ≤ 1048600 := by have := HLY2.out; omega
      have hlyi : (ly : Int) ≤ 1048600 := by omega
      go_loopw [13] (fun vk wr => ∃ k : Nat, k ≤ ly ∧ vk = .int .i64 k ∧ Hid (Keeps (fun k => ∃ t ∈ Ll.take (i + 1), t.1 = k) w4 wr) ∧ Hid (∃ cur, wr.heap[bl]? = some (.cells cur 5 (0, 0)) ∧ ∀ j, j < ly → ∃ x : Nat, x < 256 ∧ cur[j]? = some (.int .u8 (x : Nat)))) (fun vk _ => ly - (intOf vk).toNat)
      case atStart => exact ⟨0, Nat.zero_le _, rfl, HK0.out, HB0.out⟩
      case round =>
        clear HK0 HB0
        obtain ⟨k, hk, rfl, HKk, HBk⟩ := hrel
        have c13 := HGL.out _ HKk.out
        by_cases hkl : k < ly
        · have hkl' : (k : Int) < (ly : Int) := by omega
          go_wp2_with fail
          refine Hv.wp_region_hav2 Grow Grow (fun _ _ _ => True) hyG4 [3, 8, 11, 2, 7, 10, 13] [1014] [(0, [0, 1, 4, 5, 6, 9]), (1, [2]), (1, [3]), (1, [7]), (1, [8]), (1, [10]), (1, [11]), (0, [12]), (1, [13]), (4, [14])] [(0, 0, [?r0, ?r1, ?r4, ?r5, ?r6, ?r9]), (1, 2, [?r2]), (1, 3, [?r3]), (1, 7, [?r7]), (1, 8, [?r8]), (1, 10, [?r10]), (1, 11, [?r11]), (0, 12, [?r12]), (1, 13, [?r13]), (4, 14, [?r14])] [?r0, ?r1, ?r2, ?r3, ?r4, ?r5, ?r6, ?r7, ?r8, ?r9, ?r10, ?r11, ?r12, ?r13, ?r14] (by kernel_rfl) (by kernel_rfl) (by kernel_rfl) ?_
          have HKe : Hid (Keeps (fun k => ∃ t ∈ Ll.take (i + 1), t.1 = k) w4 wr.drew) := HKk.out.drew
          obtain ⟨cur, hcu, hcx⟩ := HBk.out
          have hcu' : wr.drew.heap[bl]? = some (.cells cur 5 (0, 0)) := hcu
          obtain ⟨x, hxb, hxc⟩ := hcx k hkl
          have HCX := Lib.hid hcx
          have HCU := Lib.hid hcu'
          have HXC := Lib.hid hxc
          have hxi : (x : Int) < 256 := by omega
          clear hcx hcu hcu' hxc c13 HKk HBk
          generalize wr.drew = we at *
          refine Hv.seg_calm ?_
          go_wp2_with fail
          refine Hv.seg_held (by kernel_rfl) (.pointer (some ⟨gl, i, none⟩)) (fun w7 hk7 => ?_) ?_
          · go_simp
          refine Hv.seg_held (by kernel_rfl) (.slice (some ⟨bl, 0, none⟩) ly cL) (fun w7 hk7 => ?_) ?_
          · have c7 := HGL.out w7 (Keeps.trans HKe.out hk7 fun _ _ h => h.elim)
            go_simp
          refine Hv.seg_held (by kernel_rfl) (.pointer (some ⟨gl, i, none⟩)) (fun w7 hk7 => ?_) ?_
          · go_simp
          refine Hv.seg_held (by kernel_rfl) (.slice (some ⟨bl, 0, none⟩) ly cL) (fun w7 hk7 => ?_) ?_
          · have c7 := HGL.out w7 (Keeps.trans HKe.out hk7 fun _ _ h => h.elim)
            go_simp
          refine Hv.seg_held (by kernel_rfl) (.pointer (some ⟨bl, k, none⟩)) (fun w7 hk7 => ?_) ?_
          · go_simp
          refine Hv.seg_held (by kernel_rfl) (.int .u8 (x : Nat)) (fun w7 hk7 => ?_) ?_
          · have c7 := blk_cell (block_keep HCU.out hk7 (fun h => h)) k
            rw [HXC.out] at c7
            go_simp
          refine Hv.seg_calm ?_
          go_wp2_with fail
          refine Hv.seg_held (by kernel_rfl) (.pointer (some ⟨bl, k, none⟩)) (fun w7 hk7 => ?_) ?_
          · go_simp
          have d1 := blk_cell HCU.out k
          have f1 := blk_frozen HCU.out k
          rw [HXC.out] at d1
          refine Hv.seg_last ?_
          go_wp2_with fail
          refine Hv.seg_end ⟨by kernel_rfl, ?_⟩
          go_wp2_with fail
          have hxn : ((x : Int) + 1) % 256 = (((x + 1) % 256 : Nat) : Int) := by omega
          rw [hxn]
          have hx9 : (x + 1) % 256 < 256 := by omega
          obtain ⟨x9, hx9e⟩ : ∃ x9, x9 = (x + 1) % 256 := ⟨_, rfl⟩
          rw [← hx9e] at hx9 ⊢
          have HX9 := Lib.hid hx9
          have hb9 := blk_set HCU.out k (.int .u8 (x9 : Nat))
          have HB9 := Lib.hid hb9
          have HK9 : Hid (Keeps (fun k => ∃ t ∈ Ll.take (i + 1), t.1 = k) w4 (we.setCell ⟨bl, k, none⟩ (.int .u8 (x9 : Nat)))) := HKe.out.setCell (p := ⟨bl, k, none⟩) (fun _ => (HTK.out bl).2 (.inr rfl)) _
          clear hxn hx9e hx9 hb9 d1 f1 hxi hxb
          go_roundw
          case rel =>
            refine ⟨k + 1, by omega, by go_num, HK9.out, _, HB9.out, fun j hj => ?_⟩
            by_cases hjk : j = k
            · have hkc : k < cur.size := by
                have h9 := HXC.out
                exact (Array.getElem?_eq_some_iff.1 h9).1
              exact ⟨x9, HX9.out, by rw [hjk, Array.getElem?_setIfInBounds_self_of_lt hkc]⟩
            · obtain ⟨y, hy, hyc⟩ := HCX.out j hj
              exact ⟨y, hy, by rw [Array.getElem?_setIfInBounds_ne (by omega)]; exact hyc⟩
          case measure => simp [intOf]; omega
        · have e9 : ly = k := by omega
          subst e9
          have HMc : Hid (∀ w7, Grow wr w7 → w7.cell? ⟨gm, i, none⟩ = some (.slice (some ⟨bm, 0, none⟩) ly cM)) := fun w7 q => ckp (ckp HCM.out HKk.out (fun h => by
            have h2 := HBD.out
            rcases (HTK.out _).1 h with h | h
            · have h1 := (HSl.out _ h).2.2; simp only at h1; omega
            · simp only at h; omega)) q (fun h => h)
          have HRc : Hid (∀ w7, Grow wr w7 → w7.cell? ⟨gr, i, none⟩ = some (.slice (some ⟨br, 0, none⟩) ly cR)) := fun w7 q => ckp (ckp HCR.out HKk.out (fun h => by
            have h2 := HBD.out
            rcases (HTK.out _).1 h with h | h
            · have h1 := (HSl.out _ h).2.2; simp only at h1; omega
            · simp only at h; omega)) q (fun h => h)
          have HMs : Hid (∀ w7, Grow wr w7 → (convert 51 9 (.slice (some ⟨bm, 0, none⟩) ly cM)).run Try.prog w7 = .ok (.string Z) w7) := fun w7 q => by
            rw [HZ.out]
            exact run_str_src Try.underlying51 Try.underlying5 Try.underlying9 (src_own (owns_keep (owns_keep HRM.out HKk.out (fun k hk h => by
              have h2 := HBD.out
              have hk : bm = k := (by simpa [Value.ownBlock] using hk)
              rcases (HTK.out _).1 h with h | h
              · have h1 := (HSl.out _ h).2.2; omega
              · omega)) q (fun _ _ h => h)) HYR.out)
          have HRs : Hid (∀ w7, Grow wr w7 → (convert 51 9 (.slice (some ⟨br, 0, none⟩) ly cR)).run Try.prog w7 = .ok (.string Z) w7) := fun w7 q => by
            rw [HZ.out]
            exact run_str_src Try.underlying51 Try.underlying5 Try.underlying9 (src_own (owns_keep (owns_keep HRR.out HKk.out (fun k hk h => by
              have h2 := HBD.out
              have hk : br = k := (by simpa [Value.ownBlock] using hk)
              rcases (HTK.out _).1 h with h | h
              · have h1 := (HSl.out _ h).2.2; omega
              · omega)) q (fun _ _ h => h)) HYR.out)
          clear HBk
          go_wp2_with fail
          refine wp_region_hold Grow Grow.refl Grow.trans [3, 4, 8, 9] [(0, [0, 1, 2, 5, 6, 7]), (1, [3]), (1, [4]), (1, [8]), (1, [9]), (0, [10])] [(0, [?s0, ?s1, ?s2, ?s5, ?s6, ?s7]), (1, [?s3]), (1, [?s4]), (1, [?s8]), (1, [?s9]), (0, [?s10])] [?s0, ?s1, ?s2, ?s3, ?s4, ?s5, ?s6, ?s7, ?s8, ?s9, ?s10] (by kernel_rfl) (by kernel_rfl) (by kernel_rfl) ?_
          have qd : Grow wr wr.drew := (Keeps.refl _ wr).drew
          have HKd : Hid (Keeps (fun k => ∃ t ∈ Ll.take (i + 1), t.1 = k) w4 wr.drew) := HKk.out.drew
          have HL1 := Lib.hid (fun w7 q => HMc.out w7 (Grow.trans _ _ _ qd q))
          have HR1 := Lib.hid (fun w7 q => HRc.out w7 (Grow.trans _ _ _ qd q))
          have HL2 := Lib.hid (fun w7 q => HMs.out w7 (Grow.trans _ _ _ qd q))
          have HR2 := Lib.hid (fun w7 q => HRs.out w7 (Grow.trans _ _ _ qd q))
          clear HMc HRc HMs HRs HKk qd c13
          generalize wr.drew = wf at *
          refine seg_calm ?_
          go_wp2_with fail
          refine seg_held (by kernel_rfl) (.slice (some ⟨bm, 0, none⟩) ly cM) (fun w7 hk7 => ?_) ?_
          · have c7 := HL1.out w7 hk7
            go_simp
          refine seg_held (by kernel_rfl) (.string Z) (fun w7 hk7 => ?_) ?_
          · have c7 := HL2.out w7 hk7
            go_simp
          refine seg_held (by kernel_rfl) (.slice (some ⟨br, 0, none⟩) ly cR) (fun w7 hk7 => ?_) ?_
          · have c7 := HR1.out w7 hk7
            go_simp
          refine seg_held (by kernel_rfl) (.string Z) (fun w7 hk7 => ?_) ?_
          · have c7 := HR2.out w7 hk7
            go_simp
          refine seg_calm ?_
          go_wp2_with fail
          refine seg_end ⟨by kernel_rfl, ?_⟩
          go_wp2_with fail
          go_roundw
          case rel => exact ⟨i + 1, by omega, by go_num, HKd.out⟩
          case measure => simp [intOf]; omega
    · obtain rfl : i = K := by omega
      go_wp2_with fail
      refine (names21_is wr).mono ?_
      rintro x w5 ⟨rfl, rfl⟩
      go_wp2_with fail
      go_ret
      refine ⟨rfl, (Keeps.trans HGW.out HK.out (fun k hk h => ?_)).below (fun _ _ h => h) (Nat.le_refl _)⟩
      obtain ⟨t, ht, rfl⟩ := h
      have h1 := own_ge (HP4.out.each t (List.mem_of_mem_take ht)) t.1 rfl
      have h2 := HG1.out.size
      omega
end Go.Proofs.Ytoeapobpdfidkaa
