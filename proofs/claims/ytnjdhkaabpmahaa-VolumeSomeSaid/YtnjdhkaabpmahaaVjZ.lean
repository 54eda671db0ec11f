/- The walk of hamperlaw21.VolumeSome. -/
import Derived.Test.YtnjdhkaabpmahaaVjY
namespace Go.Proofs.Ytnjdhkaabpmahaa
open Go.RowKit
set_option linter.unusedVariables false
set_option linter.unusedSimpArgs false

set_option maxRecDepth 8000 in
set_option maxHeartbeats 8000000 in
theorem walkVolumeSome (W : World) (a0 : Option Addr) (c0 : Nat) (x0 : List (Int)) (_h0 : Sh.Rd W (.sl 1 (.int .u8)) [.slice a0 x0.length c0] x0) (x1 : Int) (_h1 : (Lit.int .i64 x1).wf = true) (a2 : Option Addr) (c2 : Nat) (x2 : List (Bool)) (_h2 : Sh.Rd W (.sl 1 .bool) [.slice a2 x2.length c2] x2) (_hk : Sh.bulk (.sl 1 (.int .u8)) x0 + Sh.bulk (.int .i64) x1 + Sh.bulk (.sl 1 .bool) x2 ≤ 1048576) :
    Calls Try.prog 5 #[.slice a0 x0.length c0, .int .i64 x1, .slice a2 x2.length c2] W fun e w' => e = .returned (.bool true) ∧ Below W.heap.size W w' := by
  have hbk : x0.length + x2.length ≤ 1048576 := by
    have h : ((List.map (fun _ => 1) x0).sum + 1) + 1 + ((List.map (fun _ => 1) x2).sum + 1) ≤ 1048576 := _hk
    have h1 := sum1 x0
    have h2 : (List.map (fun _ => 1) x2).sum = x2.length := by clear h _hk _h2; induction x2 with | nil => rfl | cons a r ih => simp only [List.map_cons, List.sum_cons, List.length_cons, ih]; omega
    omega
  have HB2 := Lib.hid (bools_of_rd _h2)
  clear _h2
  obtain ⟨k2, hk2⟩ : ∃ k2, k2 = x2.length := ⟨_, rfl⟩
  rw [← hk2]
  have hk2i : (k2 : Int) ≤ 1048576 := by omega
  have HK2 := Lib.hid hk2
  clear hk2
  obtain ⟨hN0, hcb⟩ := Nums.of_rd _h0
  have hx1 := inKind_wf _h1
  generalize hm : x0.length = m at *
  have hmu : m ≤ 1048576 := by
    have h := hbk
    omega
  have HX1 := Lib.hid hx1
  have HN0 := Lib.hid hN0
  have HM := Lib.hid (And.intro hm hmu)
  have hmi : (m : Int) ≤ 1048576 := by omega
  obtain ⟨R, hR⟩ : ∃ R, R = splP x0 x1 := ⟨_, rfl⟩
  have HP1 := Lib.hid (split_is W a0 m c0 x0 x1 hN0 hmu hx1)
  rw [← hR] at HP1
  have HRE := Lib.hid hR
  have HRC : Hid (R.1 ≤ 3) := by show R.1 ≤ 3; rw [hR]; exact splP_code _ _
  clear hN0 hx1 hm hcb hmu hR _h0 _h1 _hk hbk
  go_enter Try.func5, Try.ntmps5
  go_wp2_with fail
  refine HP1.out.mono ?_
  rintro e w1 ⟨vl, Ll, rfl, hpl, hll, hg1⟩
  have HPL := Lib.hid hpl
  have HLL := Lib.hid hll
  have HG1 := Lib.hid hg1
  clear hpl hll hg1 HP1
  have hm := run_mark (P := Try.prog) (w1.alloc (.cells #[.int .u8 97, .int .u8 98, .int .u8 99] 5)) 24 5 #[.int .u8 97, .int .u8 98, .int .u8 99] (0, 0) 3 3 w1.heap.size Try.underlying24 Try.underlying5 (heap_alloc_new w1 _)
  have hlit : Lit8 w1.heap.size 5 [97, 98, 99] (.slice (some ⟨w1.heap.size, 0, none⟩) 3 3) (w1.alloc (.cells #[.int .u8 97, .int .u8 98, .int .u8 99] 5)) := Lit8.new w1.heap.size _ [97, 98, 99] w1 (Nat.le_refl _)
  have q4 : Mark w1.heap.size (w1.alloc (.cells #[.int .u8 97, .int .u8 98, .int .u8 99] 5)) ((w1.alloc (.cells #[.int .u8 97, .int .u8 98, .int .u8 99] 5)).freeze ⟨w1.heap.size, 3, none⟩ 1) := (Mark.refl _).freeze (p := ⟨w1.heap.size, 3, none⟩) (Nat.le_refl _) 1
  have HNL := Lib.hid (lit3_nums (hlit.mark q4))
  have HGx : Hid (Grow w1 ((w1.alloc (.cells #[.int .u8 97, .int .u8 98, .int .u8 99] 5)).freeze ⟨w1.heap.size, 3, none⟩ 1)) := grow_of_below (((Mark.refl w1).alloc _).trans q4).below
  clear hlit q4
  go_wp2_with fail
  clear hm
  generalize (w1.alloc (.cells #[.int .u8 97, .int .u8 98, .int .u8 99] 5)).freeze ⟨w1.heap.size, 3, none⟩ 1 = w2 at *
  have HPP := Lib.hid (split_is w2 (some ⟨w1.heap.size, 0, none⟩) 3 3 [97, 98, 99] 26 HNL.out (by decide) (mk_i64 (by decide) (by decide)))
  refine HPP.out.mono ?_
  rintro e w5 ⟨vp, Lp, rfl, hpp, hlp, hg5⟩
  rw [probe_ok.1]
  have hlp2 : Lp.length = 2 := by have h := congrArg List.length hlp; rw [List.length_map, probe_ok.2] at h; exact h
  obtain ⟨Ap, cp, rfl⟩ := rowf_ci hpp.row
  rw [hlp2]
  have HG15 : Hid (Grow w1 w5) := Grow.trans _ _ _ HGx.out hg5
  have HGW5 : Hid (Grow W w5) := Grow.trans _ _ _ HG1.out HG15.out
  have HPL5 : Hid (Parts w5 W.heap.size vl Ll) := HPL.out.grow HG15.out
  clear hpp hlp hg5 hlp2 HPP HNL HGx HPL
  obtain ⟨er, yss⟩ := R
  obtain ⟨Al, cl, rfl⟩ := rowf_ci HPL5.out.row
  obtain ⟨K, hK⟩ : ∃ K, K = Ll.length := ⟨_, rfl⟩
  rw [← hK]
  have HK := Lib.hid hK
  clear hK
  have heri : (er : Int) ≤ 3 := by have : er ≤ 3 := HRC.out; omega
  by_cases her : er = 0
  rotate_left
  · have hK0 : K = 0 := by
      have h1 : yss = [] := by
        have h9 := splP_bad (xs := x0) (size := x1) (by rw [← HRE.out]; exact her)
        rw [← HRE.out] at h9
        exact h9
      have h2 := congrArg List.length HLL.out
      rw [List.length_map, h1] at h2
      rw [HK.out]; simpa using h2
    have e1 : ((er : Int) == 0) = false := by simp; omega
    have e2 : ¬ (er : Int) = 0 := by omega
    have e3 : ((er : Int) != 0) = true := by simp; omega
    subst hK0
    clear her
    go_wp2_with fail
    go_ret
    exact ⟨rfl, HGW5.out.below (fun _ _ h => h) (Nat.le_refl _)⟩
  · subst her
    obtain ⟨h1, h2, h3, h4⟩ := splP_good (xs := x0) (size := x1) (by rw [← HRE.out])
    rw [← HRE.out] at h4
    simp only at h4
    obtain ⟨sz, hsz⟩ : ∃ sz, sz = (x1 - 24).toNat := ⟨_, rfl⟩
    rw [← hsz] at h1 h2 h3 h4
    have hKc : K = cntP x0.length sz := by
      have h5 := congrArg List.length HLL.out
      simp only at h5
      rw [List.length_map, h4, List.length_map, List.length_range] at h5
      rw [HK.out]; exact h5
    rw [← hKc] at h2 h3 h4
    have HSZ := Lib.hid (And.intro h1 (And.intro h2 (And.intro h3 (And.intro h4 hKc))))
    have HVK : Hid (∀ k, k < K → (Ll.getD k (0, 0, [])).2.2 = volP x0 sz K k) := fun k hk => by
      have h5 := congrArg (fun l : List (List Int) => l[k]?) HLL.out
      simp only at h5
      rw [h4, List.getElem?_map, List.getElem?_map, List.getElem?_range hk, List.getElem?_eq_getElem (by rw [← HK.out]; exact hk)] at h5
      injection h5 with h5
      rw [List.getD_eq_getElem?_getD, List.getElem?_eq_getElem (by rw [← HK.out]; exact hk)]
      exact h5
    have HSUB : Hid (∀ I : List Nat, (∀ i ∈ I, i < K) → I.Nodup → SubV x0 sz K I) := fun I hi hn => ⟨h2, by rw [HM.out.1]; exact HM.out.2, HN0.out.rng, hi, hn⟩
    have hKi : (K : Int) ≤ 1024 := by omega
    have hKi1 : (1 : Int) ≤ (K : Int) := by omega
    have hrow5 := HPL5.out.row
    rw [← HK.out] at hrow5
    have HR5 := Lib.hid hrow5
    obtain ⟨gl, el, hBl, hgl⟩ := own_addr hrow5 (by omega)
    subst el
    have HCL : Hid (∀ k, k < K → w5.cell? ⟨gl, k, none⟩ = some (pV (Ll.getD k (0, 0, [])))) := fun k hk => by
      have h9 := HR5.out.cellAt k (by omega)
      rw [h9, List.getElem?_map, List.getD_eq_getElem?_getD, List.getElem?_eq_getElem (by rw [← HK.out]; exact hk)]
      rfl
    clear h1 h2 h3 h4 hsz hKc hBl hgl hrow5
    obtain ⟨wh, hwh⟩ : ∃ wh : Nat → Bool, wh = fun k => decide (k < k2) && x2.getD k false := ⟨_, rfl⟩
    have HWH := Lib.hid hwh
    clear hwh
    go_wp2_with fail
    go_loopw [11, 12, 13] (fun vs vw vi wr => ∃ (i ns nw : Nat) (As : Option Addr) (cs : Nat) (Aw : Option Addr) (cw : Nat), i ≤ K ∧ vi = .int .i64 (i : Nat) ∧ vs = .slice As ns cs ∧ vw = .slice Aw nw cw ∧ ns ≤ i ∧ nw ≤ i ∧ Hid (ns = ((List.range i).filter fun k => !wh k).length) ∧ Hid (nw = ((List.range i).filter wh).length) ∧
      Hid (wr.ownsRow w5.heap.size 24 1 (.slice As ns cs) ns ((((List.range i).filter fun k => !wh k).map fun k => Ll.getD k (0, 0, [])).map pV)) ∧ Hid (wr.ownsRow w5.heap.size 3 1 (.slice Aw nw cw) nw (((List.range i).filter wh).map fun k => Value.int .i64 (k : Nat))) ∧ Hid (Grow w5 wr)) (fun _ _ vi _ => K - (intOf vi).toNat)
    case atStart => exact ⟨0, 0, 0, none, 0, none, 0, Nat.zero_le _, rfl, rfl, rfl, Nat.le_refl _, Nat.le_refl _, rfl, rfl, own_nil _ _ _, own_nil _ _ _, Keeps.refl _ _⟩
    case round =>
      obtain ⟨i, ns, nw, As, cs, Aw, cw, hi, rfl, rfl, rfl, hns, hnw, HNS, HNW, HS, HWW, HG⟩ := hrel
      by_cases hiK : i < K
      · have hiK' : (i : Int) < (K : Int) := by omega
        have hnsi : (ns : Int) ≤ 1024 := by omega
        have hnwi : (nw : Int) ≤ 1024 := by omega
        by_cases hi2 : i < k2
        · have f1 : decide ((i : Int) < (k2 : Int)) = true := decide_eq_true (by omega)
          have f2 : decide (i < k2) = true := decide_eq_true hi2
          have hi2' : (i : Int) < (k2 : Int) := by omega
          obtain ⟨b2, o2, e2, hc2⟩ := (HB2.out.grow (Grow.trans _ _ _ HGW5.out HG.out)) i (by rw [← HK2.out]; exact hi2)
          subst e2
          have HWI : Hid (wh i = x2.getD i false) := by show wh i = _; rw [HWH.out]; simp [hi2]
          obtain ⟨bv, hbv⟩ : ∃ bv, bv = x2.getD i false := ⟨_, rfl⟩
          rw [← hbv] at hc2 HWI
          clear hbv
          cases bv
          · go_upto_region 14 with fail
            clear hc2
            obtain ⟨t, ht⟩ : ∃ t : Part, t = Ll.getD i (0, 0, []) := ⟨_, rfl⟩
            have hci := ckp (HCL.out i hiK) HG.out (fun h => h)
            rw [← ht] at hci
            unfold pV at hci
            obtain ⟨t1, t2, ys⟩ := t
            simp only at hci
            obtain ⟨ly, hly⟩ : ∃ ly, ly = ys.length := ⟨_, rfl⟩
            rw [← hly] at hci
            have HT := Lib.hid (And.intro ht hly)
            obtain ⟨SL, hSL⟩ : ∃ SL, SL = (((List.range i).filter fun k => !wh k).map fun k => Ll.getD k (0, 0, [])).map pV := ⟨_, rfl⟩
            rw [← hSL] at HS
            have HSL := Lib.hid hSL
            clear hSL
            have hsz : w5.heap.size ≤ wr.heap.size := HG.out.size
            clear ht hly
            go_wp2_with (at_builtin; refine wpList_app1 rfl (.tmp 61) (.tmp 66) 22 24 rfl Try.underlying22 Try.infoSlV rfl w5.heap.size _ ns _ rfl HS.out hsz rfl rfl (by unfold maxLen; omega) (by omega) ?_)
            intro g7 cap7 w7 ho7 hk7 _
            have HG7 : Hid (Grow w5 w7) := grow_own HG.out HS.out (Nat.le_refl _) hk7
            have HW7 := Lib.hid (owns_keep HWW.out hk7 (far2 HWW.out HS.out (by decide)))
            have hfl : ((List.range (i + 1)).filter fun k => !wh k) = ((List.range i).filter fun k => !wh k) ++ [i] := by
              rw [List.range_succ, List.filter_append]; simp [HWI.out]
            have hfw : ((List.range (i + 1)).filter wh) = ((List.range i).filter wh) := by
              rw [List.range_succ, List.filter_append]; simp [HWI.out]
            have HS7 : Hid (w7.ownsRow w5.heap.size 24 1 (.slice (some ⟨g7, 0, none⟩) (ns + 1) cap7) (ns + 1) ((((List.range (i + 1)).filter fun k => !wh k).map fun k => Ll.getD k (0, 0, [])).map pV)) := by
              show World.ownsRow _ _ _ _ _ _ _
              rw [hfl, List.map_append, List.map_append, ← HSL.out]
              have e9 : pV (Ll.getD i (0, 0, [])) = .slice (some ⟨t1, 0, none⟩) ly t2 := by rw [← HT.out.1]; unfold pV; rw [HT.out.2]
              show w7.ownsRow _ _ _ _ _ (_ ++ [pV (Ll.getD i (0, 0, []))])
              rw [e9]
              exact ho7
            have HN7 : Hid (ns + 1 = ((List.range (i + 1)).filter fun k => !wh k).length) := by show _ = _; rw [hfl, List.length_append, ← HNS.out]; rfl
            rw [← hfw] at HNW HW7
            clear ho7 hk7 hfl hfw
            go_wp2_with fail
            go_roundw
            case rel => exact ⟨i + 1, ns + 1, nw, some ⟨g7, 0, none⟩, cap7, Aw, cw, by omega, by go_num, rfl, rfl, by omega, by omega, HN7.out, HNW.out, HS7.out, HW7.out, HG7.out⟩
            case measure => simp [intOf]; omega
          · go_upto_region 13 with fail
            clear hc2
            have hsz : w5.heap.size ≤ wr.heap.size := HG.out.size
            go_wp2_with (at_builtin; refine wpList_app1 rfl (.tmp 57) (.tmp 59) 30 3 rfl Try.underlying30 Try.infoVI rfl w5.heap.size _ nw _ rfl HWW.out hsz rfl rfl (by unfold maxLen; omega) (by omega) ?_)
            intro g7 cap7 w7 ho7 hk7 _
            have HG7 : Hid (Grow w5 w7) := grow_own HG.out HWW.out (Nat.le_refl _) hk7
            have HS7 := Lib.hid (owns_keep HS.out hk7 (far2 HS.out HWW.out (by decide)))
            have hfl : ((List.range (i + 1)).filter fun k => !wh k) = ((List.range i).filter fun k => !wh k) := by
              rw [List.range_succ, List.filter_append]; simp [HWI.out]
            have hfw : ((List.range (i + 1)).filter wh) = ((List.range i).filter wh) ++ [i] := by
              rw [List.range_succ, List.filter_append]; simp [HWI.out]
            have HW7 : Hid (w7.ownsRow w5.heap.size 3 1 (.slice (some ⟨g7, 0, none⟩) (nw + 1) cap7) (nw + 1) (((List.range (i + 1)).filter wh).map fun k => Value.int .i64 (k : Nat))) := by
              show World.ownsRow _ _ _ _ _ _ _
              rw [hfw, List.map_append]
              exact ho7
            have HN7 : Hid (nw + 1 = ((List.range (i + 1)).filter wh).length) := by show _ = _; rw [hfw, List.length_append, ← HNW.out]; rfl
            rw [← hfl] at HNS HS7
            clear ho7 hk7 hfl hfw
            go_wp2_with fail
            go_roundw
            case rel => exact ⟨i + 1, ns, nw + 1, As, cs, some ⟨g7, 0, none⟩, cap7, by omega, by go_num, rfl, rfl, by omega, by omega, HNS.out, HN7.out, HS7.out, HW7.out, HG7.out⟩
            case measure => simp [intOf]; omega
        · have f1 : decide ((i : Int) < (k2 : Int)) = false := decide_eq_false (by omega)
          have f2 : decide (i < k2) = false := decide_eq_false hi2
          have HWI : Hid (wh i = false) := by show wh i = _; rw [HWH.out]; simp [hi2]
          clear hi2
          go_upto_region 14 with fail
          obtain ⟨t, ht⟩ : ∃ t : Part, t = Ll.getD i (0, 0, []) := ⟨_, rfl⟩
          have hci := ckp (HCL.out i hiK) HG.out (fun h => h)
          rw [← ht] at hci
          unfold pV at hci
          obtain ⟨t1, t2, ys⟩ := t
          simp only at hci
          obtain ⟨ly, hly⟩ : ∃ ly, ly = ys.length := ⟨_, rfl⟩
          rw [← hly] at hci
          have HT := Lib.hid (And.intro ht hly)
          obtain ⟨SL, hSL⟩ : ∃ SL, SL = (((List.range i).filter fun k => !wh k).map fun k => Ll.getD k (0, 0, [])).map pV := ⟨_, rfl⟩
          rw [← hSL] at HS
          have HSL := Lib.hid hSL
          clear hSL
          have hsz : w5.heap.size ≤ wr.heap.size := HG.out.size
          clear ht hly
          go_wp2_with (at_builtin; refine wpList_app1 rfl (.tmp 61) (.tmp 66) 22 24 rfl Try.underlying22 Try.infoSlV rfl w5.heap.size _ ns _ rfl HS.out hsz rfl rfl (by unfold maxLen; omega) (by omega) ?_)
          intro g7 cap7 w7 ho7 hk7 _
          have HG7 : Hid (Grow w5 w7) := grow_own HG.out HS.out (Nat.le_refl _) hk7
          have HW7 := Lib.hid (owns_keep HWW.out hk7 (far2 HWW.out HS.out (by decide)))
          have hfl : ((List.range (i + 1)).filter fun k => !wh k) = ((List.range i).filter fun k => !wh k) ++ [i] := by
            rw [List.range_succ, List.filter_append]; simp [HWI.out]
          have hfw : ((List.range (i + 1)).filter wh) = ((List.range i).filter wh) := by
            rw [List.range_succ, List.filter_append]; simp [HWI.out]
          have HS7 : Hid (w7.ownsRow w5.heap.size 24 1 (.slice (some ⟨g7, 0, none⟩) (ns + 1) cap7) (ns + 1) ((((List.range (i + 1)).filter fun k => !wh k).map fun k => Ll.getD k (0, 0, [])).map pV)) := by
            show World.ownsRow _ _ _ _ _ _ _
            rw [hfl, List.map_append, List.map_append, ← HSL.out]
            have e9 : pV (Ll.getD i (0, 0, [])) = .slice (some ⟨t1, 0, none⟩) ly t2 := by rw [← HT.out.1]; unfold pV; rw [HT.out.2]
            show w7.ownsRow _ _ _ _ _ (_ ++ [pV (Ll.getD i (0, 0, []))])
            rw [e9]
            exact ho7
          have HN7 : Hid (ns + 1 = ((List.range (i + 1)).filter fun k => !wh k).length) := by show _ = _; rw [hfl, List.length_append, ← HNS.out]; rfl
          rw [← hfw] at HNW HW7
          clear ho7 hk7 hfl hfw
          go_wp2_with fail
          go_roundw
          case rel => exact ⟨i + 1, ns + 1, nw, some ⟨g7, 0, none⟩, cap7, Aw, cw, by omega, by go_num, rfl, rfl, by omega, by omega, HN7.out, HNW.out, HS7.out, HW7.out, HG7.out⟩
          case measure => simp [intOf]; omega
      · obtain rfl : i = K := by omega
        obtain ⟨I, hI⟩ : ∃ I, I = (List.range i).filter fun k => !wh k := ⟨_, rfl⟩
        obtain ⟨Wl, hWl⟩ : ∃ Wl, Wl = (List.range i).filter wh := ⟨_, rfl⟩
        rw [← hI] at HNS HS
        rw [← hWl] at HNW HWW
        have hSub : SubV x0 sz i I := HSUB.out I (fun k hk => by rw [hI] at hk; exact List.mem_range.1 (List.mem_filter.1 hk).1) (by rw [hI]; exact List.Pairwise.filter _ List.nodup_range)
        have hmap : (I.map fun k => Ll.getD k (0, 0, [])).map (fun t => t.2.2) = I.map (volP x0 sz i) := by
          rw [List.map_map]
          refine List.map_congr_left fun k hk => ?_
          exact HVK.out k (hSub.lt k hk)
        have htot := hSub.tot
        have hmem : ∀ t ∈ I.map (fun k => Ll.getD k (0, 0, [])), t ∈ Ll := fun t ht => by
          obtain ⟨k, hk, rfl⟩ := List.mem_map.1 ht
          have hkl : k < Ll.length := by have := hSub.lt k hk; rw [← HK.out]; exact this
          rw [List.getD_eq_getElem?_getD, List.getElem?_eq_getElem hkl]
          exact List.getElem_mem hkl
        have hRW := rowsOf (Ts := I.map fun k => Ll.getD k (0, 0, [])) HS.out (fun t ht => owns_keep (HPL5.out.each t (hmem t ht)) HG.out (fun _ _ h => h)) (fun t ht => HPL5.out.rng t (hmem t ht)) (by omega) (by rw [hmap]; exact htot.1)
        rw [hmap] at hRW
        have HRW := Lib.hid hRW
        have HI := Lib.hid (And.intro hSub (And.intro hI hWl))
        clear hSub hmap htot hmem hRW hI hWl
        go_wp2_with fail
        refine (lacks_is wr As ns cs _ HRW.out).mono ?_
        rintro x w6 ⟨An, mn, cn, rfl, hmn, hon, hg6⟩
        obtain ⟨Q, hQ⟩ : ∃ Q, Q = lacksP (I.map (volP x0 sz i)) := ⟨_, rfl⟩
        rw [← hQ] at hmn hon ⊢
        have HMN := Lib.hid (And.intro hQ hmn)
        have HON := Lib.hid hon
        have HG6 := Lib.hid hg6
        clear hQ hmn hon hg6
        go_wp2_with fail
        refine (join_v w6 As ns cs _ (HRW.out.grow HG6.out)).mono ?_
        rintro x w7 ⟨Ax, mx, cx, rfl, hmx, hox, hg7⟩
        obtain ⟨J, hJ⟩ : ∃ J, J = joinP (I.map (volP x0 sz i)) := ⟨_, rfl⟩
        rw [← hJ] at hmx hox ⊢
        have HMX := Lib.hid (And.intro hJ hmx)
        have HOX := Lib.hid hox
        have HG7 := Lib.hid hg7
        have HG57 : Hid (Grow w5 w7) := Grow.trans _ _ _ HG.out (Grow.trans _ _ _ HG6.out HG7.out)
        have HGW7 : Hid (Grow W w7) := Grow.trans _ _ _ HGW5.out HG57.out
        clear hJ hmx hox hg7
        by_cases hn0 : ns = 0
        · have hI0 : I = [] := List.eq_nil_of_length_eq_zero (by rw [← HNS.out]; exact hn0)
          have hQ2 : Q = (2, []) := by rw [HMN.out.1, hI0]; rfl
          have hJ2 : J = (2, []) := by rw [HMX.out.1, hI0]; exact joinP_bad (l := []) (by rw [scanE_nil]; decide)
          subst hn0
          subst hQ2
          subst hJ2
          have hmn0 : mn = 0 := HMN.out.2
          subst hmn0
          clear HMN HMX HNS HS HRW hI0
          go_wp2_with fail
          go_ret
          exact ⟨rfl, HGW7.out.below (fun _ _ h => h) (Nat.le_refl _)⟩
        · have hIn : I ≠ [] := fun e => hn0 (by rw [HNS.out, e]; rfl)
          have hWI : ((List.range i).filter fun k => !decide (k ∈ I)) = Wl := by
            rw [HI.out.2.2]
            refine List.filter_congr fun k hk => ?_
            rw [HI.out.2.1, Bool.eq_iff_iff]
            simp only [List.mem_filter, hk, true_and]
            cases wh k <;> simp
          have hQ2 : Q = (0, Wl) := by rw [HMN.out.1, HI.out.1.lacks hIn, hWI]
          subst hQ2
          have hmnw : mn = nw := by rw [HNW.out]; exact HMN.out.2
          subst hmnw
          have n1 : ((ns : Int) == 0) = false := by simp; omega
          have n2 : ¬ (ns : Int) = 0 := by omega
          have n3 : (ns == 0) = false := by simp; omega
          have hnwi : (mn : Int) ≤ 1024 := by omega
          have HON2 : Hid (w6.ownsRow wr.heap.size 3 1 (.slice An mn cn) mn (Wl.map fun k => Value.int .i64 (k : Nat))) := HON.out
          have HN0' := Lib.hid hIn
          have HWI2 := Lib.hid hWI
          clear hWI hIn hn0 HON
          go_wp2_with fail
          go_loopw [16] (fun vi wr' => ∃ (k : Nat), k ≤ mn ∧ vi = .int .i64 (k : Nat) ∧ Hid (Grow w7 wr')) (fun vi _ => mn - (intOf vi).toNat)
          case atStart => exact ⟨0, Nat.zero_le _, rfl, Keeps.refl _ _⟩
          case round =>
            obtain ⟨k, hk, rfl, HGk⟩ := hrel
            by_cases hkn : k < mn
            · have hkn' : (k : Int) < (mn : Int) := by omega
              have hrn := owns_keep (owns_keep HON2.out HG7.out (fun _ _ h => h)) HGk.out (fun _ _ h => h)
              have hrw := owns_keep (owns_keep (owns_keep HWW.out HG6.out (fun _ _ h => h)) HG7.out (fun _ _ h => h)) HGk.out (fun _ _ h => h)
              obtain ⟨v, hv⟩ : ∃ v : Nat, Wl[k]? = some v := ⟨_, List.getElem?_eq_getElem (by rw [← HNW.out]; exact hkn)⟩
              obtain ⟨gn, en, _, _⟩ := own_addr hrn (by omega)
              obtain ⟨gw, ew, _, _⟩ := own_addr hrw (by omega)
              subst en
              subst ew
              have hcn := hrn.cellAt k (by omega)
              have hcw := hrw.cellAt k (by omega)
              rw [List.getElem?_map, hv] at hcn hcw
              have hcn' : wr.cell? ⟨gn, k, none⟩ = some (.int .i64 (v : Nat)) := hcn
              have hcw' : wr.cell? ⟨gw, k, none⟩ = some (.int .i64 (v : Nat)) := hcw
              clear hrn hrw hv hcn hcw
              go_wp2_with fail
              go_quiet (fail)
              go_wp2_with fail
              have HG2 : Hid (Grow w7 (wr.drewN nq)) := HGk.out.drewN _
              go_roundw
              case rel => exact ⟨k + 1, by omega, by go_num, HG2.out⟩
              case measure => simp [intOf]; omega
            · obtain rfl : k = mn := by omega
              have HGWr : Hid (Grow W wr) := Grow.trans _ _ _ HGW7.out HGk.out
              by_cases hn9 : 0 < k
              · have hjs : J = (31, []) := by
                  obtain ⟨v, hv⟩ : ∃ v : Nat, v ∈ Wl := ⟨Wl[0]'(by rw [← HNW.out]; exact hn9), List.getElem_mem _⟩
                  rw [← HWI2.out] at hv
                  have h9 := List.mem_filter.1 hv
                  rw [HMX.out.1]
                  exact HI.out.1.joinSome HN0'.out (List.mem_range.1 h9.1) (by simpa using h9.2)
                subst hjs
                have hmx0 : mx = 0 := HMX.out.2
                subst hmx0
                have p1 : decide ((0 : Int) < (k : Int)) = true := decide_eq_true (by omega)
                have p2 : decide (0 < k) = true := decide_eq_true hn9
                clear HMX hn9
                go_wp2_with fail
                go_ret
                exact ⟨rfl, HGWr.out.below (fun _ _ h => h) (Nat.le_refl _)⟩
              · have hja : J = (0, x0) := by
                  have hw0 : Wl = [] := List.eq_nil_of_length_eq_zero (by rw [← HNW.out]; omega)
                  rw [HMX.out.1]
                  refine HI.out.1.joinAll HN0'.out HSZ.out.1 HSZ.out.2.2.2.2 fun q hq => Classical.byContradiction fun hn => ?_
                  have h9 : q ∈ Wl := by rw [← HWI2.out]; exact List.mem_filter.2 ⟨List.mem_range.2 hq, by simpa using hn⟩
                  rw [hw0] at h9
                  cases h9
                subst hja
                have hmxm : mx = m := by rw [← HM.out.1]; exact HMX.out.2
                subst hmxm
                obtain ⟨Z, hZ⟩ : ∃ Z, Z = strOfNums x0 := ⟨_, rfl⟩
                have hox : wr.ownsRow w6.heap.size 5 1 (.slice Ax mx cx) mx (x0.map (Value.int .u8)) := owns_keep HOX.out HGk.out (fun _ _ h => h)
                have hcx := run_str_src (P := Try.prog) (w := wr) (xs := x0) Try.underlying24 Try.underlying5 Try.underlying9 (own_src8 hox)
                have hcb := run_str_src (P := Try.prog) (w := wr) (xs := x0) Try.underlying24 Try.underlying5 Try.underlying9 (HN0.out.grow HGWr.out).src
                rw [← hZ] at hcx hcb
                have hz2 : (Z.toList == Z.toList) = true := by simp
                have p1 : decide ((0 : Int) < (k : Int)) = false := decide_eq_false (by omega)
                have p2 : decide (0 < k) = false := decide_eq_false hn9
                clear HMX hn9 hox hZ
                go_wp2_with fail
                go_ret
                exact ⟨by first | rfl | simp, HGWr.out.below (fun _ _ h => h) (Nat.le_refl _)⟩
end Go.Proofs.Ytnjdhkaabpmahaa
