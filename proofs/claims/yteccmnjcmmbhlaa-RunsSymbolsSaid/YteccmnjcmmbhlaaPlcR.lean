/- runs.Places, the document's. -/
import Derived.Test.YteccmnjcmmbhlaaPlc
namespace Go.Proofs.Yteccmnjcmmbhlaa
open Go.RowKit
set_option linter.unusedVariables false
set_option linter.unusedSimpArgs false

set_option maxRecDepth 4000 in
set_option maxHeartbeats 4000000 in
theorem refPlaces_is (w : World) (A : Option Addr) (m c : Nat) (xs : List Int) (n q : Int) (h : Nums .i64 w A m c xs) (hn : inKind .i64 n) (hq : inKind .i64 q) (hm : m ≤ 1048576) :
    Calls Try.prog 19 #[.slice A m c, .int .i64 n, .int .i64 q] w fun e w' => ∃ A' c' k, e = .returned (.tuple #[.slice A' k c', .int .i64 (plR xs n q).2]) ∧ w'.ownsRow w.heap.size 3 1 (.slice A' k c') k ((plR xs n q).1.map (Value.int .i64)) ∧ Grow w w' := by
  have hn := inKind_i64 hn
  have hq := inKind_i64 hq
  have HL := Lib.hid h.len
  have hR : Hid (plR xs n q = if n < 1 ∨ 256 < n ∨ q < 0 then ([], 2) else plGo n q xs [] 0 0) := rfl
  have H := Lib.hid h
  generalize plR xs n q = R at *
  clear h
  by_cases h1 : n < 1
  · have hR2 : R = ([], 2) := by rw [hR.out, if_pos (.inl h1)]
    subst hR2
    go_enter Try.func19, Try.ntmps19
    go_wp2_with fail
    go_ret2
    exact ⟨none, 0, 0, rfl, own_nil _ _ _, Keeps.refl _ _⟩
  by_cases h2 : 256 < n
  · have hR2 : R = ([], 2) := by rw [hR.out, if_pos (.inr (.inl h2))]
    subst hR2
    go_enter Try.func19, Try.ntmps19
    go_wp2_with fail
    go_ret2
    exact ⟨none, 0, 0, rfl, own_nil _ _ _, Keeps.refl _ _⟩
  by_cases h3 : q < 0
  · have hR2 : R = ([], 2) := by rw [hR.out, if_pos (.inr (.inr h3))]
    subst hR2
    go_enter Try.func19, Try.ntmps19
    go_wp2_with fail
    go_ret2
    exact ⟨none, 0, 0, rfl, own_nil _ _ _, Keeps.refl _ _⟩
  have HR : Hid (plGo n q xs [] 0 0 = R) := by
    show _ = _
    rw [hR.out, if_neg (by omega)]
  clear hR
  have hn1 : 1 ≤ n := by omega
  have hn2 : n ≤ 256 := by omega
  have hq0 : 0 ≤ q := by omega
  clear h1 h2 h3
  go_enter Try.func19, Try.ntmps19
  go_wp2_with fail
  go_loopw [8, 9, 10, 11, 12, 13] (fun vo vi _ _ _ _ wr => ∃ (i k : Nat) (out : List Int), i ≤ m ∧ vi = .int .i64 i ∧ k ≤ 4194304 * i ∧ (k : Int) ≤ q ∧
      wr.ownsRow w.heap.size 3 1 vo k (out.map (Value.int .i64)) ∧ Grow w wr ∧ Hid (plGo n q (xs.drop i) out 0 0 = R)) (fun _ vi _ _ _ _ _ => m - (intOf vi).toNat)
  case atStart => exact ⟨0, 0, [], by omega, rfl, by omega, by omega, own_nil _ _ _, Keeps.refl _ _, HR.out⟩
  case round =>
    obtain ⟨i, k, out, hi, rfl, hk, hkq, ho, hg, he⟩ := hrel
    obtain ⟨A1, c1, rfl⟩ := row_form ho
    have HO := Lib.hid ho
    have HG := Lib.hid hg
    have hsz : w.heap.size ≤ wr.heap.size := hg.size
    have H1 := Lib.hid (H.out.grow hg)
    have hlen : Hid (out.length = k) := by have h9 := ho.1; simp at h9; exact h9
    clear ho hg
    go_wp2_with fail
    obtain ⟨wo, rfl⟩ : ∃ wo : World, wo = wr := ⟨_, rfl⟩
    go_loopw [9, 10, 11] (fun vi vr vd wr => ∃ (j run deep : Nat), wo = wr ∧ i ≤ j ∧ j ≤ m ∧ vi = .int .i64 j ∧ vr = .int .i64 run ∧ vd = .int .i64 deep ∧ deep ≤ 20 ∧ Hid (run < 2 ^ (deep + 1)) ∧ Hid (plGo n q (xs.drop j) out run deep = R)) (fun vi _ _ _ => m - (intOf vi).toNat)
    case atStart => exact ⟨i, 0, 0, rfl, by omega, by omega, rfl, rfl, rfl, by omega, by show _ < _; decide, he.out⟩
    case round =>
      clear he
      obtain ⟨j, run, deep, rfl, hij, hj, rfl, rfl, rfl, hd, hrun, he⟩ := hrel
      have hrun2 := run_top hrun.out hd
      by_cases hjm : j < m
      · have he2 := he.out
        rw [drop_in xs j (by rw [HL.out]; exact hjm), plGo, hlen.out] at he2
        have HT : Hid (xs.drop (j + 1) = [] ↔ ¬ j + 1 < m) := by
          show _ ↔ _
          rw [List.drop_eq_nil_iff, HL.out]
          omega
        obtain ⟨tl, htl⟩ : ∃ tl, tl = xs.drop (j + 1) := ⟨_, rfl⟩
        rw [← htl] at he2 HT
        have HTL := Lib.hid htl
        have HE := Lib.hid he2
        clear he he2 htl
        have hxi := H1.out.int j
        obtain ⟨ba, oa, rfl, hcell⟩ := H1.out.at_ (by omega)
        have hc := hcell j hjm
        clear hcell
        generalize hse : xs.getD j 0 = s at *
        have HSE := Lib.hid hse
        clear hse
        by_cases hs0 : s = 0
        · subst hs0
          by_cases hdd : deep = 20
          · subst hdd
            have h5 := HE.out
            rw [if_pos (.inl rfl), if_pos rfl] at h5
            subst h5
            clear HE
            go_wp2_with fail
            go_ret2
            exact ⟨none, 0, 0, rfl, own_nil _ _ _, HG.out⟩
          · have h5 := HE.out
            rw [if_pos (.inl rfl), if_neg hdd] at h5
            have HE2 := Lib.hid h5
            have HP := Lib.hid (run_in hrun.out (by omega) 1 (by omega))
            have HPT := Lib.hid (pow_top (show deep < 20 by omega))
            clear HE h5
            go_wp2_with fail
            go_roundw
            case rel => exact ⟨j + 1, run + 1 * 2 ^ deep, deep + 1, trivial, by omega, by omega, by go_num, by rw [sum1 run deep hrun2 HPT.out.2], by go_num, by omega, HP.out, by show _ = _; rw [← HTL.out]; exact HE2.out⟩
            case measure => exact meas hjm
        by_cases hs1 : s = 1
        · subst hs1
          by_cases hdd : deep = 20
          · subst hdd
            have h5 := HE.out
            rw [if_pos (.inr rfl), if_pos rfl] at h5
            subst h5
            clear HE
            go_wp2_with fail
            go_ret2
            exact ⟨none, 0, 0, rfl, own_nil _ _ _, HG.out⟩
          · have h5 := HE.out
            rw [if_pos (.inr rfl), if_neg hdd] at h5
            have HE2 := Lib.hid h5
            have HP := Lib.hid (run_in hrun.out (by omega) 2 (by omega))
            have HPT := Lib.hid (pow_top (show deep < 20 by omega))
            clear HE h5
            go_wp2_with fail
            go_roundw
            case rel => exact ⟨j + 1, run + 2 * 2 ^ deep, deep + 1, trivial, by omega, by omega, by go_num, by rw [sum2 run deep hrun2 HPT.out.2], by go_num, by omega, HP.out, by show _ = _; rw [← HTL.out]; exact HE2.out⟩
            case measure => exact meas hjm
        have h5 := HE.out
        rw [if_neg (show ¬ (s = 0 ∨ s = 1) by omega)] at h5
        have hb0 : (s == (0 : Int)) = false := by simpa using hs0
        have hb1 : (s == (1 : Int)) = false := by simpa using hs1
        clear HE
        by_cases hbig : q - k < run
        · rw [if_pos hbig] at h5
          subst h5
          go_wp2_with fail
          go_ret2
          exact ⟨none, 0, 0, rfl, own_nil _ _ _, HG.out⟩
        rw [if_neg hbig] at h5
        have HE := Lib.hid h5
        have hfit : (k : Int) + run ≤ q := by omega
        clear h5 hbig
        go_wp2_with fail
        try simp only [hb0, hb1, Bool.false_or, Bool.or_false, Bool.and_false, Bool.and_true]
        clear hb0 hb1 hs0 hs1 hc
        go_loopw [8, 12] (fun vo vz wr => ∃ (z : Nat) (ys : List Int), vz = .int .i64 z ∧ z ≤ run ∧ wr.ownsRow w.heap.size 3 1 vo (k + z) (ys.map (Value.int .i64)) ∧ Grow w wr ∧ Hid (ys = out ++ List.replicate z 0)) (fun _ vz _ => run - (intOf vz).toNat)
        case atStart => exact ⟨0, out, rfl, by omega, HO.out, HG.out, by show _ = _; simp⟩
        case round =>
          obtain ⟨z, ys, rfl, hz, ho2, hg2, hys⟩ := hrel
          obtain ⟨A2, c2, rfl⟩ := row_form ho2
          have HO2 := Lib.hid ho2
          have HG2 := Lib.hid hg2
          have hsz2 : w.heap.size ≤ wr.heap.size := hg2.size
          clear ho2 hg2
          by_cases hzr : z < run
          · go_wp2_with (at_builtin; refine wpList_app1 rfl (.tmp 69) (.tmp 70) 28 3 rfl Try.underlying28 Try.infoI64 rfl w.heap.size _ (k + z) _ rfl HO2.out hsz2 rfl rfl (by unfold maxLen; omega) (by omega) ?_)
            intro g cap w2 ho3 hk3 hm3
            have HO3 : Hid (w2.ownsRow w.heap.size 3 1 (.slice (some ⟨g, 0, none⟩) (k + (z + 1)) cap) (k + (z + 1)) ((ys ++ [0]).map (Value.int .i64))) := by
              show World.ownsRow _ _ _ _ _ _ _
              simp only [List.map_append, List.append_assoc]
              exact ho3
            have HG3 := Lib.hid (grow_own HG2.out HO2.out (Nat.le_refl _) hk3)
            clear ho3 hk3 hm3
            go_wp2_with fail
            go_roundw
            case rel => exact ⟨z + 1, _, by go_num, by omega, HO3.out, HG3.out, by show _ = _; rw [hys.out, List.replicate_succ', List.append_assoc]⟩
            case measure => exact meas hzr
          · obtain rfl : run = z := by omega
            have hy2 := hys.out
            subst hy2
            clear hys hz hzr
            have hc := (H.out.grow HG2.out).cell j hjm
            rw [HSE.out] at hc
            have h5 := HE.out
            clear HE
            by_cases hneg : s < 0
            · rw [if_pos (.inl hneg)] at h5
              subst h5
              go_wp2_with fail
              go_ret2
              exact ⟨none, 0, 0, rfl, own_nil _ _ _, HG2.out⟩
            by_cases hfar : n + 1 < s
            · rw [if_pos (.inr hfar)] at h5
              subst h5
              go_wp2_with fail
              go_ret2
              exact ⟨none, 0, 0, rfl, own_nil _ _ _, HG2.out⟩
            rw [if_neg (show ¬ (s < 0 ∨ n + 1 < s) by omega)] at h5
            by_cases hend : s = n + 1
            · subst hend
              rw [if_pos rfl] at h5
              by_cases hl : j + 1 < m
              · rw [if_neg (fun h => (HT.out.1 h) hl)] at h5
                subst h5
                go_wp2_with fail
                go_ret2
                exact ⟨none, 0, 0, rfl, own_nil _ _ _, HG2.out⟩
              · rw [if_pos (HT.out.2 hl)] at h5
                have HR2 := Lib.hid h5
                clear h5
                go_wp2_with fail
                go_ret2
                rw [← HR2.out]
                exact ⟨A2, c2, k + run, rfl, HO2.out, HG2.out⟩
            rw [if_neg hend] at h5
            by_cases hfull : (k : Int) + run = q
            · rw [if_pos hfull] at h5
              subst h5
              go_wp2_with fail
              go_ret2
              exact ⟨none, 0, 0, rfl, own_nil _ _ _, HG2.out⟩
            rw [if_neg hfull] at h5
            have HE2 := Lib.hid h5
            clear h5
            go_wp2_with (at_builtin; refine wpList_app1 rfl (.tmp 98) (.tmp 101) 28 3 rfl Try.underlying28 Try.infoI64 rfl w.heap.size _ (k + run) _ rfl HO2.out hsz2 rfl rfl (by unfold maxLen; omega) (by omega) ?_)
            intro g cap w2 ho3 hk3 hm3
            have HO3 : Hid (w2.ownsRow w.heap.size 3 1 (.slice (some ⟨g, 0, none⟩) (k + run + 1) cap) (k + run + 1) ((out ++ List.replicate run 0 ++ [s - 1]).map (Value.int .i64))) := by
              show World.ownsRow _ _ _ _ _ _ _
              simp only [List.map_append, List.append_assoc, List.map_replicate]
              exact ho3
            have HG3 := Lib.hid (grow_own HG2.out HO2.out (Nat.le_refl _) hk3)
            clear ho3 hk3 hm3
            go_wp2_with fail
            go_roundw
            case rel => exact ⟨j + 1, k + run + 1, _, by omega, by go_num, by omega, by omega, HO3.out, HG3.out, by show _ = _; rw [← HTL.out]; exact HE2.out⟩
            case measure => simp [intOf]; omega
      · obtain rfl : m = j := by omega
        have he2 := he.out
        rw [List.drop_eq_nil_of_le (by rw [HL.out]; omega), plGo, hlen.out] at he2
        clear he
        by_cases hbig : q - k < run
        · rw [if_pos hbig] at he2
          subst he2
          go_wp2_with fail
          go_ret2
          exact ⟨none, 0, 0, rfl, own_nil _ _ _, HG.out⟩
        · rw [if_neg hbig] at he2
          subst he2
          have hfit : (k : Int) + run ≤ q := by omega
          clear hbig
          go_wp2_with fail
          go_loopw [8, 12] (fun vo vz wr => ∃ (z : Nat) (ys : List Int), vz = .int .i64 z ∧ z ≤ run ∧ wr.ownsRow w.heap.size 3 1 vo (k + z) (ys.map (Value.int .i64)) ∧ Grow w wr ∧ Hid (ys = out ++ List.replicate z 0)) (fun _ vz _ => run - (intOf vz).toNat)
          case atStart => exact ⟨0, out, rfl, by omega, HO.out, HG.out, by show _ = _; simp⟩
          case round =>
            obtain ⟨z, ys, rfl, hz, ho2, hg2, hys⟩ := hrel
            obtain ⟨A2, c2, rfl⟩ := row_form ho2
            have HO2 := Lib.hid ho2
            have HG2 := Lib.hid hg2
            have hsz2 : w.heap.size ≤ wr.heap.size := hg2.size
            clear ho2 hg2
            by_cases hzr : z < run
            · go_wp2_with (at_builtin; refine wpList_app1 rfl (.tmp 69) (.tmp 70) 28 3 rfl Try.underlying28 Try.infoI64 rfl w.heap.size _ (k + z) _ rfl HO2.out hsz2 rfl rfl (by unfold maxLen; omega) (by omega) ?_)
              intro g cap w2 ho3 hk3 hm3
              have HO3 : Hid (w2.ownsRow w.heap.size 3 1 (.slice (some ⟨g, 0, none⟩) (k + (z + 1)) cap) (k + (z + 1)) ((ys ++ [0]).map (Value.int .i64))) := by
                show World.ownsRow _ _ _ _ _ _ _
                simp only [List.map_append, List.append_assoc]
                exact ho3
              have HG3 := Lib.hid (grow_own HG2.out HO2.out (Nat.le_refl _) hk3)
              clear ho3 hk3 hm3
              go_wp2_with fail
              go_roundw
              case rel => exact ⟨z + 1, _, by go_num, by omega, HO3.out, HG3.out, by show _ = _; rw [hys.out, List.replicate_succ', List.append_assoc]⟩
              case measure => exact meas hzr
            · obtain rfl : run = z := by omega
              have hy2 := hys.out
              subst hy2
              clear hys hz hzr
              go_wp2_with fail
              go_ret2
              exact ⟨none, 0, 0, rfl, own_nil _ _ _, HG2.out⟩
end Go.Proofs.Yteccmnjcmmbhlaa
