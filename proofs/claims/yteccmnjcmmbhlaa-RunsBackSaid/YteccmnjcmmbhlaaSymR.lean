/- runs.Symbols, the document's. -/
import Derived.Test.YteccmnjcmmbhlaaSym
namespace Go.Proofs.Yteccmnjcmmbhlaa
open Go.RowKit
set_option linter.unusedVariables false
set_option linter.unusedSimpArgs false

theorem Nums.cell {k : IntKind} {w : World} {b o n c : Nat} {xs : List Int} (h : Nums k w (some ⟨b, o, none⟩) n c xs) (j : Nat) (hj : j < n) : w.cell? ⟨b, o + j, none⟩ = some (.int k (xs.getD j 0)) := by
  obtain ⟨b', o', e, hc⟩ := h.at_ (by omega)
  injection e with e
  injection e with e1 e2
  subst e1 e2
  exact hc j hj
theorem any_hit (ps : List Int) (p : Int → Bool) (i : Nat) (hi : i < ps.length) (h : p (ps.getD i 0) = true) : ps.any p = true := by
  cases e : ps.any p
  · have := any_in ps p e i hi
    rw [h] at this
    cases this
  · rfl
theorem any_all (ps : List Int) (p : Int → Bool) (h : ∀ j, j < ps.length → p (ps.getD j 0) = false) : ps.any p = false := by
  cases e : ps.any p
  · rfl
  · obtain ⟨x, hx, hp⟩ := List.any_eq_true.1 e
    obtain ⟨j, hj, rfl⟩ := List.getElem_of_mem hx
    have := h j hj
    simp [List.getD_eq_getElem?_getD, hj] at this
    rw [this] at hp
    cases hp

set_option maxRecDepth 4000 in
set_option maxHeartbeats 2000000 in
theorem refSymbols_is (w : World) (A : Option Addr) (m c : Nat) (ps : List Int) (n : Int) (h : Nums .i64 w A m c ps) (hn : inKind .i64 n) (hm : m ≤ 8796093022208) :
    Calls Try.prog 17 #[.slice A m c, .int .i64 n] w fun e w' => ∃ A' c' k, e = .returned (.tuple #[.slice A' k c', .int .i64 (symR ps n).2]) ∧ w'.ownsRow w.heap.size 3 1 (.slice A' k c') k ((symR ps n).1.map (Value.int .i64)) ∧ Grow w w' := by
  have hn := inKind_i64 hn
  have HL := Lib.hid h.len
  have hR : Hid (symR ps n = if n < 1 ∨ 256 < n ∨ ps.any (badP n) = true then ([], 2) else ((symGo ps [] 0).1 ++ shortL (symGo ps [] 0).2 ++ [n + 1], 0)) := rfl
  have H := Lib.hid h
  generalize symR ps n = R at *
  clear h
  by_cases h1 : n < 1
  · have hR2 : R = ([], 2) := by rw [hR.out, if_pos (.inl h1)]
    subst hR2
    go_enter Try.func17, Try.ntmps17
    go_wp2_with fail
    go_ret2
    exact ⟨none, 0, 0, rfl, own_nil _ _ _, Keeps.refl _ _⟩
  by_cases h2 : 256 < n
  · have hR2 : R = ([], 2) := by rw [hR.out, if_pos (.inr (.inl h2))]
    subst hR2
    go_enter Try.func17, Try.ntmps17
    go_wp2_with fail
    go_ret2
    exact ⟨none, 0, 0, rfl, own_nil _ _ _, Keeps.refl _ _⟩
  go_enter Try.func17, Try.ntmps17
  go_wp2_with fail
  go_loopw [6, 7, 8] (fun vo vr vi wr => ∃ (i run k : Nat) (out : List Int), vi = .int .i64 i ∧ vr = .int .i64 run ∧ k + run ≤ i ∧ wr.ownsRow w.heap.size 3 1 vo k (out.map (Value.int .i64)) ∧ Grow w wr ∧
      Hid ((i ≤ m ∧ symGo (ps.drop i) out run = symGo ps [] 0 ∧ ∀ j, j < i → badP n (ps.getD j 0) = false) ∨ (i = m + 1 ∧ R = (out ++ [n + 1], 0)))) (fun _ _ vi _ => m + 1 - (intOf vi).toNat)
  case atStart => exact ⟨0, 0, 0, [], rfl, rfl, by omega, own_nil _ _ _, Keeps.refl _ _, .inl ⟨by omega, rfl, fun j hj => by omega⟩⟩
  case round =>
    obtain ⟨i, run, k, out, rfl, rfl, hkr, ho, hg, he⟩ := hrel
    obtain ⟨A1, c1, rfl⟩ := row_form ho
    have HO := Lib.hid ho
    have HG := Lib.hid hg
    have hsz : w.heap.size ≤ wr.heap.size := hg.size
    have H1 := Lib.hid (H.out.grow hg)
    clear ho hg
    rcases he.out with ⟨him, heq, hb⟩ | ⟨him, hr⟩
    · have heq := Lib.hid heq
      have hb := Lib.hid hb
      clear he
      by_cases him2 : i < m
      · have Hd := Lib.hid (symGo_drop ps i (by rw [HL.out]; exact him2) out run)
        obtain ⟨ba, oa, rfl, hcell⟩ := H1.out.at_ (by omega)
        have hc := hcell i him2
        have hp := H1.out.int i
        clear hcell
        cases hbp : badP n (ps.getD i 0)
        case true =>
          have hR2 : R = ([], 2) := by rw [hR.out, if_pos (.inr (.inr (any_hit ps (badP n) i (by rw [HL.out]; exact him2) hbp)))]
          subst hR2
          have hbp := of_decide_eq_true hbp
          generalize ps.getD i 0 = p at *
          by_cases hp0 : p < 0
          · go_wp2_with fail
            go_ret2
            exact ⟨none, 0, 0, rfl, own_nil _ _ _, HG.out⟩
          · go_wp2_with fail
            go_ret2
            exact ⟨none, 0, 0, rfl, own_nil _ _ _, HG.out⟩
        case false =>
          have HB : Hid (∀ j, j < i + 1 → badP n (ps.getD j 0) = false) := fun j hj => by
            rcases Nat.lt_or_ge j i with h | h
            · exact hb.out j h
            · obtain rfl : j = i := by omega
              exact hbp
          have hbp := of_decide_eq_false hbp
          generalize hpe : ps.getD i 0 = p at *
          have HP := Lib.hid hpe
          clear hpe
          have hp0 : 0 ≤ p := by omega
          have hpn : p < n := by omega
          clear hbp
          by_cases hpz : p = 0
          · subst hpz
            have Hd2 := Hd.out
            rw [if_pos rfl] at Hd2
            clear Hd
            have HD := Lib.hid Hd2
            clear Hd2
            go_wp2_with fail
            go_roundw
            case rel => exact ⟨i + 1, run + 1, k, out, by go_num, by go_num, by omega, HO.out, HG.out, .inl ⟨by omega, by rw [← HD.out]; exact heq.out, HB.out⟩⟩
            case measure => simp [intOf]; omega
          · have Hd2 := Hd.out
            rw [if_neg hpz] at Hd2
            clear Hd
            have HD := Lib.hid Hd2
            clear Hd2
            go_wp2_with fail
            generalize (decide (p < 0) || decide (n ≤ p)) = q1 at *
            generalize decide (p < 0) = q2 at *
            generalize decide (n ≤ p) = q3 at *
            have hq4 : (p == (0 : Int)) = false := by simpa using hpz
            simp only [hq4]
            clear hq4
            obtain ⟨wo, rfl⟩ : ∃ wo : World, wo = wr := ⟨_, rfl⟩
            go_loopw [6, 7] (fun vo vr wr => ∃ (ys : List Int) (s k1 : Nat), vr = .int .i64 s ∧ k1 + s ≤ k + run ∧ wr.ownsRow w.heap.size 3 1 vo k1 (ys.map (Value.int .i64)) ∧ Grow w wr ∧ Hid (ys ++ shortL s = out ++ shortL run)) (fun _ vr _ => (intOf vr).toNat)
            case atStart => exact ⟨out, run, k, rfl, by omega, HO.out, HG.out, rfl⟩
            case round =>
              obtain ⟨ys, s, k1, rfl, hks, ho, hg, he2⟩ := hrel
              obtain ⟨A1, c1, rfl⟩ := row_form ho
              have HO1 := Lib.hid ho
              have HG1 := Lib.hid hg
              have hsz1 : w.heap.size ≤ wr.heap.size := hg.size
              have HN1 := Lib.hid (H.out.grow hg)
              clear ho hg
              by_cases hs : 0 < s
              · have HS := Lib.hid (shortL_pos s hs)
                obtain ⟨t, ht⟩ : ∃ t : Nat, t = (s - 1) / 2 := ⟨_, rfl⟩
                rw [← ht] at HS
                have hts : t < s := by omega
                rcases Nat.mod_two_eq_zero_or_one s with hb | hb
                · have e2 : (s : Int) % 2 = 0 := by omega
                  have e3 : ((s : Int) - 2) / 2 = (t : Int) := by omega
                  rw [show (s + 1) % 2 = 1 by omega] at HS
                  clear hb ht
                  go_wp2_with (at_builtin; refine wpList_app1 rfl (.tmp 64) (.tmp 65) 28 3 rfl Try.underlying28 Try.infoI64 rfl w.heap.size _ k1 _ rfl HO1.out hsz1 rfl rfl (by unfold maxLen; omega) (by omega) ?_)
                  intro g cap w1 ho1 hk1 hm1
                  have HO2 : Hid (w1.ownsRow w.heap.size 3 1 (.slice (some ⟨g, 0, none⟩) (k1 + 1) cap) (k1 + 1) ((ys ++ [1]).map (Value.int .i64))) := by
                    show World.ownsRow _ _ _ _ _ _ _
                    simp only [List.map_append, List.append_assoc]
                    exact ho1
                  have HG2 := Lib.hid (grow_own HG1.out HO1.out (Nat.le_refl _) hk1)
                  clear ho1 hk1
                  go_wp2_with fail
                  go_roundw
                  case rel =>
                      exact ⟨_, t, k1 + 1, by go_num, by omega, HO2.out, HG2.out, by show _ = _; rw [← he2.out, HS.out]; simp⟩
                  case measure => simp [intOf]; omega
                · have e2 : (s : Int) % 2 = 1 := by omega
                  have e3 : ((s : Int) - 1) / 2 = (t : Int) := by omega
                  rw [show (s + 1) % 2 = 0 by omega] at HS
                  clear hb ht
                  go_wp2_with (at_builtin; refine wpList_app1 rfl (.tmp 58) (.tmp 59) 28 3 rfl Try.underlying28 Try.infoI64 rfl w.heap.size _ k1 _ rfl HO1.out hsz1 rfl rfl (by unfold maxLen; omega) (by omega) ?_)
                  intro g cap w1 ho1 hk1 hm1
                  have HO2 : Hid (w1.ownsRow w.heap.size 3 1 (.slice (some ⟨g, 0, none⟩) (k1 + 1) cap) (k1 + 1) ((ys ++ [0]).map (Value.int .i64))) := by
                    show World.ownsRow _ _ _ _ _ _ _
                    simp only [List.map_append, List.append_assoc]
                    exact ho1
                  have HG2 := Lib.hid (grow_own HG1.out HO1.out (Nat.le_refl _) hk1)
                  clear ho1 hk1
                  go_wp2_with fail
                  go_roundw
                  case rel => exact ⟨_, t, k1 + 1, by go_num, by omega, HO2.out, HG2.out, by show _ = _; rw [← he2.out, HS.out]; simp⟩
                  case measure => simp [intOf]; omega
              · obtain rfl : s = 0 := by omega
                have he4 : ys = out ++ shortL run := by
                  have := he2.out
                  rwa [show shortL 0 = [] from by simp [shortL], List.append_nil] at this
                subst he4
                have hc3 := HN1.out.cell i him2
                rw [HP.out] at hc3
                go_wp2_with (at_builtin; refine wpList_app1 rfl (.tmp 74) (.tmp 80) 28 3 rfl Try.underlying28 Try.infoI64 rfl w.heap.size _ k1 _ rfl HO1.out hsz1 rfl rfl (by unfold maxLen; omega) (by omega) ?_)
                intro g cap w1 ho1 hk1 hm1
                have HO2 : Hid (w1.ownsRow w.heap.size 3 1 (.slice (some ⟨g, 0, none⟩) (k1 + 1) cap) (k1 + 1) ((out ++ shortL run ++ [p + 1]).map (Value.int .i64))) := by
                  show World.ownsRow _ _ _ _ _ _ _
                  simp only [List.map_append, List.append_assoc]
                  try simp only [List.map_append, List.append_assoc] at ho1
                  exact ho1
                have HG2 := Lib.hid (grow_own HG1.out HO1.out (Nat.le_refl _) hk1)
                clear ho1 hk1
                go_wp2_with fail
                go_roundw
                case rel => exact ⟨i + 1, 0, k1 + 1, _, by go_num, rfl, by omega, HO2.out, HG2.out, .inl ⟨by omega, by rw [← HD.out]; exact heq.out, HB.out⟩⟩
                case measure => simp [intOf]; omega
      · obtain rfl : m = i := by omega
        have hany := any_all ps (badP n) (by rw [HL.out]; exact hb.out)
        have HR2 : Hid (R = (out ++ shortL run ++ [n + 1], 0)) := by
          show _ = _
          have h5 := heq.out
          rw [List.drop_eq_nil_of_le (by rw [HL.out]; omega)] at h5
          have h6 : symGo ps [] 0 = (out, run) := h5.symm
          rw [hR.out, if_neg (by rw [hany]; simp; omega), h6]
        clear hany
        go_wp2_with fail
        obtain ⟨wo, rfl⟩ : ∃ wo : World, wo = wr := ⟨_, rfl⟩
        go_loopw [6, 7] (fun vo vr wr => ∃ (ys : List Int) (s k1 : Nat), vr = .int .i64 s ∧ k1 + s ≤ k + run ∧ wr.ownsRow w.heap.size 3 1 vo k1 (ys.map (Value.int .i64)) ∧ Grow w wr ∧ Hid (ys ++ shortL s = out ++ shortL run)) (fun _ vr _ => (intOf vr).toNat)
        case atStart => exact ⟨out, run, k, rfl, by omega, HO.out, HG.out, rfl⟩
        case round =>
          obtain ⟨ys, s, k1, rfl, hks, ho, hg, he2⟩ := hrel
          obtain ⟨A1, c1, rfl⟩ := row_form ho
          have HO1 := Lib.hid ho
          have HG1 := Lib.hid hg
          have hsz1 : w.heap.size ≤ wr.heap.size := hg.size
          have HN1 := Lib.hid (H.out.grow hg)
          clear ho hg
          by_cases hs : 0 < s
          · have HS := Lib.hid (shortL_pos s hs)
            obtain ⟨t, ht⟩ : ∃ t : Nat, t = (s - 1) / 2 := ⟨_, rfl⟩
            rw [← ht] at HS
            have hts : t < s := by omega
            rcases Nat.mod_two_eq_zero_or_one s with hb | hb
            · have e2 : (s : Int) % 2 = 0 := by omega
              have e3 : ((s : Int) - 2) / 2 = (t : Int) := by omega
              rw [show (s + 1) % 2 = 1 by omega] at HS
              clear hb ht
              go_wp2_with (at_builtin; refine wpList_app1 rfl (.tmp 64) (.tmp 65) 28 3 rfl Try.underlying28 Try.infoI64 rfl w.heap.size _ k1 _ rfl HO1.out hsz1 rfl rfl (by unfold maxLen; omega) (by omega) ?_)
              intro g cap w1 ho1 hk1 hm1
              have HO2 : Hid (w1.ownsRow w.heap.size 3 1 (.slice (some ⟨g, 0, none⟩) (k1 + 1) cap) (k1 + 1) ((ys ++ [1]).map (Value.int .i64))) := by
                show World.ownsRow _ _ _ _ _ _ _
                simp only [List.map_append, List.append_assoc]
                exact ho1
              have HG2 := Lib.hid (grow_own HG1.out HO1.out (Nat.le_refl _) hk1)
              clear ho1 hk1
              go_wp2_with fail
              go_roundw
              case rel => exact ⟨_, t, k1 + 1, by go_num, by omega, HO2.out, HG2.out, by show _ = _; rw [← he2.out, HS.out]; simp⟩
              case measure => simp [intOf]; omega
            · have e2 : (s : Int) % 2 = 1 := by omega
              have e3 : ((s : Int) - 1) / 2 = (t : Int) := by omega
              rw [show (s + 1) % 2 = 0 by omega] at HS
              clear hb ht
              go_wp2_with (at_builtin; refine wpList_app1 rfl (.tmp 58) (.tmp 59) 28 3 rfl Try.underlying28 Try.infoI64 rfl w.heap.size _ k1 _ rfl HO1.out hsz1 rfl rfl (by unfold maxLen; omega) (by omega) ?_)
              intro g cap w1 ho1 hk1 hm1
              have HO2 : Hid (w1.ownsRow w.heap.size 3 1 (.slice (some ⟨g, 0, none⟩) (k1 + 1) cap) (k1 + 1) ((ys ++ [0]).map (Value.int .i64))) := by
                show World.ownsRow _ _ _ _ _ _ _
                simp only [List.map_append, List.append_assoc]
                exact ho1
              have HG2 := Lib.hid (grow_own HG1.out HO1.out (Nat.le_refl _) hk1)
              clear ho1 hk1
              go_wp2_with fail
              go_roundw
              case rel => exact ⟨_, t, k1 + 1, by go_num, by omega, HO2.out, HG2.out, by show _ = _; rw [← he2.out, HS.out]; simp⟩
              case measure => simp [intOf]; omega
          · obtain rfl : s = 0 := by omega
            have he4 : ys = out ++ shortL run := by
              have := he2.out
              rwa [show shortL 0 = [] from by simp [shortL], List.append_nil] at this
            subst he4
            go_wp2_with fail
            go_roundw
            case rel => exact ⟨m + 1, 0, k1, _, by go_num, rfl, by omega, HO1.out, HG1.out, .inr ⟨rfl, HR2.out⟩⟩
            case measure => simp [intOf]
    · subst him
      have HR2 := Lib.hid hr
      clear he hr
      go_wp2_with (at_builtin; refine wpList_app1 rfl (.tmp 82) (.tmp 85) 28 3 rfl Try.underlying28 Try.infoI64 rfl w.heap.size _ k _ rfl HO.out hsz rfl rfl (by unfold maxLen; omega) (by omega) ?_)
      intro g cap w1 ho1 hk1 hm1
      have HG2 := Lib.hid (grow_own HG.out HO.out (Nat.le_refl _) hk1)
      have HO2 := Lib.hid ho1
      clear ho1 hk1
      go_wp2_with fail
      go_ret2
      rw [HR2.out]
      exact ⟨_, cap, k + 1, rfl, by simpa using HO2.out, HG2.out⟩
end Go.Proofs.Yteccmnjcmmbhlaa
