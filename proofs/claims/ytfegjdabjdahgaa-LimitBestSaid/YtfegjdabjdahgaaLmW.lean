/- The law LimitBest: the walk. -/
import Derived.Test.YtfegjdabjdahgaaLmH
namespace Go.Proofs.Ytfegjdabjdahgaa
open Go.RowKit
set_option linter.unusedVariables false
set_option linter.unusedSimpArgs false

theorem wrap_id {x : Int} (h1 : -9223372036854775808 ≤ x) (h2 : x ≤ 9223372036854775807) : wrap64 x = x := by unfold wrap64; omega
theorem probe_lens (w : World) : Calls Try.prog 6 #[.slice (some ⟨w.heap.size, 0, none⟩) 4 4, .int .i64 3] (w.alloc (.cells #[.int .i64 1, .int .i64 1, .int .i64 2, .int .i64 4] 3)) fun e w' => ∃ A' c', e = .returned (.tuple #[.slice A' 4 c', .int .i64 0]) ∧ Nums .i64 w' A' 4 c' [3, 3, 2, 1] ∧ Grow w w' := by
  have k1 : Grow w (w.alloc (.cells #[.int .i64 1, .int .i64 1, .int .i64 2, .int .i64 4] 3)) := (Keeps.refl _ w).alloc _
  have h1 := lit4 (heap_alloc_new w (.cells #[.int .i64 1, .int .i64 1, .int .i64 2, .int .i64 4] 3)) (mk_i64 (by decide) (by decide)) (mk_i64 (by decide) (by decide)) (mk_i64 (by decide) (by decide)) (mk_i64 (by decide) (by decide))
  refine (lengths_is _ _ 4 4 [1, 1, 2, 4] 3 h1 (by decide) (mk_i64 (by decide) (by decide))).mono ?_
  rw [lim_lit]
  rintro e w' ⟨A', c', k, rfl, ho, hg⟩
  have hk := lm_len ho
  have hk4 : k = 4 := hk
  subst hk4
  exact ⟨A', c', rfl, Nums.of_own ho (by intro x hx; simp at hx; rcases hx with rfl | rfl | rfl <;> exact mk_i64 (by decide) (by decide)), Grow.trans _ _ _ k1 hg⟩
theorem probe_same (w : World) (A : Option Addr) (c : Nat) (h : Nums .i64 w A 4 c [3, 3, 2, 1]) : Calls Try.prog 8 #[.slice A 4 c, .slice (some ⟨w.heap.size, 0, none⟩) 4 4] (w.alloc (.cells #[.int .i64 3, .int .i64 3, .int .i64 2, .int .i64 1] 3)) fun e w' => e = .returned (.bool true) ∧ Grow w w' := by
  have k1 : Grow w (w.alloc (.cells #[.int .i64 3, .int .i64 3, .int .i64 2, .int .i64 1] 3)) := (Keeps.refl _ w).alloc _
  have h1 := lit4 (heap_alloc_new w (.cells #[.int .i64 3, .int .i64 3, .int .i64 2, .int .i64 1] 3)) (mk_i64 (by decide) (by decide)) (mk_i64 (by decide) (by decide)) (mk_i64 (by decide) (by decide)) (mk_i64 (by decide) (by decide))
  refine (same05_is _ _ _ 4 4 _ 4 _ _ (h.grow k1) h1 (by decide) (by decide)).mono ?_
  rintro e w' ⟨rfl, hg⟩
  exact ⟨by simp, Grow.trans _ _ _ k1 hg⟩

set_option maxRecDepth 4000 in
set_option maxHeartbeats 4000000 in
theorem walkLimitBest (W : World) (a0 : Option Addr) (c0 : Nat) (x0 : List (Int)) (_h0 : Sh.Rd W (.sl 8 (.int .i64)) [.slice a0 x0.length c0] x0) (x1 : Int) (_h1 : (Lit.int .i64 x1).wf = true) (a2 : Option Addr) (c2 : Nat) (x2 : List (Int)) (_h2 : Sh.Rd W (.sl 8 (.int .i64)) [.slice a2 x2.length c2] x2) :
    Calls Try.prog 4 #[.slice a0 x0.length c0, .int .i64 x1, .slice a2 x2.length c2] W fun e w' => e = .returned (.bool true) ∧ Below W.heap.size W w' := by
  obtain ⟨h0, hc0⟩ := Nums.of_rd _h0
  obtain ⟨h2, hc2⟩ := Nums.of_rd _h2
  have hm := wf_in _h1
  clear _h0 _h1 _h2
  have hn0 := h0.cap
  have hn2 := h2.cap
  generalize x0.length = n0 at *
  generalize x2.length = n2 at *
  have H0 := Lib.hid h0
  have H2 := Lib.hid h2
  have hL := lim_cases x0 x1
  have hLW := lengths_is W a0 n0 c0 x0 x1 H0.out (by omega) hm
  rcases hL with ⟨hL1, hL2⟩ | ⟨hw, hbn, hlm⟩
  · rw [hL1] at hLW
    generalize (limP x0 x1).2 = eA at *
    have HLW := Lib.hid hLW
    have e1 : (eA == 0) = false := by simpa using hL2
    have e2 : decide (eA = 0) = false := decide_eq_false hL2
    clear hL1 hLW h0 hm h2
    go_enter Try.func4, Try.ntmps4
    go_wp2_with fail
    refine HLW.out.mono ?_
    rintro e w1 ⟨A1, c1, k1, rfl, ho, hg⟩
    have hk1 : k1 = 0 := by have := ho.1; simp at this; omega
    subst hk1
    have HG1 := Lib.hid hg
    clear ho hg HLW
    have HPL := Lib.hid (probe_lens w1)
    go_wp2_with fail
    refine HPL.out.mono ?_
    rintro e w2 ⟨A2, c3, rfl, hn, hg⟩
    have HN := Lib.hid hn
    have HG2 := Lib.hid (Grow.trans _ _ _ HG1.out hg)
    clear hn hg HPL HG1
    have HPS := Lib.hid (probe_same w2 _ _ HN.out)
    go_wp2_with fail
    refine HPS.out.mono ?_
    rintro e w3 ⟨rfl, hg⟩
    have HG3 := Lib.hid (Grow.trans _ _ _ HG2.out hg)
    clear hg HPS HG2
    go_wp2_with fail
    go_ret
    exact ⟨rfl, HG3.out.below (fun _ _ h => h) (Nat.le_refl _)⟩
  · have hok := wrong_ok hw
    rw [hlm] at hLW
    have HLW := Lib.hid hLW
    have HOK := Lib.hid hok
    obtain ⟨L, rfl⟩ : ∃ L : Nat, x1 = (L : Int) := ⟨x1.toNat, by omega⟩
    have hL1 : 1 ≤ L := by omega
    have hL20 : L ≤ 20 := by omega
    rw [Int.toNat_natCast] at *
    have hc1 : costR x0 (lensP x0 L) = _ := costR_lens hL1 hL20 hbn hok.2.2.2.1 hok.2.2.2.2
    have hin1 := Lib.hid (lens_in (xs := x0) (L := L) hL1 hL20 hbn)
    have HC1 : Hid (∀ w A k c, Nums .i64 w a0 n0 c0 x0 → Nums .i64 w A k c (lensP x0 L) → Calls Try.prog 10 #[.slice a0 n0 c0, .slice A k c] w fun e w' => e = .returned (.tuple #[.int .i64 (costN x0 (lenN x0 L) : Nat), .int .i64 0]) ∧ w = w') := fun w A k c h ho => by
      have h9 := cost_is w a0 A n0 k c0 c x0 _ h ho (by omega) (by
        have h1 := ho.len
        rw [lensP_len, H0.out.len] at h1
        omega)
      rw [hc1] at h9
      exact h9
    have HCA : Hid (comeN x0 L n0 = (baseP x0).length) := by
      show _ = _
      rw [← H0.out.len]; exact comeN_all hL1 hbn
    have HKR : Hid (2 ≤ (baseP x0).length → sumN x0 L n0 = 1048576) := fun h => by
      rw [← H0.out.len]; exact lenN_kraft hL1 hL20 hbn h
    have hn6 : n0 ≤ 65536 := by rw [← H0.out.len]; exact hok.2.2.1
    have hn6i : (n0 : Int) ≤ 65536 := by omega
    have HBN := Lib.hid hbn
    have hLi1 : (1 : Int) ≤ (L : Int) := by omega
    have hLi : (L : Int) ≤ 20 := by omega
    clear hw hlm hok hbn hLW hc1 h0 h2 hm
    go_enter Try.func4, Try.ntmps4
    go_wp2_with fail
    refine HLW.out.mono ?_
    rintro e w1 ⟨A1, c1, k1, rfl, ho, hg⟩
    have hk1 := lm_len ho
    rw [lensP_len, H0.out.len] at hk1
    subst hk1
    have HN1 := Lib.hid (Nums.of_own ho hin1.out)
    have HG1 := Lib.hid hg
    clear ho hg HLW
    have HPL := Lib.hid (probe_lens w1)
    go_wp2_with fail
    refine HPL.out.mono ?_
    rintro e w2 ⟨A2, c3, rfl, hn, hg⟩
    have HN := Lib.hid hn
    have HG2 := Lib.hid (Grow.trans _ _ _ HG1.out hg)
    have HN2 := Lib.hid (HN1.out.grow hg)
    clear hn hg HPL HG1 HN1
    have HPS := Lib.hid (probe_same w2 _ _ HN.out)
    go_wp2_with fail
    refine HPS.out.mono ?_
    rintro e w3 ⟨rfl, hg⟩
    have HG3 := Lib.hid (Grow.trans _ _ _ HG2.out hg)
    have HN3 := Lib.hid (HN2.out.grow hg)
    clear hg HPS HG2 HN2 HN
    go_wp2_with fail
    go_loopw [6, 11, 12, 13] (fun vr vc vs vi wr => ∃ (i : Nat), i ≤ k1 ∧ vr = .bool false ∧ vi = .int .i64 (i : Nat) ∧ vc = .int .i64 (comeN x0 L i : Nat) ∧ vs = .int .i64 (sumN x0 L i : Nat) ∧ Hid (Grow w3 wr)) (fun _ _ _ vi _ => k1 - (intOf vi).toNat)
    case atStart => exact ⟨0, Nat.zero_le _, rfl, by simp, by simp [comeN, pS], by simp [sumN, pS], Keeps.refl _ _⟩
    case round =>
      obtain ⟨i, hi, rfl, rfl, rfl, rfl, HG⟩ := hrel
      have hcl := comeN_le x0 L i
      have hsl := sumN_le x0 L i
      by_cases hin : i < k1
      · have hini : (i : Int) < (k1 : Int) := by omega
        obtain ⟨b0, o0, rfl, g0⟩ := (H0.out.grow (Grow.trans _ _ _ HG3.out HG.out)).at_ (by omega)
        obtain ⟨b1, o1, rfl, g1⟩ := (HN3.out.grow HG.out).at_ (by omega)
        have cx := g0 i hin
        have cl := g1 i hin
        rw [lensP_getN (by rw [H0.out.len]; exact hin)] at cl
        have hr := lenN_rng hL1 HBN.out (j := i) (by rw [H0.out.len]; exact hin)
        clear g0 g1
        by_cases hx : 0 < x0.getD i 0
        · have hv := hr.2.2 hx
          have hC1 := comeN_pos hv
          have hS1 := sumN_pos hv
          obtain ⟨P, hP⟩ : ∃ P, P = 2 ^ (20 - lenN x0 L i) := ⟨_, rfl⟩
          have hP20 : P ≤ 1048576 := by rw [hP]; exact pow20 _
          rw [← hP] at hS1
          obtain ⟨u, hu⟩ : ∃ u, u = 20 - lenN x0 L i := ⟨_, rfl⟩
          rw [← hu] at hP
          have hPw : wrap64 ((2 : Int) ^ u) = (P : Int) := by
            have h7 : (2 : Int) ^ u = ((2 ^ u : Nat) : Int) := by simp
            rw [h7, ← hP]
            exact wrap_id (by omega) (by omega)
          have hvL := hr.1
          generalize lenN x0 L i = v at *
          generalize x0.getD i 0 = x at *
          generalize hcE : comeN x0 L i = come at *
          generalize hsE : sumN x0 L i = sum at *
          have HC2 := Lib.hid hC1
          have HS2 := Lib.hid hS1
          have hvi : (0 : Int) < (v : Int) := by omega
          have hvl : ¬ (L : Int) < (v : Int) := by omega
          have hvn : ¬ (v : Int) < 0 := by omega
          have h20 : (20 : Int) - (v : Int) = (u : Nat) := by omega
          have hu20 : (u : Int) ≤ 20 := by omega
          clear hC1 hS1 hP hr hcE hsE hu
          go_wp2_with (go_quiet (fail))
          go_roundw
          case rel => exact ⟨i + 1, hin, rfl, by go_num, by rw [HC2.out]; go_num, by rw [HS2.out]; go_num, HG.out.drewN _⟩
          case measure => simp [intOf]; omega
        · have hv : ¬ 0 < lenN x0 L i := fun h9 => hx (hr.2.1 h9)
          have hC1 := comeN_zero hv
          have hS1 := sumN_zero hv
          have hv0 : lenN x0 L i = 0 := by omega
          rw [hv0] at cl
          have HC2 := Lib.hid hC1
          have HS2 := Lib.hid hS1
          generalize x0.getD i 0 = x at *
          generalize comeN x0 L i = come at *
          generalize sumN x0 L i = sum at *
          have hLn : ¬ (L : Int) < 0 := by omega
          clear hC1 hS1 hr hv hv0
          go_wp2_with (go_quiet (fail))
          go_roundw
          case rel => exact ⟨i + 1, hin, rfl, by go_num, by rw [HC2.out], by rw [HS2.out], HG.out.drewN _⟩
          case measure => simp [intOf]; omega
      · obtain rfl : k1 = i := by omega
        have hini : ¬ (k1 : Int) < (k1 : Int) := by omega
        have HG4 := Lib.hid (Grow.trans _ _ _ HG3.out HG.out)
        have HN4 := Lib.hid (HN3.out.grow HG.out)
        clear HN3 HG hini
        rw [HCA.out] at *
        by_cases hk : 2 ≤ (baseP x0).length
        · have hs := HKR.out hk
          rw [hs]
          have HK := Lib.hid hk
          clear hs hsl HKR
          generalize hkk : (baseP x0).length = k at *
          have hki : (2 : Int) ≤ (k : Int) := by omega
          have hki2 : ¬ (k : Int) < 2 := by omega
          by_cases hnn : n2 = k1
          case neg =>
            have hnni : ¬ (n2 : Int) = (k1 : Int) := by omega
            go_wp2_with fail
            go_ret
            exact ⟨rfl, HG4.out.below (fun _ _ h => h) (Nat.le_refl _)⟩
          subst hnn
          have HKK := Lib.hid hkk
          clear hkk
          go_wp2_with fail
          go_loopw [6, 14, 15] (fun vr vf vi wq => ∃ (i : Nat), i ≤ n2 ∧ vr = .bool false ∧ vi = .int .i64 (i : Nat) ∧ vf = .int .i64 (fullN x2 i : Nat) ∧ Hid (∀ j, j < i → 0 ≤ x2.getD j 0 ∧ x2.getD j 0 ≤ (L : Int) ∧ (x2.getD j 0 = 0 → ¬ 0 < x0.getD j 0)) ∧ Hid (Nums .i64 wq A1 n2 c1 (lensP x0 L)) ∧ Hid (Grow W wq)) (fun _ _ vi _ => n2 - (intOf vi).toNat)
          case atStart => exact ⟨0, Nat.zero_le _, rfl, by simp, by simp [fullN, pS], fun j hj => by omega, HN4.out, HG4.out⟩
          case round =>
            clear HN4 HG4
            obtain ⟨i, hi, rfl, rfl, rfl, HB, HN4, HG4⟩ := hrel
            have hfl := fullN_le x2 i
            by_cases hin : i < n2
            · have hini : (i : Int) < (n2 : Int) := by omega
              obtain ⟨b0, o0, rfl, g0⟩ := (H0.out.grow HG4.out).at_ (by omega)
              obtain ⟨b1, o1, rfl, g1⟩ := (H2.out.grow HG4.out).at_ (by omega)
              have cx := g0 i hin
              have cy := g1 i hin
              clear g0 g1
              by_cases hy0 : x2.getD i 0 < 0
              · generalize fullN x2 i = full at *
                generalize x2.getD i 0 = y at *
                generalize x0.getD i 0 = x at *
                go_wp2_with (go_quiet (fail))
                go_ret
                exact ⟨rfl, HG4.out.below (fun _ _ h => h) (Nat.le_refl _)⟩
              by_cases hyL : (L : Int) < x2.getD i 0
              · generalize fullN x2 i = full at *
                generalize x2.getD i 0 = y at *
                generalize x0.getD i 0 = x at *
                go_wp2_with (go_quiet (fail))
                go_ret
                exact ⟨rfl, HG4.out.below (fun _ _ h => h) (Nat.le_refl _)⟩
              by_cases hyz : x2.getD i 0 = 0
              · by_cases hx : 0 < x0.getD i 0
                · rw [hyz] at cy
                  generalize fullN x2 i = full at *
                  generalize x0.getD i 0 = x at *
                  have hLn : ¬ (L : Int) < 0 := by omega
                  clear hy0 hyL hyz
                  go_wp2_with (go_quiet (fail))
                  go_ret
                  exact ⟨rfl, HG4.out.below (fun _ _ h => h) (Nat.le_refl _)⟩
                · have hf1 := Lib.hid (fullN_zero (ys := x2) (i := i) (by omega))
                  have HB2 : Hid (∀ j, j < i + 1 → 0 ≤ x2.getD j 0 ∧ x2.getD j 0 ≤ (L : Int) ∧ (x2.getD j 0 = 0 → ¬ 0 < x0.getD j 0)) := fun j hj => by
                    rcases Nat.lt_succ_iff_lt_or_eq.1 hj with h | h
                    · exact HB.out j h
                    · subst h
                      exact ⟨by omega, by omega, fun _ => hx⟩
                  rw [hyz] at cy
                  generalize fullN x2 i = full at *
                  generalize x0.getD i 0 = x at *
                  have hLn : ¬ (L : Int) < 0 := by omega
                  clear hy0 hyL hyz
                  go_wp2_with (go_quiet (fail))
                  go_roundw
                  case rel => exact ⟨i + 1, hin, rfl, by go_num, by rw [hf1.out], HB2.out, HN4.out, HG4.out⟩
                  case measure => simp [intOf]; omega
              · have hf1 := fullN_pos (ys := x2) (i := i) (by omega)
                have HB2 : Hid (∀ j, j < i + 1 → 0 ≤ x2.getD j 0 ∧ x2.getD j 0 ≤ (L : Int) ∧ (x2.getD j 0 = 0 → ¬ 0 < x0.getD j 0)) := fun j hj => by
                  rcases Nat.lt_succ_iff_lt_or_eq.1 hj with h | h
                  · exact HB.out j h
                  · subst h
                    exact ⟨by omega, by omega, fun h9 => absurd h9 hyz⟩
                obtain ⟨P, hP⟩ : ∃ P, P = 2 ^ (20 - (x2.getD i 0).toNat) := ⟨_, rfl⟩
                have hP20 : P ≤ 1048576 := by rw [hP]; exact pow20 _
                rw [← hP] at hf1
                obtain ⟨u, hu⟩ : ∃ u, u = 20 - (x2.getD i 0).toNat := ⟨_, rfl⟩
                rw [← hu] at hP
                have hPw : wrap64 ((2 : Int) ^ u) = (P : Int) := by
                  have h7 : (2 : Int) ^ u = ((2 ^ u : Nat) : Int) := by simp
                  rw [h7, ← hP]
                  exact wrap_id (by omega) (by omega)
                have HF2 := Lib.hid hf1
                clear hf1 hP
                generalize hfE : fullN x2 i = full at *
                generalize x2.getD i 0 = y at *
                generalize x0.getD i 0 = x at *
                obtain ⟨v, rfl⟩ : ∃ v : Nat, y = (v : Int) := ⟨y.toNat, by omega⟩
                have hvi : (0 : Int) < (v : Int) := by omega
                have hvz : ¬ (v : Int) = 0 := by omega
                have hvz2 : decide ((v : Int) = 0) = false := decide_eq_false hvz
                have hvl : ¬ (L : Int) < (v : Int) := hyL
                have hvn : ¬ (v : Int) < 0 := hy0
                have h20 : (20 : Int) - (v : Int) = (u : Nat) := by omega
                have hu20 : (u : Int) ≤ 20 := by omega
                have hv20 : (v : Int) ≤ 20 := by omega
                clear hfE hu hyz
                go_wp2_with (go_quiet (fail))
                go_roundw
                case rel => exact ⟨i + 1, hin, rfl, by go_num, by rw [HF2.out]; go_num, HB2.out, HN4.out, HG4.out⟩
                case measure => simp [intOf]; omega
            · obtain rfl : n2 = i := by omega
              have hini : ¬ (n2 : Int) < (n2 : Int) := by omega
              have hoc := other_cost (xs := x0) (ys := x2) hL1 hL20 (by rw [HKK.out]; exact HBN.out) (by rw [HKK.out]; omega) (by rw [H0.out.len, H2.out.len]) HOK.out.2.2.2.1 HOK.out.2.2.2.2 (by rw [H0.out.len]; exact HB.out)
              rw [H0.out.len] at hoc
              obtain ⟨q, hq, hql⟩ := hoc
              have HC2 := cost_is wr a0 a2 n2 n2 c0 c2 x0 x2 (H0.out.grow HG4.out) (H2.out.grow HG4.out) (by omega) (by omega)
              rw [hq] at HC2
              have HC3 := Lib.hid HC2
              have HC4 := Lib.hid (HC1.out wr A1 n2 c1 (H0.out.grow HG4.out) HN4.out)
              generalize costN x0 (lenN x0 L) = q1 at *
              generalize fullN x2 n2 = full at *
              clear HC2 hq hini
              by_cases hfu : full ≤ 1048576
              · have hqi : (q1 : Int) ≤ (q : Int) := by have := hql hfu; omega
                have hfi : ¬ (1048576 : Int) < (full : Int) := by omega
                clear hql
                go_wp2_with fail
                refine HC4.out.mono ?_
                rintro e w4 ⟨rfl, rfl⟩
                go_wp2_with fail
                refine HC3.out.mono ?_
                rintro e w4 ⟨rfl, rfl⟩
                go_wp2_with fail
                go_ret
                exact ⟨rfl, HG4.out.below (fun _ _ h => h) (Nat.le_refl _)⟩
              · have hfi : (1048576 : Int) < (full : Int) := by omega
                clear hql
                go_wp2_with fail
                refine HC4.out.mono ?_
                rintro e w4 ⟨rfl, rfl⟩
                go_wp2_with fail
                refine HC3.out.mono ?_
                rintro e w4 ⟨rfl, rfl⟩
                go_wp2_with fail
                go_ret
                exact ⟨rfl, HG4.out.below (fun _ _ h => h) (Nat.le_refl _)⟩
        · have hki : ((baseP x0).length : Int) < 2 := by omega
          generalize (baseP x0).length = k at *
          generalize sumN x0 L k1 = sum at *
          have hki2 : ¬ (2 : Int) ≤ (k : Int) := by omega
          go_wp2_with fail
          go_ret
          exact ⟨rfl, HG4.out.below (fun _ _ h => h) (Nat.le_refl _)⟩
end Go.Proofs.Ytfegjdabjdahgaa
