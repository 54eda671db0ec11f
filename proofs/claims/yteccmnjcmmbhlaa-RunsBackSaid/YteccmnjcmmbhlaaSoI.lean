/- Bytes sorted: partialInsertionSortOrdered. -/
import Derived.Test.YteccmnjcmmbhlaaSoH
namespace Go.Proofs.Yteccmnjcmmbhlaa
open Go.RowKit
open Go.Sort (swp ltInt)
set_option linter.unusedVariables false
set_option linter.unusedSimpArgs false

/-- What is left of a step behind the scan. -/
def partF (a b s i : Nat) (d : Array Int) : Array Int × Bool :=
  if i = b then (d, true) else if b - a < 50 then (d, false) else
    Go.Sort.partialIns ltInt a b s i (Go.Sort.fixUp ltInt b i (Go.Sort.fixDown ltInt a i (swp d i (i - 1))))
theorem partF_eq (a b s i : Nat) (d : Array Int) : Go.Sort.partialIns ltInt a b (s + 1) i d = partF a b s (Go.Sort.scanSorted ltInt d b i) d := rfl
set_option maxRecDepth 8000 in
set_option maxHeartbeats 8000000 in
theorem partial_is (w : World) {g n cap a b : Nat} {d : Array Int} (h : RowD w g cap d) (hn : d.size = n) (hab : a + 12 < b) (hbn : b ≤ n) (hnb : n ≤ 1099511627776) :
    Calls Try.prog 58 #[.slice (some ⟨g, 0, none⟩) n cap, .int .i64 (a : Nat), .int .i64 (b : Nat)] w fun e w' => e = .returned (.bool (Go.Sort.partialInsertionSort ltInt d a b).2) ∧ RowD w' g cap (Go.Sort.partialInsertionSort ltInt d a b).1 ∧ Keeps (fun k => k = g) w w' := by
  obtain ⟨R, hR⟩ : ∃ R, R = Go.Sort.partialInsertionSort ltInt d a b := ⟨_, rfl⟩
  rw [← hR]
  have HR : Hid (Go.Sort.partialIns ltInt a b 5 (a + 1) d = R) := hR.symm
  have H := Lib.hid h
  have HN := Lib.hid hn
  have hni : (n : Int) ≤ 1099511627776 := by omega
  have hbi : (b : Int) ≤ (n : Int) := by omega
  have hai : (a : Int) + 12 < (b : Int) := by omega
  clear h hR hn
  go_enter Try.func58, Try.ntmps58
  go_wp2_with fail
  go_loopw [7, 8, 9, 10] (fun vi vc _ _ wr => ∃ (q s : Nat) (z : Int) (dk : Array Int), a ≤ q ∧ q + 1 ≤ b ∧ s ≤ 5 ∧ z = 5 - (s : Int) ∧ vi = .int .i64 ((q : Int) + 1) ∧ vc = .int .i64 z ∧ Hid (dk.size = n) ∧ Hid (RowD wr g cap dk) ∧ Hid (Go.Sort.partialIns ltInt a b s (q + 1) dk = R) ∧ Hid (Keeps (fun k => k = g) w wr)) (fun _ vc _ _ _ => (5 - intOf vc).toNat)
  case atStart => exact ⟨a, 5, 0, d, Nat.le_refl _, by omega, Nat.le_refl _, by omega, rfl, rfl, HN.out, H.out, HR.out, Keeps.refl _ _⟩
  case round =>
    obtain ⟨q, s, z, dk, hq1, hq2, hs, hz, rfl, rfl, HS, HD, HE, HK⟩ := hrel
    clear HR H HN
    rcases s with _ | s
    · have hz1 : z = 5 := by omega
      subst hz1
      clear hz
      have hR9 : (dk, false) = R := HE.out
      subst hR9
      go_wp2_with fail
      go_ret
      exact ⟨rfl, HD.out, HK.out⟩
    · have hz5 : z < 5 := by omega
      have hz0 : 0 ≤ z := by omega
      have HZN : Hid (z + 1 = 5 - (s : Int)) := (show z + 1 = 5 - (s : Int) by omega)
      have HF0 : Hid (partF a b s (Go.Sort.scanSorted ltInt dk b (q + 1)) dk = R) := HE.out
      clear hz HE
      go_wp2_with fail
      go_loopw [7] (fun vi wr => ∃ (q : Nat) (dk : Array Int), a ≤ q ∧ q + 1 ≤ b ∧ vi = .int .i64 ((q : Int) + 1) ∧ Hid (dk.size = n) ∧ Hid (RowD wr g cap dk) ∧ Hid (partF a b s (Go.Sort.scanSorted ltInt dk b (q + 1)) dk = R) ∧ Hid (Keeps (fun k => k = g) w wr)) (fun vi _ => b + 1 - (intOf vi).toNat)
      case atStart => exact ⟨q, dk, hq1, hq2, rfl, HS.out, HD.out, HF0.out, HK.out⟩
      case round =>
        clear HS HD HF0 HK hq1 hq2
        obtain ⟨q, dk, hq1, hq2, rfl, HS, HD, HE, HK⟩ := hrel
        by_cases hqb : q + 1 < b
        · have hqbi : (q : Int) + 1 < (b : Int) := by omega
          have hst : partF a b s (if !ltInt dk[q + 1]! dk[q]! then Go.Sort.scanSorted ltInt dk b (q + 1 + 1) else q + 1) dk = R := by
            have h9 := HE.out
            rw [Go.Sort.scanSorted, decide_eq_true hqb, Bool.true_and, Nat.add_sub_cancel] at h9
            exact h9
          have hqd1 : decide ((q : Int) + 1 < (b : Int)) = true := decide_eq_true hqbi
          have hqd2 : decide (q + 1 < b) = true := decide_eq_true hqb
          have hu1 : q + 1 < dk.size := by rw [HS.out]; omega
          have hu0 : q < dk.size := by omega
          have c1 := HD.out.cell hu1
          have c0 := HD.out.cell hu0
          have r1 := HD.out.rng hu1
          have r0 := HD.out.rng hu0
          obtain ⟨x, hx⟩ : ∃ x, x = dk[q + 1]! := ⟨_, rfl⟩
          obtain ⟨y, hy⟩ : ∃ y, y = dk[q]! := ⟨_, rfl⟩
          rw [← hx] at c1 r1 hst
          rw [← hy] at c0 r0 hst
          obtain ⟨bv, hbv⟩ : ∃ bv, bv = ltInt x y := ⟨_, rfl⟩
          have HLS := Lib.hid (fun w => less_is w x y r1.1 r1.2 r0.1 r0.2)
          rw [← hbv] at hst HLS
          have HST := Lib.hid hst
          have HXY := Lib.hid (And.intro hx (And.intro hy (And.intro hu1 hu0)))
          have hti : (q : Int) + 1 < (n : Int) := by omega
          have hts : (q : Int) + 1 - 1 = (q : Int) := by omega
          clear hx hy hbv hst r1 r0 hu1 hu0 HE
          go_wp2_with fail
          go_quiet (refine Calls.quiet_of (HLS.out _))
          replace HD := Lib.hid (HD.out.drewN nq)
          replace HK := Lib.hid (HK.out.drewN nq)
          have c1 : (wr.drewN nq).cell? ⟨g, q + 1, none⟩ = some (.int .u8 x) := c1
          have c0 : (wr.drewN nq).cell? ⟨g, q, none⟩ = some (.int .u8 y) := c0
          generalize wr.drewN nq = w5 at *
          cases bv
          · have HF : Hid (partF a b s (Go.Sort.scanSorted ltInt dk b (q + 1 + 1)) dk = R) := HST.out
            go_wp2_with fail
            go_roundw
            case rel => exact ⟨q + 1, dk, by omega, by omega, by go_num, HS.out, HD.out, HF.out, HK.out⟩
            case measure => (simp [intOf] <;> omega)
          · have HF : Hid (partF a b s (q + 1) dk = R) := HST.out
            have HE0 : Hid ((if b - a < 50 then (dk, false) else Go.Sort.partialIns ltInt a b s (q + 1) (Go.Sort.fixUp ltInt b (q + 1) (Go.Sort.fixDown ltInt a (q + 1) (swp dk (q + 1) q)))) = R) := by
              show _ = _
              have h9 := HF.out
              rw [partF, if_neg (by omega), Nat.add_sub_cancel] at h9
              exact h9
            have hqb0 : ((q : Int) + 1 = (b : Int)) = False := eq_false (by omega)
            have hqb1 : decide ((q : Int) + 1 = (b : Int)) = false := decide_eq_false (by omega)
            clear HF
            by_cases h50 : b - a < 50
            · have h50i : ((b : Int) - (a : Int) < 50) = True := eq_true (by omega)
              have h50d : decide ((b : Int) - (a : Int) < 50) = true := decide_eq_true (by omega)
              have hR9 : (dk, false) = R := by
                have h9 := HE0.out
                rw [if_pos h50] at h9
                exact h9
              subst hR9
              go_wp2_with fail
              go_ret
              exact ⟨rfl, HD.out, HK.out⟩
            · have h50i : ((b : Int) - (a : Int) < 50) = False := eq_false (by omega)
              have h50d : decide ((b : Int) - (a : Int) < 50) = false := decide_eq_false (by omega)
              have HE : Hid (Go.Sort.partialIns ltInt a b s (q + 1) (Go.Sort.fixUp ltInt b (q + 1) (Go.Sort.fixDown ltInt a (q + 1) (swp dk (q + 1) q))) = R) := by
                show _ = _
                have h9 := HE0.out
                rw [if_neg h50] at h9
                exact h9
              clear HE0
              have HDd := Lib.hid HD.out.drew
              have HKd := Lib.hid HK.out.drew
              have c1 : w5.drew.cell? ⟨g, q + 1, none⟩ = some (.int .u8 x) := c1
              have c0 : w5.drew.cell? ⟨g, q, none⟩ = some (.int .u8 y) := c0
              go_upto_region 11 with fail
              refine wp_region_seq (by kernel_rfl) (by kernel_rfl) ?_
              generalize w5.drew = w6 at *
              have f1 := HDd.out.frz (q + 1)
              have f0 := HDd.out.frz (q)
              have hsw := HDd.out.swap HXY.out.2.2.1 HXY.out.2.2.2
              rw [← HXY.out.1, ← HXY.out.2.1] at hsw
              have HSW := Lib.hid hsw
              have HKS := Lib.hid (Keeps.trans HKd.out (keeps_swap w6 g (q + 1) (q) (.int .u8 y) (.int .u8 x)) fun _ _ h => h)
              obtain ⟨u2, c2⟩ := HDd.out.cellset HXY.out.2.2.1 HXY.out.2.2.2 (.int .u8 y)
              clear hsw
              go_wp2_with fail
              refine ⟨by kernel_rfl, ?_⟩
              generalize (w6.setCell ⟨g, q + 1, none⟩ (.int .u8 y)).setCell ⟨g, q, none⟩ (.int .u8 x) = w7 at *
              have HS1 : Hid ((swp dk (q + 1) q).size = n) := by
                show _ = _
                rw [Go.Sort.swp_size]; exact HS.out
              clear HS HD HK HDd HKd HXY HLS HST
              have HS := HS1
              have HD := HSW
              have HK := HKS
              clear HS1 HSW HKS c0 c1 c2 f1 f0
              generalize swp dk (q + 1) q = d1 at *
              by_cases hdn : q + 1 - a ≥ 2
              · have hdni : (2 : Int) ≤ (q : Int) + 1 - (a : Int) := by omega
                have HE1 : Hid (Go.Sort.partialIns ltInt a b s (q + 1) (Go.Sort.fixUp ltInt b (q + 1) (Go.Sort.shiftDown ltInt q d1)) = R) := by
                  show _ = _
                  have h9 := HE.out
                  rw [Go.Sort.fixDown, if_pos hdn, Nat.add_sub_cancel] at h9
                  exact h9
                clear HE
                go_wp2_with fail
                go_loopw [9] (fun vj wr => ∃ (j : Nat) (dj : Array Int), j ≤ q ∧ vj = .int .i64 (j : Nat) ∧ Hid (dj.size = n) ∧ Hid (RowD wr g cap dj) ∧ Hid (Go.Sort.partialIns ltInt a b s (q + 1) (Go.Sort.fixUp ltInt b (q + 1) (Go.Sort.shiftDown ltInt j dj)) = R) ∧ Hid (Keeps (fun k => k = g) w wr)) (fun vj _ => (intOf vj).toNat)
                case atStart => exact ⟨q, d1, Nat.le_refl _, by go_num, HS.out, HD.out, HE1.out, HK.out⟩
                case round =>
                  clear HS HD HE1 HK
                  obtain ⟨j, dj, hjq, rfl, HS, HD, HE, HK⟩ := hrel
                  rcases j with _ | t
                  · have HE1 : Hid (Go.Sort.partialIns ltInt a b s (q + 1) (Go.Sort.fixUp ltInt b (q + 1) dj) = R) := HE.out
                    clear HE
                    have HE := HE1
                    clear HE1
                    by_cases hup : b - (q + 1) ≥ 2
                    · have hupi : (2 : Int) ≤ (b : Int) - ((q : Int) + 1) := by omega
                      have HU0 : Hid (Go.Sort.partialIns ltInt a b s (q + 1) (Go.Sort.shiftUp ltInt b (q + 1 + 1) dj) = R) := by
                        show _ = _
                        have h9 := HE.out
                        rw [Go.Sort.fixUp, if_pos hup] at h9
                        exact h9
                      clear HE
                      go_wp2_with fail
                      go_loopw [10] (fun vj wr => ∃ (t : Nat) (dj : Array Int), q + 1 ≤ t ∧ t + 1 ≤ b ∧ vj = .int .i64 ((t : Int) + 1) ∧ Hid (dj.size = n) ∧ Hid (RowD wr g cap dj) ∧ Hid (Go.Sort.partialIns ltInt a b s (q + 1) (Go.Sort.shiftUp ltInt b (t + 1) dj) = R) ∧ Hid (Keeps (fun k => k = g) w wr)) (fun vj _ => b + 1 - (intOf vj).toNat)
                      case atStart => exact ⟨q + 1, dj, Nat.le_refl _, by omega, by go_num, HS.out, HD.out, HU0.out, HK.out⟩
                      case round =>
                        clear HS HD HU0 HK
                        obtain ⟨t, dj, ht1, ht2, rfl, HS, HD, HE, HK⟩ := hrel
                        by_cases htb : t + 1 < b
                        · have htbi : (t : Int) + 1 < (b : Int) := by omega
                          have hst : Go.Sort.partialIns ltInt a b s (q + 1) (if !ltInt dj[t + 1]! dj[t]! then dj else Go.Sort.shiftUp ltInt b (t + 1 + 1) (swp dj (t + 1) t)) = R := by
                            have h9 := HE.out
                            rw [Go.Sort.shiftUp, if_pos htb] at h9
                            exact h9
                          have hu1 : t + 1 < dj.size := by rw [HS.out]; omega
                          have hu0 : t < dj.size := by omega
                          have c1 := HD.out.cell hu1
                          have c0 := HD.out.cell hu0
                          have r1 := HD.out.rng hu1
                          have r0 := HD.out.rng hu0
                          obtain ⟨x, hx⟩ : ∃ x, x = dj[t + 1]! := ⟨_, rfl⟩
                          obtain ⟨y, hy⟩ : ∃ y, y = dj[t]! := ⟨_, rfl⟩
                          rw [← hx] at c1 r1 hst
                          rw [← hy] at c0 r0 hst
                          obtain ⟨bv, hbv⟩ : ∃ bv, bv = ltInt x y := ⟨_, rfl⟩
                          have HLS := Lib.hid (fun w => less_is w x y r1.1 r1.2 r0.1 r0.2)
                          rw [← hbv] at hst HLS
                          have HST := Lib.hid hst
                          have HXY := Lib.hid (And.intro hx (And.intro hy (And.intro hu1 hu0)))
                          have hti : (t : Int) + 1 < (n : Int) := by omega
                          have hts : (t : Int) + 1 - 1 = (t : Int) := by omega
                          clear hx hy hbv hst r1 r0 hu1 hu0 HE
                          go_wp2_with fail
                          go_quiet (refine Calls.quiet_of (HLS.out _))
                          replace HD := Lib.hid (HD.out.drewN nq)
                          replace HK := Lib.hid (HK.out.drewN nq)
                          have c1 : (wr.drewN nq).cell? ⟨g, t + 1, none⟩ = some (.int .u8 x) := c1
                          have c0 : (wr.drewN nq).cell? ⟨g, t, none⟩ = some (.int .u8 y) := c0
                          generalize wr.drewN nq = w5 at *
                          cases bv
                          · have HF : Hid (Go.Sort.partialIns ltInt a b s (q + 1) dj = R) := HST.out
                            go_wp2_with fail
                            go_roundw
                            case rel => exact ⟨q, s, _, _, by omega, by omega, by omega, HZN.out, rfl, rfl, HS.out, HD.out, HF.out, HK.out⟩
                            case measure => (simp [intOf] <;> omega)
                          · have HF : Hid (Go.Sort.partialIns ltInt a b s (q + 1) (Go.Sort.shiftUp ltInt b (t + 1 + 1) (swp dj (t + 1) t)) = R) := HST.out
                            have HDd := Lib.hid HD.out.drew
                            have HKd := Lib.hid HK.out.drew
                            have c1 : w5.drew.cell? ⟨g, t + 1, none⟩ = some (.int .u8 x) := c1
                            have c0 : w5.drew.cell? ⟨g, t, none⟩ = some (.int .u8 y) := c0
                            go_upto_region 23 with fail
                            refine wp_region_seq (by kernel_rfl) (by kernel_rfl) ?_
                            generalize w5.drew = w6 at *
                            have f1 := HDd.out.frz (t + 1)
                            have f0 := HDd.out.frz (t)
                            have hsw := HDd.out.swap HXY.out.2.2.1 HXY.out.2.2.2
                            rw [← HXY.out.1, ← HXY.out.2.1] at hsw
                            have HSW := Lib.hid hsw
                            have HKS := Lib.hid (Keeps.trans HKd.out (keeps_swap w6 g (t + 1) (t) (.int .u8 y) (.int .u8 x)) fun _ _ h => h)
                            obtain ⟨u2, c2⟩ := HDd.out.cellset HXY.out.2.2.1 HXY.out.2.2.2 (.int .u8 y)
                            clear hsw
                            go_wp2_with fail
                            refine ⟨by kernel_rfl, ?_⟩
                            generalize (w6.setCell ⟨g, t + 1, none⟩ (.int .u8 y)).setCell ⟨g, t, none⟩ (.int .u8 x) = w7 at *
                            go_wp2_with fail
                            go_roundw
                            case rel => exact ⟨t + 1, _, by omega, by omega, by go_num, by rw [Go.Sort.swp_size]; exact HS.out, HSW.out, HF.out, HKS.out⟩
                            case measure => (simp [intOf] <;> omega)
                        · have htbi : ¬ (t : Int) + 1 < (b : Int) := by omega
                          have HF : Hid (Go.Sort.partialIns ltInt a b s (q + 1) dj = R) := by
                            show _ = _
                            have h9 := HE.out
                            rw [Go.Sort.shiftUp, if_neg htb] at h9
                            exact h9
                          clear HE
                          go_wp2_with fail
                          go_roundw
                          case rel => exact ⟨q, s, _, _, by omega, by omega, by omega, HZN.out, rfl, rfl, HS.out, HD.out, HF.out, HK.out⟩
                          case measure => (simp [intOf] <;> omega)
                    · have hupi : ¬ (2 : Int) ≤ (b : Int) - ((q : Int) + 1) := by omega
                      have HF : Hid (Go.Sort.partialIns ltInt a b s (q + 1) dj = R) := by
                        show _ = _
                        have h9 := HE.out
                        rw [Go.Sort.fixUp, if_neg hup] at h9
                        exact h9
                      clear HE
                      go_wp2_with fail
                      go_roundw
                      case rel => exact ⟨q, s, _, _, by omega, by omega, by omega, HZN.out, rfl, rfl, HS.out, HD.out, HF.out, HK.out⟩
                      case measure => (simp [intOf] <;> omega)
                  · have hst : Go.Sort.partialIns ltInt a b s (q + 1) (Go.Sort.fixUp ltInt b (q + 1) (if !ltInt dj[t + 1]! dj[t]! then dj else Go.Sort.shiftDown ltInt t (swp dj (t + 1) t))) = R := HE.out
                    have hqc : ((t + 1 : Nat) : Int) = (t : Int) + 1 := by omega
                    have htq : (t : Int) + 1 ≤ (q : Int) := by omega
                    simp only [hqc]
                    have hu1 : t + 1 < dj.size := by rw [HS.out]; omega
                    have hu0 : t < dj.size := by omega
                    have c1 := HD.out.cell hu1
                    have c0 := HD.out.cell hu0
                    have r1 := HD.out.rng hu1
                    have r0 := HD.out.rng hu0
                    obtain ⟨x, hx⟩ : ∃ x, x = dj[t + 1]! := ⟨_, rfl⟩
                    obtain ⟨y, hy⟩ : ∃ y, y = dj[t]! := ⟨_, rfl⟩
                    rw [← hx] at c1 r1 hst
                    rw [← hy] at c0 r0 hst
                    obtain ⟨bv, hbv⟩ : ∃ bv, bv = ltInt x y := ⟨_, rfl⟩
                    have HLS := Lib.hid (fun w => less_is w x y r1.1 r1.2 r0.1 r0.2)
                    rw [← hbv] at hst HLS
                    have HST := Lib.hid hst
                    have HXY := Lib.hid (And.intro hx (And.intro hy (And.intro hu1 hu0)))
                    have hti : (t : Int) + 1 < (n : Int) := by omega
                    have hts : (t : Int) + 1 - 1 = (t : Int) := by omega
                    clear hx hy hbv hst r1 r0 hu1 hu0 HE
                    go_wp2_with fail
                    go_quiet (refine Calls.quiet_of (HLS.out _))
                    replace HD := Lib.hid (HD.out.drewN nq)
                    replace HK := Lib.hid (HK.out.drewN nq)
                    have c1 : (wr.drewN nq).cell? ⟨g, t + 1, none⟩ = some (.int .u8 x) := c1
                    have c0 : (wr.drewN nq).cell? ⟨g, t, none⟩ = some (.int .u8 y) := c0
                    generalize wr.drewN nq = w5 at *
                    cases bv
                    · have HE : Hid (Go.Sort.partialIns ltInt a b s (q + 1) (Go.Sort.fixUp ltInt b (q + 1) dj) = R) := HST.out
                      clear HST HXY HLS c0 c1
                      by_cases hup : b - (q + 1) ≥ 2
                      · have hupi : (2 : Int) ≤ (b : Int) - ((q : Int) + 1) := by omega
                        have HU0 : Hid (Go.Sort.partialIns ltInt a b s (q + 1) (Go.Sort.shiftUp ltInt b (q + 1 + 1) dj) = R) := by
                          show _ = _
                          have h9 := HE.out
                          rw [Go.Sort.fixUp, if_pos hup] at h9
                          exact h9
                        clear HE
                        go_wp2_with fail
                        go_loopw [10] (fun vj wr => ∃ (t : Nat) (dj : Array Int), q + 1 ≤ t ∧ t + 1 ≤ b ∧ vj = .int .i64 ((t : Int) + 1) ∧ Hid (dj.size = n) ∧ Hid (RowD wr g cap dj) ∧ Hid (Go.Sort.partialIns ltInt a b s (q + 1) (Go.Sort.shiftUp ltInt b (t + 1) dj) = R) ∧ Hid (Keeps (fun k => k = g) w wr)) (fun vj _ => b + 1 - (intOf vj).toNat)
                        case atStart => exact ⟨q + 1, dj, Nat.le_refl _, by omega, by go_num, HS.out, HD.out, HU0.out, HK.out⟩
                        case round =>
                          clear HS HD HU0 HK
                          obtain ⟨t, dj, ht1, ht2, rfl, HS, HD, HE, HK⟩ := hrel
                          by_cases htb : t + 1 < b
                          · have htbi : (t : Int) + 1 < (b : Int) := by omega
                            have hst : Go.Sort.partialIns ltInt a b s (q + 1) (if !ltInt dj[t + 1]! dj[t]! then dj else Go.Sort.shiftUp ltInt b (t + 1 + 1) (swp dj (t + 1) t)) = R := by
                              have h9 := HE.out
                              rw [Go.Sort.shiftUp, if_pos htb] at h9
                              exact h9
                            have hu1 : t + 1 < dj.size := by rw [HS.out]; omega
                            have hu0 : t < dj.size := by omega
                            have c1 := HD.out.cell hu1
                            have c0 := HD.out.cell hu0
                            have r1 := HD.out.rng hu1
                            have r0 := HD.out.rng hu0
                            obtain ⟨x, hx⟩ : ∃ x, x = dj[t + 1]! := ⟨_, rfl⟩
                            obtain ⟨y, hy⟩ : ∃ y, y = dj[t]! := ⟨_, rfl⟩
                            rw [← hx] at c1 r1 hst
                            rw [← hy] at c0 r0 hst
                            obtain ⟨bv, hbv⟩ : ∃ bv, bv = ltInt x y := ⟨_, rfl⟩
                            have HLS := Lib.hid (fun w => less_is w x y r1.1 r1.2 r0.1 r0.2)
                            rw [← hbv] at hst HLS
                            have HST := Lib.hid hst
                            have HXY := Lib.hid (And.intro hx (And.intro hy (And.intro hu1 hu0)))
                            have hti : (t : Int) + 1 < (n : Int) := by omega
                            have hts : (t : Int) + 1 - 1 = (t : Int) := by omega
                            clear hx hy hbv hst r1 r0 hu1 hu0 HE
                            go_wp2_with fail
                            go_quiet (refine Calls.quiet_of (HLS.out _))
                            replace HD := Lib.hid (HD.out.drewN nq)
                            replace HK := Lib.hid (HK.out.drewN nq)
                            have c1 : (wr.drewN nq).cell? ⟨g, t + 1, none⟩ = some (.int .u8 x) := c1
                            have c0 : (wr.drewN nq).cell? ⟨g, t, none⟩ = some (.int .u8 y) := c0
                            generalize wr.drewN nq = w5 at *
                            cases bv
                            · have HF : Hid (Go.Sort.partialIns ltInt a b s (q + 1) dj = R) := HST.out
                              go_wp2_with fail
                              go_roundw
                              case rel => exact ⟨q, s, _, _, by omega, by omega, by omega, HZN.out, rfl, rfl, HS.out, HD.out, HF.out, HK.out⟩
                              case measure => (simp [intOf] <;> omega)
                            · have HF : Hid (Go.Sort.partialIns ltInt a b s (q + 1) (Go.Sort.shiftUp ltInt b (t + 1 + 1) (swp dj (t + 1) t)) = R) := HST.out
                              have HDd := Lib.hid HD.out.drew
                              have HKd := Lib.hid HK.out.drew
                              have c1 : w5.drew.cell? ⟨g, t + 1, none⟩ = some (.int .u8 x) := c1
                              have c0 : w5.drew.cell? ⟨g, t, none⟩ = some (.int .u8 y) := c0
                              go_upto_region 23 with fail
                              refine wp_region_seq (by kernel_rfl) (by kernel_rfl) ?_
                              generalize w5.drew = w6 at *
                              have f1 := HDd.out.frz (t + 1)
                              have f0 := HDd.out.frz (t)
                              have hsw := HDd.out.swap HXY.out.2.2.1 HXY.out.2.2.2
                              rw [← HXY.out.1, ← HXY.out.2.1] at hsw
                              have HSW := Lib.hid hsw
                              have HKS := Lib.hid (Keeps.trans HKd.out (keeps_swap w6 g (t + 1) (t) (.int .u8 y) (.int .u8 x)) fun _ _ h => h)
                              obtain ⟨u2, c2⟩ := HDd.out.cellset HXY.out.2.2.1 HXY.out.2.2.2 (.int .u8 y)
                              clear hsw
                              go_wp2_with fail
                              refine ⟨by kernel_rfl, ?_⟩
                              generalize (w6.setCell ⟨g, t + 1, none⟩ (.int .u8 y)).setCell ⟨g, t, none⟩ (.int .u8 x) = w7 at *
                              go_wp2_with fail
                              go_roundw
                              case rel => exact ⟨t + 1, _, by omega, by omega, by go_num, by rw [Go.Sort.swp_size]; exact HS.out, HSW.out, HF.out, HKS.out⟩
                              case measure => (simp [intOf] <;> omega)
                          · have htbi : ¬ (t : Int) + 1 < (b : Int) := by omega
                            have HF : Hid (Go.Sort.partialIns ltInt a b s (q + 1) dj = R) := by
                              show _ = _
                              have h9 := HE.out
                              rw [Go.Sort.shiftUp, if_neg htb] at h9
                              exact h9
                            clear HE
                            go_wp2_with fail
                            go_roundw
                            case rel => exact ⟨q, s, _, _, by omega, by omega, by omega, HZN.out, rfl, rfl, HS.out, HD.out, HF.out, HK.out⟩
                            case measure => (simp [intOf] <;> omega)
                      · have hupi : ¬ (2 : Int) ≤ (b : Int) - ((q : Int) + 1) := by omega
                        have HF : Hid (Go.Sort.partialIns ltInt a b s (q + 1) dj = R) := by
                          show _ = _
                          have h9 := HE.out
                          rw [Go.Sort.fixUp, if_neg hup] at h9
                          exact h9
                        clear HE
                        go_wp2_with fail
                        go_roundw
                        case rel => exact ⟨q, s, _, _, by omega, by omega, by omega, HZN.out, rfl, rfl, HS.out, HD.out, HF.out, HK.out⟩
                        case measure => (simp [intOf] <;> omega)
                    · have HE : Hid (Go.Sort.partialIns ltInt a b s (q + 1) (Go.Sort.fixUp ltInt b (q + 1) (Go.Sort.shiftDown ltInt t (swp dj (t + 1) t))) = R) := HST.out
                      have HDd := Lib.hid HD.out.drew
                      have HKd := Lib.hid HK.out.drew
                      have c1 : w5.drew.cell? ⟨g, t + 1, none⟩ = some (.int .u8 x) := c1
                      have c0 : w5.drew.cell? ⟨g, t, none⟩ = some (.int .u8 y) := c0
                      go_upto_region 17 with fail
                      refine wp_region_seq (by kernel_rfl) (by kernel_rfl) ?_
                      generalize w5.drew = w6 at *
                      have f1 := HDd.out.frz (t + 1)
                      have f0 := HDd.out.frz (t)
                      have hsw := HDd.out.swap HXY.out.2.2.1 HXY.out.2.2.2
                      rw [← HXY.out.1, ← HXY.out.2.1] at hsw
                      have HSW := Lib.hid hsw
                      have HKS := Lib.hid (Keeps.trans HKd.out (keeps_swap w6 g (t + 1) (t) (.int .u8 y) (.int .u8 x)) fun _ _ h => h)
                      obtain ⟨u2, c2⟩ := HDd.out.cellset HXY.out.2.2.1 HXY.out.2.2.2 (.int .u8 y)
                      clear hsw
                      go_wp2_with fail
                      refine ⟨by kernel_rfl, ?_⟩
                      generalize (w6.setCell ⟨g, t + 1, none⟩ (.int .u8 y)).setCell ⟨g, t, none⟩ (.int .u8 x) = w7 at *
                      go_wp2_with fail
                      go_roundw
                      case rel => exact ⟨t, _, by omega, by go_num, by rw [Go.Sort.swp_size]; exact HS.out, HSW.out, HE.out, HKS.out⟩
                      case measure => (simp [intOf] <;> omega)
              · have hdni : ¬ (2 : Int) ≤ (q : Int) + 1 - (a : Int) := by omega
                have HE1 : Hid (Go.Sort.partialIns ltInt a b s (q + 1) (Go.Sort.fixUp ltInt b (q + 1) d1) = R) := by
                  show _ = _
                  have h9 := HE.out
                  rw [Go.Sort.fixDown, if_neg hdn] at h9
                  exact h9
                clear HE
                have HE := HE1
                clear HE1
                by_cases hup : b - (q + 1) ≥ 2
                · have hupi : (2 : Int) ≤ (b : Int) - ((q : Int) + 1) := by omega
                  have HU0 : Hid (Go.Sort.partialIns ltInt a b s (q + 1) (Go.Sort.shiftUp ltInt b (q + 1 + 1) d1) = R) := by
                    show _ = _
                    have h9 := HE.out
                    rw [Go.Sort.fixUp, if_pos hup] at h9
                    exact h9
                  clear HE
                  go_wp2_with fail
                  go_loopw [10] (fun vj wr => ∃ (t : Nat) (dj : Array Int), q + 1 ≤ t ∧ t + 1 ≤ b ∧ vj = .int .i64 ((t : Int) + 1) ∧ Hid (dj.size = n) ∧ Hid (RowD wr g cap dj) ∧ Hid (Go.Sort.partialIns ltInt a b s (q + 1) (Go.Sort.shiftUp ltInt b (t + 1) dj) = R) ∧ Hid (Keeps (fun k => k = g) w wr)) (fun vj _ => b + 1 - (intOf vj).toNat)
                  case atStart => exact ⟨q + 1, d1, Nat.le_refl _, by omega, by go_num, HS.out, HD.out, HU0.out, HK.out⟩
                  case round =>
                    clear HS HD HU0 HK
                    obtain ⟨t, dj, ht1, ht2, rfl, HS, HD, HE, HK⟩ := hrel
                    by_cases htb : t + 1 < b
                    · have htbi : (t : Int) + 1 < (b : Int) := by omega
                      have hst : Go.Sort.partialIns ltInt a b s (q + 1) (if !ltInt dj[t + 1]! dj[t]! then dj else Go.Sort.shiftUp ltInt b (t + 1 + 1) (swp dj (t + 1) t)) = R := by
                        have h9 := HE.out
                        rw [Go.Sort.shiftUp, if_pos htb] at h9
                        exact h9
                      have hu1 : t + 1 < dj.size := by rw [HS.out]; omega
                      have hu0 : t < dj.size := by omega
                      have c1 := HD.out.cell hu1
                      have c0 := HD.out.cell hu0
                      have r1 := HD.out.rng hu1
                      have r0 := HD.out.rng hu0
                      obtain ⟨x, hx⟩ : ∃ x, x = dj[t + 1]! := ⟨_, rfl⟩
                      obtain ⟨y, hy⟩ : ∃ y, y = dj[t]! := ⟨_, rfl⟩
                      rw [← hx] at c1 r1 hst
                      rw [← hy] at c0 r0 hst
                      obtain ⟨bv, hbv⟩ : ∃ bv, bv = ltInt x y := ⟨_, rfl⟩
                      have HLS := Lib.hid (fun w => less_is w x y r1.1 r1.2 r0.1 r0.2)
                      rw [← hbv] at hst HLS
                      have HST := Lib.hid hst
                      have HXY := Lib.hid (And.intro hx (And.intro hy (And.intro hu1 hu0)))
                      have hti : (t : Int) + 1 < (n : Int) := by omega
                      have hts : (t : Int) + 1 - 1 = (t : Int) := by omega
                      clear hx hy hbv hst r1 r0 hu1 hu0 HE
                      go_wp2_with fail
                      go_quiet (refine Calls.quiet_of (HLS.out _))
                      replace HD := Lib.hid (HD.out.drewN nq)
                      replace HK := Lib.hid (HK.out.drewN nq)
                      have c1 : (wr.drewN nq).cell? ⟨g, t + 1, none⟩ = some (.int .u8 x) := c1
                      have c0 : (wr.drewN nq).cell? ⟨g, t, none⟩ = some (.int .u8 y) := c0
                      generalize wr.drewN nq = w5 at *
                      cases bv
                      · have HF : Hid (Go.Sort.partialIns ltInt a b s (q + 1) dj = R) := HST.out
                        go_wp2_with fail
                        go_roundw
                        case rel => exact ⟨q, s, _, _, by omega, by omega, by omega, HZN.out, rfl, rfl, HS.out, HD.out, HF.out, HK.out⟩
                        case measure => (simp [intOf] <;> omega)
                      · have HF : Hid (Go.Sort.partialIns ltInt a b s (q + 1) (Go.Sort.shiftUp ltInt b (t + 1 + 1) (swp dj (t + 1) t)) = R) := HST.out
                        have HDd := Lib.hid HD.out.drew
                        have HKd := Lib.hid HK.out.drew
                        have c1 : w5.drew.cell? ⟨g, t + 1, none⟩ = some (.int .u8 x) := c1
                        have c0 : w5.drew.cell? ⟨g, t, none⟩ = some (.int .u8 y) := c0
                        go_upto_region 23 with fail
                        refine wp_region_seq (by kernel_rfl) (by kernel_rfl) ?_
                        generalize w5.drew = w6 at *
                        have f1 := HDd.out.frz (t + 1)
                        have f0 := HDd.out.frz (t)
                        have hsw := HDd.out.swap HXY.out.2.2.1 HXY.out.2.2.2
                        rw [← HXY.out.1, ← HXY.out.2.1] at hsw
                        have HSW := Lib.hid hsw
                        have HKS := Lib.hid (Keeps.trans HKd.out (keeps_swap w6 g (t + 1) (t) (.int .u8 y) (.int .u8 x)) fun _ _ h => h)
                        obtain ⟨u2, c2⟩ := HDd.out.cellset HXY.out.2.2.1 HXY.out.2.2.2 (.int .u8 y)
                        clear hsw
                        go_wp2_with fail
                        refine ⟨by kernel_rfl, ?_⟩
                        generalize (w6.setCell ⟨g, t + 1, none⟩ (.int .u8 y)).setCell ⟨g, t, none⟩ (.int .u8 x) = w7 at *
                        go_wp2_with fail
                        go_roundw
                        case rel => exact ⟨t + 1, _, by omega, by omega, by go_num, by rw [Go.Sort.swp_size]; exact HS.out, HSW.out, HF.out, HKS.out⟩
                        case measure => (simp [intOf] <;> omega)
                    · have htbi : ¬ (t : Int) + 1 < (b : Int) := by omega
                      have HF : Hid (Go.Sort.partialIns ltInt a b s (q + 1) dj = R) := by
                        show _ = _
                        have h9 := HE.out
                        rw [Go.Sort.shiftUp, if_neg htb] at h9
                        exact h9
                      clear HE
                      go_wp2_with fail
                      go_roundw
                      case rel => exact ⟨q, s, _, _, by omega, by omega, by omega, HZN.out, rfl, rfl, HS.out, HD.out, HF.out, HK.out⟩
                      case measure => (simp [intOf] <;> omega)
                · have hupi : ¬ (2 : Int) ≤ (b : Int) - ((q : Int) + 1) := by omega
                  have HF : Hid (Go.Sort.partialIns ltInt a b s (q + 1) d1 = R) := by
                    show _ = _
                    have h9 := HE.out
                    rw [Go.Sort.fixUp, if_neg hup] at h9
                    exact h9
                  clear HE
                  go_wp2_with fail
                  go_roundw
                  case rel => exact ⟨q, s, _, _, by omega, by omega, by omega, HZN.out, rfl, rfl, HS.out, HD.out, HF.out, HK.out⟩
                  case measure => (simp [intOf] <;> omega)
        · have hqb3 : q + 1 = b := by omega
          have hst : partF a b s (q + 1) dk = R := by
            have h9 := HE.out
            rw [Go.Sort.scanSorted, decide_eq_false hqb, Bool.false_and] at h9
            exact h9
          rw [partF, if_pos hqb3] at hst
          subst hst
          have hqe : ((q : Int) + 1 = (b : Int)) = True := eq_true (by omega)
          have hqd1 : decide ((q : Int) + 1 < (b : Int)) = false := decide_eq_false (by omega)
          have hqd2 : decide (q + 1 < b) = false := decide_eq_false hqb
          clear hqb3
          go_wp2_with fail
          go_quiet (fail)
          replace HD := Lib.hid (HD.out.drewN nq)
          replace HK := Lib.hid (HK.out.drewN nq)
          generalize wr.drewN nq = w5 at *
          go_wp2_with fail
          go_ret
          exact ⟨rfl, HD.out, HK.out⟩
end Go.Proofs.Yteccmnjcmmbhlaa
