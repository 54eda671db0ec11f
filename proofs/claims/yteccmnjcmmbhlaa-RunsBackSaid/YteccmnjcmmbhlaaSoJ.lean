/- Bytes sorted: partitionEqualOrdered. -/
import Derived.Test.YteccmnjcmmbhlaaSoI
namespace Go.Proofs.Yteccmnjcmmbhlaa
open Go.RowKit
open Go.Sort (swp ltInt)
set_option linter.unusedVariables false
set_option linter.unusedSimpArgs false

def FRe (a i j : Nat) (d : Array Int) : Nat × Array Int := if i > j then (i, d) else Go.Sort.partEqLoop ltInt a (i + 1) (j - 1) (swp d i j)
set_option maxRecDepth 8000 in
set_option maxHeartbeats 8000000 in
theorem parteq_is (w : World) {g n cap a b pivot : Nat} {d : Array Int} (h : RowD w g cap d) (hn : d.size = n) (hap : a ≤ pivot) (hpb : pivot < b) (hbn : b ≤ n) (hnb : n ≤ 1099511627776) :
    Calls Try.prog 60 #[.slice (some ⟨g, 0, none⟩) n cap, .int .i64 (a : Nat), .int .i64 (b : Nat), .int .i64 (pivot : Nat)] w fun e w' => e = .returned (.int .i64 ((Go.Sort.partitionEqual ltInt d a b pivot).1 : Nat)) ∧ RowD w' g cap (Go.Sort.partitionEqual ltInt d a b pivot).2 ∧ Keeps (fun k => k = g) w w' := by
  obtain ⟨R, hR⟩ : ∃ R, R = Go.Sort.partitionEqual ltInt d a b pivot := ⟨_, rfl⟩
  rw [← hR]
  have HR : Hid (Go.Sort.partEqLoop ltInt a (a + 1) (b - 1) (swp d a pivot) = R) := hR.symm
  have H := Lib.hid h
  have HN := Lib.hid hn
  have hni : (n : Int) ≤ 1099511627776 := by omega
  have hbi : (b : Int) ≤ (n : Int) := by omega
  have hani : (a : Int) < (n : Int) := by omega
  have hpni : (pivot : Int) < (n : Int) := by omega
  obtain ⟨b1, hb1⟩ : ∃ b1, b1 = b - 1 := ⟨_, rfl⟩
  have hb1i : (b : Int) - 1 = (b1 : Int) := by omega
  have hb1b : b1 < b ∧ a ≤ b1 := by omega
  rw [← hb1] at HR
  clear h hR hn hb1
  have HS := HN
  have HD := H
  have HK := Lib.hid (Keeps.refl (fun k => k = g) w)
  have hI1 : a < d.size := by rw [HS.out]; omega
  have hJ1 : pivot < d.size := by rw [HS.out]; omega
  have c1 := HD.out.cell hI1
  have c0 := HD.out.cell hJ1
  obtain ⟨x, hx⟩ : ∃ x, x = d[a]! := ⟨_, rfl⟩
  obtain ⟨y, hy⟩ : ∃ y, y = d[pivot]! := ⟨_, rfl⟩
  rw [← hx] at c1
  rw [← hy] at c0
  have HXY := Lib.hid (And.intro hx (And.intro hy (And.intro hI1 hJ1)))
  clear hx hy hI1 hJ1
  go_enter Try.func60, Try.ntmps60
  have HDd := Lib.hid HD.out.drew
  have HKd := Lib.hid HK.out.drew
  have c1 : w.drew.cell? ⟨g, a, none⟩ = some (.int .u8 x) := c1
  have c0 : w.drew.cell? ⟨g, pivot, none⟩ = some (.int .u8 y) := c0
  go_upto_region 1 with fail
  refine wp_region_seq (by kernel_rfl) (by kernel_rfl) ?_
  generalize w.drew = w6 at *
  have f1 := HDd.out.frz (a)
  have f0 := HDd.out.frz (pivot)
  have hsw := HDd.out.swap HXY.out.2.2.1 HXY.out.2.2.2
  rw [← HXY.out.1, ← HXY.out.2.1] at hsw
  have HSW := Lib.hid hsw
  have HKS := Lib.hid (Keeps.trans HKd.out (keeps_swap w6 g (a) (pivot) (.int .u8 y) (.int .u8 x)) fun _ _ h => h)
  obtain ⟨u2, c2⟩ := HDd.out.cellset HXY.out.2.2.1 HXY.out.2.2.2 (.int .u8 y)
  clear hsw
  go_wp2_with fail
  refine ⟨by kernel_rfl, ?_⟩
  generalize (w6.setCell ⟨g, a, none⟩ (.int .u8 y)).setCell ⟨g, pivot, none⟩ (.int .u8 x) = w7 at *
  have HS1 : Hid ((swp d (a) (pivot)).size = n) := by
    show _ = _
    rw [Go.Sort.swp_size]; exact HS.out
  clear HS HD HK HDd HKd HXY
  have HS := HS1
  have HD := HSW
  have HK := HKS
  clear HS1 HSW HKS c0 c1 c2 f1 f0
  generalize swp d (a) (pivot) = d1 at *
  clear H HN
  go_wp2_with fail
  go_loopw [9, 10] (fun vi vj wr => ∃ (i j : Nat) (dk : Array Int), a < i ∧ i ≤ j + 1 ∧ j < b ∧ vi = .int .i64 (i : Nat) ∧ vj = .int .i64 (j : Nat) ∧ Hid (dk.size = n) ∧ Hid (RowD wr g cap dk) ∧ Hid (Go.Sort.partEqLoop ltInt a i j dk = R) ∧ Hid (Keeps (fun k => k = g) w wr)) (fun vi vj _ => (intOf vj + 2 - intOf vi).toNat)
  case atStart => exact ⟨a + 1, b1, d1, by omega, by omega, by omega, by go_num, by go_num, HS.out, HD.out, HR.out, HK.out⟩
  case round =>
    clear HS HD HK HR
    obtain ⟨i0, j0, dk, hia, hij, hjb, rfl, rfl, HS, HD, HE0, HK⟩ := hrel
    have HE : Hid (FRe a (Go.Sort.scanUp (fun x => !ltInt dk[a]! x) dk j0 i0) (Go.Sort.scanDown (fun x => ltInt dk[a]! x) dk (Go.Sort.scanUp (fun x => !ltInt dk[a]! x) dk j0 i0) j0) dk = R) := by
      show _ = _
      rw [← HE0.out, Go.Sort.partEqLoop_eq]; rfl
    clear HE0
    go_wp2_with fail
    go_loopw [9] (fun vi wr => ∃ i, i0 ≤ i ∧ a < i ∧ i ≤ j0 + 1 ∧ vi = .int .i64 (i : Nat) ∧ Hid (RowD wr g cap dk) ∧ Hid (Keeps (fun k => k = g) w wr) ∧ Hid (FRe a (Go.Sort.scanUp (fun x => !ltInt dk[a]! x) dk j0 i) (Go.Sort.scanDown (fun x => ltInt dk[a]! x) dk (Go.Sort.scanUp (fun x => !ltInt dk[a]! x) dk j0 i) j0) dk = R)) (fun vi _ => j0 + 2 - (intOf vi).toNat)
    case atStart => exact ⟨i0, Nat.le_refl _, hia, hij, by go_num, HD.out, HK.out, HE.out⟩
    case round =>
      clear HD HK HE hia hij
      obtain ⟨i, hi0i, hia, hij, rfl, HD, HK, HE⟩ := hrel
      by_cases hle : i ≤ j0
      · have hst0 : FRe a (if (fun x => !ltInt dk[a]! x) dk[i]! then Go.Sort.scanUp (fun x => !ltInt dk[a]! x) dk j0 (i + 1) else i) (Go.Sort.scanDown (fun x => ltInt dk[a]! x) dk (if (fun x => !ltInt dk[a]! x) dk[i]! then Go.Sort.scanUp (fun x => !ltInt dk[a]! x) dk j0 (i + 1) else i) j0) dk = R := by
          have h9 := HE.out
          rw [Go.Sort.scanUp, decide_eq_true hle, Bool.true_and] at h9
          exact h9
        have HST := Lib.hid hst0
        clear hst0 HE
        have hlei : (i : Int) ≤ (j0 : Int) := by omega
        have hld1 : decide ((i : Int) ≤ (j0 : Int)) = true := decide_eq_true hlei
        have hld2 : decide (i ≤ j0) = true := decide_eq_true hle
        have hin : (i : Int) < (n : Int) := by omega
        have hu1 : a < dk.size := by rw [HS.out]; omega
        have hu0 : i < dk.size := by rw [HS.out]; omega
        have c1 := HD.out.cell hu1
        have c0 := HD.out.cell hu0
        have r1 := HD.out.rng hu1
        have r0 := HD.out.rng hu0
        obtain ⟨x, hx⟩ : ∃ x, x = dk[a]! := ⟨_, rfl⟩
        obtain ⟨y, hy⟩ : ∃ y, y = dk[i]! := ⟨_, rfl⟩
        rw [← hx] at c1 r1
        rw [← hy] at c0 r0
        obtain ⟨bv, hbv⟩ : ∃ bv, bv = ltInt x y := ⟨_, rfl⟩
        have HLS := Lib.hid (fun w => less_is w x y r1.1 r1.2 r0.1 r0.2)
        rw [← hbv] at HLS
        have HB : Hid (ltInt dk[a]! dk[i]! = bv) := by
          show _ = _
          rw [hbv, hx, hy]
        clear hx hy hbv r1 r0 hu1 hu0
        go_wp2_with fail
        go_quiet (refine Calls.quiet_of (HLS.out _))
        replace HD := Lib.hid (HD.out.drewN nq)
        replace HK := Lib.hid (HK.out.drewN nq)
        clear c1 c0
        generalize wr.drewN nq = w5 at *
        cases bv
        · try simp only [Bool.not_true, Bool.not_false]
          have HF : Hid (FRe a (Go.Sort.scanUp (fun x => !ltInt dk[a]! x) dk j0 (i + 1)) (Go.Sort.scanDown (fun x => ltInt dk[a]! x) dk (Go.Sort.scanUp (fun x => !ltInt dk[a]! x) dk j0 (i + 1)) j0) dk = R) := by
            show _ = _
            have h9 := HST.out
            rw [if_pos (by simp only [HB.out, Bool.not_false, Bool.not_true])] at h9
            exact h9
          go_wp2_with fail
          go_roundw
          case rel => exact ⟨i + 1, by omega, by omega, by omega, by go_num, HD.out, HK.out, HF.out⟩
          case measure => (simp [intOf] <;> omega)
        · try simp only [Bool.not_true, Bool.not_false]
          have HF : Hid (FRe a i (Go.Sort.scanDown (fun x => ltInt dk[a]! x) dk i j0) dk = R) := by
            show _ = _
            have h9 := HST.out
            rw [if_neg (by simp [HB.out])] at h9
            exact h9
          have HP : Hid (ltInt dk[a]! dk[i]! = true) := HB.out
          clear HST HB HLS
          go_wp2_with fail
          go_loopw [10] (fun vj wr => ∃ j, j ≤ j0 ∧ i ≤ j + 1 ∧ j < b ∧ vj = .int .i64 (j : Nat) ∧ Hid (RowD wr g cap dk) ∧ Hid (Keeps (fun k => k = g) w wr) ∧ Hid (FRe a i (Go.Sort.scanDown (fun x => ltInt dk[a]! x) dk i j) dk = R)) (fun vj _ => (intOf vj).toNat)
          case atStart => exact ⟨j0, Nat.le_refl _, hij, hjb, rfl, HD.out, HK.out, HF.out⟩
          case round =>
            clear HD HK HF hij hle hlei hld1 hld2
            obtain ⟨j, hj0j, hij, hjb, rfl, HD, HK, HE⟩ := hrel
            by_cases hle : i ≤ j
            · obtain ⟨t, rfl⟩ : ∃ t, j = t + 1 := ⟨j - 1, by omega⟩
              have hqc : ((t + 1 : Nat) : Int) = (t : Int) + 1 := by omega
              have hst0 : FRe a i (if (fun x => ltInt dk[a]! x) dk[t + 1]! then Go.Sort.scanDown (fun x => ltInt dk[a]! x) dk i t else t + 1) dk = R := by
                have h9 := HE.out
                rw [Go.Sort.scanDown, decide_eq_true hle, Bool.true_and] at h9
                exact h9
              have HST := Lib.hid hst0
              clear hst0 HE
              have hlei : (i : Int) ≤ (t : Int) + 1 := by omega
              have hld1 : decide ((i : Int) ≤ (t : Int) + 1) = true := decide_eq_true hlei
              have hld2 : decide (i ≤ t + 1) = true := decide_eq_true hle
              have htn : (t : Int) + 1 < (n : Int) := by omega
              have hts : (t : Int) + 1 - 1 = (t : Int) := by omega
              simp only [hqc]
              have hu1 : a < dk.size := by rw [HS.out]; omega
              have hu0 : t + 1 < dk.size := by rw [HS.out]; omega
              have c1 := HD.out.cell hu1
              have c0 := HD.out.cell hu0
              have r1 := HD.out.rng hu1
              have r0 := HD.out.rng hu0
              obtain ⟨x, hx⟩ : ∃ x, x = dk[a]! := ⟨_, rfl⟩
              obtain ⟨y, hy⟩ : ∃ y, y = dk[t + 1]! := ⟨_, rfl⟩
              rw [← hx] at c1 r1
              rw [← hy] at c0 r0
              obtain ⟨bv, hbv⟩ : ∃ bv, bv = ltInt x y := ⟨_, rfl⟩
              have HLS := Lib.hid (fun w => less_is w x y r1.1 r1.2 r0.1 r0.2)
              rw [← hbv] at HLS
              have HB : Hid (ltInt dk[a]! dk[t + 1]! = bv) := by
                show _ = _
                rw [hbv, hx, hy]
              clear hx hy hbv r1 r0 hu1 hu0
              go_wp2_with fail
              go_quiet (refine Calls.quiet_of (HLS.out _))
              replace HD := Lib.hid (HD.out.drewN nq)
              replace HK := Lib.hid (HK.out.drewN nq)
              clear c1 c0
              generalize wr.drewN nq = w5 at *
              cases bv
              · try simp only [Bool.not_true, Bool.not_false]
                have HF : Hid (FRe a i (t + 1) dk = R) := by
                  show _ = _
                  have h9 := HST.out
                  rw [if_neg (by simp [HB.out])] at h9
                  exact h9
                have hit : i < t + 1 := by
                  rcases Nat.lt_or_ge i (t + 1) with h9 | h9
                  · exact h9
                  · have h8 : i = t + 1 := by omega
                    have h7 := HP.out
                    rw [h8, HB.out] at h7
                    exact absurd h7 (by decide)
                clear HST HB HLS HP
                have HG : Hid (Go.Sort.partEqLoop ltInt a (i + 1) t (swp dk i (t + 1)) = R) := by
                  show _ = _
                  have h9 := HF.out
                  rw [FRe, if_neg (by omega), Nat.add_sub_cancel] at h9
                  exact h9
                clear HF
                have hiti : ¬ (t : Int) + 1 < (i : Int) := by omega
                have hI1 : i < dk.size := by rw [HS.out]; omega
                have hJ1 : t + 1 < dk.size := by rw [HS.out]; omega
                have c1 := HD.out.cell hI1
                have c0 := HD.out.cell hJ1
                obtain ⟨x, hx⟩ : ∃ x, x = dk[i]! := ⟨_, rfl⟩
                obtain ⟨y, hy⟩ : ∃ y, y = dk[t + 1]! := ⟨_, rfl⟩
                rw [← hx] at c1
                rw [← hy] at c0
                have HXY := Lib.hid (And.intro hx (And.intro hy (And.intro hI1 hJ1)))
                clear hx hy hI1 hJ1
                have HDd := Lib.hid HD.out.drew
                have HKd := Lib.hid HK.out.drew
                have c1 : w5.drew.cell? ⟨g, i, none⟩ = some (.int .u8 x) := c1
                have c0 : w5.drew.cell? ⟨g, t + 1, none⟩ = some (.int .u8 y) := c0
                go_upto_region 8 with fail
                refine wp_region_seq (by kernel_rfl) (by kernel_rfl) ?_
                generalize w5.drew = w6 at *
                have f1 := HDd.out.frz (i)
                have f0 := HDd.out.frz (t + 1)
                have hsw := HDd.out.swap HXY.out.2.2.1 HXY.out.2.2.2
                rw [← HXY.out.1, ← HXY.out.2.1] at hsw
                have HSW := Lib.hid hsw
                have HKS := Lib.hid (Keeps.trans HKd.out (keeps_swap w6 g (i) (t + 1) (.int .u8 y) (.int .u8 x)) fun _ _ h => h)
                obtain ⟨u2, c2⟩ := HDd.out.cellset HXY.out.2.2.1 HXY.out.2.2.2 (.int .u8 y)
                clear hsw
                go_wp2_with fail
                refine ⟨by kernel_rfl, ?_⟩
                generalize (w6.setCell ⟨g, i, none⟩ (.int .u8 y)).setCell ⟨g, t + 1, none⟩ (.int .u8 x) = w7 at *
                go_wp2_with fail
                go_roundw
                case rel => exact ⟨i + 1, t, _, by omega, by omega, by omega, by go_num, by go_num, by rw [Go.Sort.swp_size]; exact HS.out, HSW.out, HG.out, HKS.out⟩
                case measure => (simp [intOf] <;> omega)
              · try simp only [Bool.not_true, Bool.not_false]
                have HF : Hid (FRe a i (Go.Sort.scanDown (fun x => ltInt dk[a]! x) dk i t) dk = R) := by
                  show _ = _
                  have h9 := HST.out
                  rw [if_pos (by simp only [HB.out, Bool.not_false, Bool.not_true])] at h9
                  exact h9
                go_wp2_with fail
                go_roundw
                case rel => exact ⟨t, by omega, by omega, by omega, by go_num, HD.out, HK.out, HF.out⟩
                case measure => (simp [intOf] <;> omega)
            · have hlei : ¬ (i : Int) ≤ (j : Int) := by omega
              have hld1 : decide ((i : Int) ≤ (j : Int)) = false := decide_eq_false hlei
              have hld2 : decide (i ≤ j) = false := decide_eq_false hle
              have HF : Hid (FRe a i j dk = R) := by
                show _ = _
                have h9 := HE.out
                have h8 : Go.Sort.scanDown (fun x => ltInt dk[a]! x) dk i j = j := by
                  cases j with
                  | zero => rfl
                  | succ t => rw [Go.Sort.scanDown, decide_eq_false hle, Bool.false_and]; rfl
                rw [h8] at h9
                exact h9
              clear HE HP
              go_wp2_with fail
              go_quiet (fail)
              replace HD := Lib.hid (HD.out.drewN nq)
              replace HK := Lib.hid (HK.out.drewN nq)
              generalize wr.drewN nq = w5 at *
              have hR9 : (i, dk) = R := by
                have h9 := HF.out
                rw [FRe, if_pos (by omega)] at h9
                exact h9
              subst hR9
              go_wp2_with fail
              go_ret
              exact ⟨rfl, HD.out, HK.out⟩
      · have hlei : ¬ (i : Int) ≤ (j0 : Int) := by omega
        have hld1 : decide ((i : Int) ≤ (j0 : Int)) = false := decide_eq_false hlei
        have hld2 : decide (i ≤ j0) = false := decide_eq_false hle
        have HF : Hid (FRe a i j0 dk = R) := by
          show _ = _
          have h9 := HE.out
          have h8 : Go.Sort.scanUp (fun x => !ltInt dk[a]! x) dk j0 i = i := by
            rw [Go.Sort.scanUp, decide_eq_false hle, Bool.false_and]; rfl
          have h7 : Go.Sort.scanDown (fun x => ltInt dk[a]! x) dk i j0 = j0 := by
            cases j0 with
            | zero => rfl
            | succ t => rw [Go.Sort.scanDown, decide_eq_false hle, Bool.false_and]; rfl
          rw [h8, h7] at h9
          exact h9
        clear HE
        go_wp2_with fail
        go_quiet (fail)
        replace HD := Lib.hid (HD.out.drewN nq)
        replace HK := Lib.hid (HK.out.drewN nq)
        generalize wr.drewN nq = w5 at *
        go_wp2_with fail
        go_loopw [10] (fun vj wr => ∃ j, j < i ∧ a ≤ j ∧ j < b ∧ vj = .int .i64 (j : Nat) ∧ Hid (RowD wr g cap dk) ∧ Hid (Keeps (fun k => k = g) w wr) ∧ Hid (FRe a i j dk = R)) (fun _ _ => 0)
        case atStart => exact ⟨j0, by omega, by omega, hjb, rfl, HD.out, HK.out, HF.out⟩
        case round =>
          clear HD HK HF hle hlei hld1 hld2 hij
          obtain ⟨j, hji, haj, hjb, rfl, HD, HK, HF⟩ := hrel
          have hle : ¬ i ≤ j := by omega
          have hlei : ¬ (i : Int) ≤ (j : Int) := by omega
          have hld1 : decide ((i : Int) ≤ (j : Int)) = false := decide_eq_false hlei
          have hld2 : decide (i ≤ j) = false := decide_eq_false hle
          go_wp2_with fail
          go_quiet (fail)
          replace HD := Lib.hid (HD.out.drewN nq)
          replace HK := Lib.hid (HK.out.drewN nq)
          generalize wr.drewN nq = w5 at *
          have hR9 : (i, dk) = R := by
            have h9 := HF.out
            rw [FRe, if_pos (by omega)] at h9
            exact h9
          subst hR9
          go_wp2_with fail
          go_ret
          exact ⟨rfl, HD.out, HK.out⟩
end Go.Proofs.Yteccmnjcmmbhlaa
