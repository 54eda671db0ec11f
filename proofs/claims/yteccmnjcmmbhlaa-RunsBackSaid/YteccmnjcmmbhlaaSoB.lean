/- Bytes sorted: insertionSortOrdered. -/
import Derived.Test.YteccmnjcmmbhlaaSoA
namespace Go.Proofs.Yteccmnjcmmbhlaa
open Go.RowKit
open Go.Sort (swp ltInt)
set_option linter.unusedVariables false
set_option linter.unusedSimpArgs false

theorem insInner_succ (a j : Nat) (d : Array Int) : Go.Sort.insInner ltInt a (j + 1) d = if (decide (j + 1 > a) && ltInt d[j + 1]! d[j]!) then Go.Sort.insInner ltInt a j (swp d (j + 1) j) else d := rfl
set_option maxRecDepth 4000 in
set_option maxHeartbeats 2000000 in
theorem ins_is (w : World) (g n cap a b : Nat) (d : Array Int) (h : RowD w g cap d) (hn : d.size = n) (hab : a ≤ b) (hbn : b ≤ n) (hnb : n ≤ 1099511627776) :
    Calls Try.prog 53 #[.slice (some ⟨g, 0, none⟩) n cap, .int .i64 (a : Nat), .int .i64 (b : Nat)] w fun e w' => e = .returned (.tuple #[]) ∧ RowD w' g cap (Go.Sort.insertionSort ltInt d a b) ∧ Keeps (fun k => k = g) w w' := by
  obtain ⟨R, hR⟩ : ∃ R, R = Go.Sort.insertionSort ltInt d a b := ⟨_, rfl⟩
  rw [← hR]
  have HR : Hid (Go.Sort.insOuter ltInt a b (a + 1) d = R) := hR.symm
  have H := Lib.hid h
  have HN := Lib.hid hn
  have hni : (n : Int) ≤ 1099511627776 := by omega
  have hai : (a : Int) ≤ (b : Int) := by omega
  have hbi : (b : Int) ≤ (n : Int) := by omega
  clear h hR hn
  go_enter Try.func53, Try.ntmps53
  go_wp2_with fail
  go_loopw [6, 7] (fun vi _ wr => ∃ (i : Nat) (dk : Array Int), i ≤ b + 1 ∧ a + 1 ≤ i ∧ vi = .int .i64 (i : Nat) ∧ Hid (dk.size = n) ∧ Hid (RowD wr g cap dk) ∧ Hid (Go.Sort.insOuter ltInt a b i dk = R) ∧ Hid (Keeps (fun k => k = g) w wr)) (fun vi _ _ => b + 1 - (intOf vi).toNat)
  case atStart => exact ⟨a + 1, d, by omega, Nat.le_refl _, by simp, HN.out, H.out, HR.out, Keeps.refl _ _⟩
  case round =>
    obtain ⟨i, dk, hi, hai1, rfl, HS, HD, HE, HK⟩ := hrel
    by_cases hib : i < b
    · have hib' : (i : Int) < (b : Int) := by omega
      have hst := HE.out
      rw [Go.Sort.insOuter, if_pos hib] at hst
      have HST := Lib.hid hst
      clear hst
      go_wp2_with fail
      go_loopw [7] (fun vj wr => ∃ (j : Nat) (dj : Array Int), j ≤ i ∧ vj = .int .i64 (j : Nat) ∧ Hid (dj.size = n) ∧ Hid (RowD wr g cap dj) ∧ Hid (Go.Sort.insOuter ltInt a b (i + 1) (Go.Sort.insInner ltInt a j dj) = R) ∧ Hid (Keeps (fun k => k = g) w wr)) (fun vj _ => (intOf vj).toNat)
      case atStart => exact ⟨i, dk, Nat.le_refl _, rfl, HS.out, HD.out, HST.out, HK.out⟩
      case round =>
        clear HS HD HE HK HST
        obtain ⟨j, dj, hj, rfl, HS, HD, HE, HK⟩ := hrel
        by_cases hja : a < j
        · obtain ⟨q, rfl⟩ : ∃ q, j = q + 1 := ⟨j - 1, by omega⟩
          have hq1 : q + 1 < dj.size := by rw [HS.out]; omega
          have hq0 : q < dj.size := by omega
          have c1 := HD.out.cell hq1
          have c0 := HD.out.cell hq0
          have r1 := HD.out.rng hq1
          have r0 := HD.out.rng hq0
          have hst := HE.out
          rw [insInner_succ, decide_eq_true (show q + 1 > a from hja), Bool.true_and] at hst
          obtain ⟨x, hx⟩ : ∃ x, x = dj[q + 1]! := ⟨_, rfl⟩
          obtain ⟨y, hy⟩ : ∃ y, y = dj[q]! := ⟨_, rfl⟩
          rw [← hx] at c1 r1 hst
          rw [← hy] at c0 r0 hst
          obtain ⟨bv, hbv⟩ : ∃ bv, bv = ltInt x y := ⟨_, rfl⟩
          have HLS := Lib.hid (fun w => less_is w x y r1.1 r1.2 r0.1 r0.2)
          rw [← hbv] at hst HLS
          have HST := Lib.hid hst
          have HXY := Lib.hid (And.intro hx (And.intro hy (And.intro hq1 hq0)))
          have hja1 : decide ((a : Int) < ((q : Int) + 1)) = true := decide_eq_true (by omega)
          have hja2 : decide (a < q + 1) = true := decide_eq_true hja
          have hqi : (q : Int) + 1 < (n : Int) := by omega
          have hqc : ((q + 1 : Nat) : Int) = (q : Int) + 1 := by omega
          have hqs : (q : Int) + 1 - 1 = (q : Int) := by omega
          clear hx hy hbv hst r1 r0 hq1 hq0
          simp only [hqc]
          go_wp2_with fail
          go_quiet (refine Calls.quiet_of (HLS.out _))
          replace HD := Lib.hid (HD.out.drewN nq)
          replace HK := Lib.hid (HK.out.drewN nq)
          have c1 : (wr.drewN nq).cell? ⟨g, q + 1, none⟩ = some (.int .u8 x) := c1
          have c0 : (wr.drewN nq).cell? ⟨g, q, none⟩ = some (.int .u8 y) := c0
          generalize wr.drewN nq = w5 at *
          cases bv
          · have HE9 : Hid (Go.Sort.insOuter ltInt a b (i + 1) dj = R) := HST.out
            go_wp2_with fail
            go_roundw
            case rel => exact ⟨i + 1, dj, by omega, by omega, by go_num, HS.out, HD.out, HE9.out, HK.out⟩
            case measure => simp [intOf]; omega
          · have HE9 : Hid (Go.Sort.insOuter ltInt a b (i + 1) (Go.Sort.insInner ltInt a q (swp dj (q + 1) q)) = R) := HST.out
            have HDd := Lib.hid HD.out.drew
            have HKd := Lib.hid HK.out.drew
            have c1 : w5.drew.cell? ⟨g, q + 1, none⟩ = some (.int .u8 x) := c1
            have c0 : w5.drew.cell? ⟨g, q, none⟩ = some (.int .u8 y) := c0
            go_upto_region 6 with fail
            refine wp_region_seq (by kernel_rfl) (by kernel_rfl) ?_
            generalize w5.drew = w6 at *
            have f1 := HDd.out.frz (q + 1)
            have f0 := HDd.out.frz q
            have hsw := HDd.out.swap HXY.out.2.2.1 HXY.out.2.2.2
            rw [← HXY.out.1, ← HXY.out.2.1] at hsw
            have HSW := Lib.hid hsw
            have HKS := Lib.hid (Keeps.trans HKd.out (keeps_swap w6 g (q + 1) q (.int .u8 y) (.int .u8 x)) fun _ _ h => h)
            clear hsw
            go_wp2_with fail
            refine ⟨by kernel_rfl, ?_⟩
            go_wp2_with fail
            go_roundw
            case rel => exact ⟨q, _, by omega, by go_num, by rw [Go.Sort.swp_size]; exact HS.out, HSW.out, HE9.out, HKS.out⟩
            case measure => (simp [intOf] <;> omega)
        · have HE9 : Hid (Go.Sort.insOuter ltInt a b (i + 1) dj = R) := by
            have h9 := HE.out
            cases j with
            | zero => exact h9
            | succ q => rw [insInner_succ, decide_eq_false (by omega)] at h9; exact h9
          have hja1 : decide ((a : Int) < (j : Int)) = false := decide_eq_false (by omega)
          have hja2 : decide (a < j) = false := decide_eq_false hja
          go_wp2_with fail
          go_quiet (fail)
          go_wp2_with fail
          have HDn := Lib.hid (HD.out.drewN nq)
          have HKn := Lib.hid (HK.out.drewN nq)
          go_roundw
          case rel => exact ⟨i + 1, dj, by omega, by omega, by go_num, HS.out, HDn.out, HE9.out, HKn.out⟩
          case measure => simp [intOf]; omega
    · have hst := HE.out
      rw [Go.Sort.insOuter, if_neg hib] at hst
      subst hst
      go_wp2_with fail
      go_end0
      exact ⟨rfl, HD.out, HK.out⟩
end Go.Proofs.Yteccmnjcmmbhlaa
