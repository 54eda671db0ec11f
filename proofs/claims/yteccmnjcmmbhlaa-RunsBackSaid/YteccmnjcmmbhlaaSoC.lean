/- Bytes sorted: reverseRangeOrdered, siftDownOrdered, heapSortOrdered. -/
import Derived.Test.YteccmnjcmmbhlaaSoA
namespace Go.Proofs.Yteccmnjcmmbhlaa
open Go.RowKit
open Go.Sort (swp ltInt)
set_option linter.unusedVariables false
set_option linter.unusedSimpArgs false

set_option maxRecDepth 4000 in
set_option maxHeartbeats 2000000 in
theorem rev_is (w : World) (g n cap a b : Nat) (d : Array Int) (h : RowD w g cap d) (hn : d.size = n) (hab : a < b) (hbn : b ≤ n) (hnb : n ≤ 1099511627776) :
    Calls Try.prog 57 #[.slice (some ⟨g, 0, none⟩) n cap, .int .i64 (a : Nat), .int .i64 (b : Nat)] w fun e w' => e = .returned (.tuple #[]) ∧ RowD w' g cap (Go.Sort.reverseRange d a b) ∧ Keeps (fun k => k = g) w w' := by
  obtain ⟨R, hR⟩ : ∃ R, R = Go.Sort.reverseRange d a b := ⟨_, rfl⟩
  rw [← hR]
  have HR : Hid (Go.Sort.reverseLoop a (b - 1) d = R) := hR.symm
  have H := Lib.hid h
  have HN := Lib.hid hn
  obtain ⟨b1, hb1⟩ : ∃ b1, b1 = b - 1 := ⟨_, rfl⟩
  have hb1i : (b : Int) - 1 = (b1 : Int) := by omega
  rw [← hb1] at HR
  have hni : (n : Int) ≤ 1099511627776 := by omega
  have hb1n : b1 < n := by omega
  have han : a < n := by omega
  clear h hR hn hb1
  go_enter Try.func57, Try.ntmps57
  go_wp2_with fail
  go_loopw [6, 7] (fun vi vj wr => ∃ (i j : Nat) (dk : Array Int), i ≤ n ∧ j < n ∧ vi = .int .i64 (i : Nat) ∧ vj = .int .i64 (j : Nat) ∧ Hid (dk.size = n) ∧ Hid (RowD wr g cap dk) ∧ Hid (Go.Sort.reverseLoop i j dk = R) ∧ Hid (Keeps (fun k => k = g) w wr)) (fun _ vj _ => (intOf vj).toNat)
  case atStart => exact ⟨a, b1, d, by omega, hb1n, rfl, rfl, HN.out, H.out, HR.out, Keeps.refl _ _⟩
  case round =>
    obtain ⟨i, j, dk, hi, hj, rfl, rfl, HS, HD, HE, HK⟩ := hrel
    by_cases hij : i < j
    · have hij' : (i : Int) < (j : Int) := by omega
      have hjn : (j : Int) < (n : Int) := by omega
      have hin : (i : Int) < (n : Int) := by omega
      have hi1 : i < dk.size := by rw [HS.out]; omega
      have hj1 : j < dk.size := by rw [HS.out]; omega
      have c1 := HD.out.cell hi1
      have c0 := HD.out.cell hj1
      have hst := HE.out
      rw [Go.Sort.reverseLoop, if_pos hij] at hst
      obtain ⟨x, hx⟩ : ∃ x, x = dk[i]! := ⟨_, rfl⟩
      obtain ⟨y, hy⟩ : ∃ y, y = dk[j]! := ⟨_, rfl⟩
      rw [← hx] at c1
      rw [← hy] at c0
      have HST := Lib.hid hst
      have HXY := Lib.hid (And.intro hx (And.intro hy (And.intro hi1 hj1)))
      obtain ⟨j1, hj1e⟩ : ∃ j1, j1 = j - 1 := ⟨_, rfl⟩
      have hj1i : (j : Int) - 1 = (j1 : Int) := by omega
      have HJ1 := Lib.hid hj1e
      clear hx hy hst hi1 hj1 hj1e
      have HDd := Lib.hid HD.out.drew
      have HKd := Lib.hid HK.out.drew
      have c1 : wr.drew.cell? ⟨g, i, none⟩ = some (.int .u8 x) := c1
      have c0 : wr.drew.cell? ⟨g, j, none⟩ = some (.int .u8 y) := c0
      go_upto_region 3 with fail
      refine wp_region_seq (by kernel_rfl) (by kernel_rfl) ?_
      generalize wr.drew = w6 at *
      have f1 := HDd.out.frz (i)
      have f0 := HDd.out.frz (j)
      have hsw := HDd.out.swap HXY.out.2.2.1 HXY.out.2.2.2
      rw [← HXY.out.1, ← HXY.out.2.1] at hsw
      have HSW := Lib.hid hsw
      have HKS := Lib.hid (Keeps.trans HKd.out (keeps_swap w6 g (i) (j) (.int .u8 y) (.int .u8 x)) fun _ _ h => h)
      clear hsw
      go_wp2_with fail
      refine ⟨by kernel_rfl, ?_⟩
      go_wp2_with fail
      go_roundw
      case rel => exact ⟨i + 1, j1, _, by omega, by have := HJ1.out; omega, by go_num, rfl, by rw [Go.Sort.swp_size]; exact HS.out, HSW.out, by rw [HJ1.out]; exact HST.out, HKS.out⟩
      case measure => have := HJ1.out; (simp [intOf] <;> omega)
    · have hst := HE.out
      rw [Go.Sort.reverseLoop, if_neg hij] at hst
      subst hst
      go_wp2_with fail
      go_end0
      exact ⟨rfl, HD.out, HK.out⟩
set_option maxRecDepth 4000 in
set_option maxHeartbeats 4000000 in
theorem sift_is (w : World) (g n cap lo hi first : Nat) (d : Array Int) (h : RowD w g cap d) (hn : d.size = n) (hfn : first + hi ≤ n) (hlo : lo ≤ n) (hnb : n ≤ 1099511627776) :
    Calls Try.prog 64 #[.slice (some ⟨g, 0, none⟩) n cap, .int .i64 (lo : Nat), .int .i64 (hi : Nat), .int .i64 (first : Nat)] w fun e w' => e = .returned (.tuple #[]) ∧ RowD w' g cap (Go.Sort.siftDown ltInt hi first lo d) ∧ Keeps (fun k => k = g) w w' := by
  obtain ⟨R, hR⟩ : ∃ R, R = Go.Sort.siftDown ltInt hi first lo d := ⟨_, rfl⟩
  rw [← hR]
  have HR : Hid (Go.Sort.siftDown ltInt hi first lo d = R) := hR.symm
  have H := Lib.hid h
  have HN := Lib.hid hn
  have hni : (n : Int) ≤ 1099511627776 := by omega
  have hfi : (first : Int) + (hi : Int) ≤ (n : Int) := by omega
  clear h hR hn
  go_enter Try.func64, Try.ntmps64
  go_wp2_with fail
  go_loopw [8, 9] (fun vr _ wr => ∃ (root : Nat) (dk : Array Int), root ≤ n ∧ vr = .int .i64 (root : Nat) ∧ Hid (dk.size = n) ∧ Hid (RowD wr g cap dk) ∧ Hid (Go.Sort.siftDown ltInt hi first root dk = R) ∧ Hid (Keeps (fun k => k = g) w wr)) (fun vr _ _ => n + 1 - (intOf vr).toNat)
  case atStart => exact ⟨lo, d, hlo, rfl, HN.out, H.out, HR.out, Keeps.refl _ _⟩
  case round =>
    obtain ⟨root, dk, hrn, rfl, HS, HD, HE, HK⟩ := hrel
    have hri : (root : Int) ≤ 1099511627776 := by omega
    obtain ⟨ch, hchE⟩ : ∃ ch, ch = 2 * root + 1 := ⟨_, rfl⟩
    have hci : 2 * (root : Int) + 1 = (ch : Int) := by omega
    by_cases hge : hi ≤ ch
    · have hst := HE.out
      rw [Go.Sort.siftDown, dif_pos (by omega)] at hst
      subst hst
      have hgi : (hi : Int) ≤ (ch : Int) := by omega
      have hg1 : decide ((hi : Int) ≤ (ch : Int)) = true := decide_eq_true hgi
      clear hchE
      go_wp2_with fail
      go_end0
      exact ⟨rfl, HD.out, HK.out⟩
    · have hgi : ¬ (hi : Int) ≤ (ch : Int) := by omega
      have hg1 : decide ((hi : Int) ≤ (ch : Int)) = false := decide_eq_false hgi
      have hst0 := HE.out
      rw [Go.Sort.siftDown, dif_neg (by omega), ← hchE] at hst0
      by_cases hc2 : ch + 1 < hi
      · have hc2i : (ch : Int) + 1 < (hi : Int) := by omega
        have hc2d : decide ((ch : Int) + 1 < (hi : Int)) = true := decide_eq_true hc2i
        have hc2n : decide (ch + 1 < hi) = true := decide_eq_true hc2
        obtain ⟨u, hu⟩ : ∃ u, u = first + ch := ⟨_, rfl⟩
        have hu1 : u < dk.size := by rw [HS.out]; omega
        have hu2 : u + 1 < dk.size := by rw [HS.out]; omega
        have k1 := HD.out.cell hu1
        have k2 := HD.out.cell hu2
        have s1 := HD.out.rng hu1
        have s2 := HD.out.rng hu2
        rw [← hu, decide_eq_true hc2, Bool.true_and] at hst0
        obtain ⟨xa, hxa⟩ : ∃ xa, xa = dk[u]! := ⟨_, rfl⟩
        obtain ⟨ya, hya⟩ : ∃ ya, ya = dk[u + 1]! := ⟨_, rfl⟩
        rw [← hxa] at k1 s1
        rw [← hya] at k2 s2
        rw [← hxa, ← hya] at hst0
        obtain ⟨b1, hb1⟩ : ∃ b1, b1 = ltInt xa ya := ⟨_, rfl⟩
        have HL1 := Lib.hid (fun w => less_is w xa ya s1.1 s1.2 s2.1 s2.2)
        rw [← hb1] at hst0 HL1
        have HST0 := Lib.hid hst0
        have hui : (first : Int) + (ch : Int) = (u : Int) := by omega
        have hun : (u : Int) + 1 < (n : Int) := by rw [HS.out] at hu2; omega
        have HU := Lib.hid (And.intro hu (And.intro hchE hxa))
        clear hu hchE hu1 hu2 s1 s2 hxa hya hb1 hst0
        go_wp2_with fail
        go_quiet (refine Calls.quiet_of (HL1.out _))
        replace HD := Lib.hid (HD.out.drewN nq)
        replace HK := Lib.hid (HK.out.drewN nq)
        clear k1 k2 HL1
        generalize wr.drewN nq = w4 at *
        cases b1
        · have HST : Hid ((if !ltInt dk[first + root]! dk[first + ch]! then dk else Go.Sort.siftDown ltInt hi first ch (swp dk (first + root) (first + ch))) = R) := by
            show _ = _
            have h9 := HST0.out
            rw [if_neg (by decide), HU.out.2.2, HU.out.1] at h9
            exact h9
          have hchild : ch < hi ∧ root < ch ∧ ch ≤ n := by have := HU.out.2.1; omega
          clear hui hun HU HST0 hc2 hc2d hc2n hc2i
          have hch := hchild
          obtain ⟨p, hp⟩ : ∃ p, p = first + root := ⟨_, rfl⟩
          obtain ⟨q, hq⟩ : ∃ q, q = first + ch := ⟨_, rfl⟩
          have hp1 : p < dk.size := by rw [HS.out]; omega
          have hq1 : q < dk.size := by rw [HS.out]; omega
          have c1 := HD.out.cell hp1
          have c0 := HD.out.cell hq1
          have r1 := HD.out.rng hp1
          have r0 := HD.out.rng hq1
          have hst := HST.out
          rw [← hp, ← hq] at hst
          obtain ⟨x, hx⟩ : ∃ x, x = dk[p]! := ⟨_, rfl⟩
          obtain ⟨y, hy⟩ : ∃ y, y = dk[q]! := ⟨_, rfl⟩
          rw [← hx] at c1 r1 hst
          rw [← hy] at c0 r0 hst
          obtain ⟨b2, hb2⟩ : ∃ b2, b2 = ltInt x y := ⟨_, rfl⟩
          have HLS := Lib.hid (fun w => less_is w x y r1.1 r1.2 r0.1 r0.2)
          rw [← hb2] at hst HLS
          have HST2 := Lib.hid hst
          have HXY := Lib.hid (And.intro hx (And.intro hy (And.intro hp1 hq1)))
          have hpi : (first : Int) + (root : Int) = (p : Int) := by omega
          have hqi : (first : Int) + (ch : Int) = (q : Int) := by omega
          have hpn : (p : Int) < (n : Int) := by rw [HS.out] at hp1; omega
          have hqn : (q : Int) < (n : Int) := by rw [HS.out] at hq1; omega
          have HCH := Lib.hid hch
          clear hx hy hb2 hst r1 r0 hp1 hq1 hp hq hch HST hchild
          go_wp2_with fail
          go_quiet (refine Calls.quiet_of (HLS.out _))
          replace HD := Lib.hid (HD.out.drewN nq)
          replace HK := Lib.hid (HK.out.drewN nq)
          have c1 : (w4.drewN nq).cell? ⟨g, p, none⟩ = some (.int .u8 x) := c1
          have c0 : (w4.drewN nq).cell? ⟨g, q, none⟩ = some (.int .u8 y) := c0
          generalize w4.drewN nq = w5 at *
          cases b2
          · have HR9 : Hid (dk = R) := HST2.out
            go_wp2_with fail
            refine bodyPost_ret (results_none rfl _ _ _) rfl ⟨rfl, by rw [← HR9.out]; exact HD.out, HK.out⟩
          · have HE9 : Hid (Go.Sort.siftDown ltInt hi first ch (swp dk p q) = R) := HST2.out
            have HDd := Lib.hid HD.out.drew
            have HKd := Lib.hid HK.out.drew
            have c1 : w5.drew.cell? ⟨g, p, none⟩ = some (.int .u8 x) := c1
            have c0 : w5.drew.cell? ⟨g, q, none⟩ = some (.int .u8 y) := c0
            go_upto_region 6 with fail
            refine wp_region_seq (by kernel_rfl) (by kernel_rfl) ?_
            generalize w5.drew = w6 at *
            have f1 := HDd.out.frz (p)
            have f0 := HDd.out.frz (q)
            have hsw := HDd.out.swap HXY.out.2.2.1 HXY.out.2.2.2
            rw [← HXY.out.1, ← HXY.out.2.1] at hsw
            have HSW := Lib.hid hsw
            have HKS := Lib.hid (Keeps.trans HKd.out (keeps_swap w6 g (p) (q) (.int .u8 y) (.int .u8 x)) fun _ _ h => h)
            clear hsw
            go_wp2_with fail
            refine ⟨by kernel_rfl, ?_⟩
            go_wp2_with fail
            go_roundw
            case rel => exact ⟨ch, _, by have := HCH.out; omega, rfl, by rw [Go.Sort.swp_size]; exact HS.out, HSW.out, HE9.out, HKS.out⟩
            case measure => have := HCH.out; (simp [intOf] <;> omega)
        · obtain ⟨ch0, hch0⟩ : ∃ ch0, ch0 = ch := ⟨_, rfl⟩
          have hc1i : (ch : Int) + 1 = ((ch + 1 : Nat) : Int) := by omega
          obtain ⟨ch, hchN⟩ : ∃ c, c = ch + 1 := ⟨_, rfl⟩
          rw [← hchN] at hc1i
          have HST : Hid ((if !ltInt dk[first + root]! dk[first + ch]! then dk else Go.Sort.siftDown ltInt hi first ch (swp dk (first + root) (first + ch))) = R) := by
            show _ = _
            have h9 := HST0.out
            have e2 : 2 * root + 2 = ch := by have := HU.out.2.1; omega
            simp only [if_true] at h9
            rw [e2, dif_pos (by omega)] at h9
            exact h9
          have hchild : ch < hi ∧ root < ch ∧ ch ≤ n := by have := HU.out.2.1; omega
          clear hui hun HU HST0 hc2 hc2d hc2n hc2i hch0 hchN
          have hch := hchild
          obtain ⟨p, hp⟩ : ∃ p, p = first + root := ⟨_, rfl⟩
          obtain ⟨q, hq⟩ : ∃ q, q = first + ch := ⟨_, rfl⟩
          have hp1 : p < dk.size := by rw [HS.out]; omega
          have hq1 : q < dk.size := by rw [HS.out]; omega
          have c1 := HD.out.cell hp1
          have c0 := HD.out.cell hq1
          have r1 := HD.out.rng hp1
          have r0 := HD.out.rng hq1
          have hst := HST.out
          rw [← hp, ← hq] at hst
          obtain ⟨x, hx⟩ : ∃ x, x = dk[p]! := ⟨_, rfl⟩
          obtain ⟨y, hy⟩ : ∃ y, y = dk[q]! := ⟨_, rfl⟩
          rw [← hx] at c1 r1 hst
          rw [← hy] at c0 r0 hst
          obtain ⟨b2, hb2⟩ : ∃ b2, b2 = ltInt x y := ⟨_, rfl⟩
          have HLS := Lib.hid (fun w => less_is w x y r1.1 r1.2 r0.1 r0.2)
          rw [← hb2] at hst HLS
          have HST2 := Lib.hid hst
          have HXY := Lib.hid (And.intro hx (And.intro hy (And.intro hp1 hq1)))
          have hpi : (first : Int) + (root : Int) = (p : Int) := by omega
          have hqi : (first : Int) + (ch : Int) = (q : Int) := by omega
          have hpn : (p : Int) < (n : Int) := by rw [HS.out] at hp1; omega
          have hqn : (q : Int) < (n : Int) := by rw [HS.out] at hq1; omega
          have HCH := Lib.hid hch
          clear hx hy hb2 hst r1 r0 hp1 hq1 hp hq hch HST hchild
          go_wp2_with fail
          go_quiet (refine Calls.quiet_of (HLS.out _))
          replace HD := Lib.hid (HD.out.drewN nq)
          replace HK := Lib.hid (HK.out.drewN nq)
          have c1 : (w4.drewN nq).cell? ⟨g, p, none⟩ = some (.int .u8 x) := c1
          have c0 : (w4.drewN nq).cell? ⟨g, q, none⟩ = some (.int .u8 y) := c0
          generalize w4.drewN nq = w5 at *
          cases b2
          · have HR9 : Hid (dk = R) := HST2.out
            go_wp2_with fail
            refine bodyPost_ret (results_none rfl _ _ _) rfl ⟨rfl, by rw [← HR9.out]; exact HD.out, HK.out⟩
          · have HE9 : Hid (Go.Sort.siftDown ltInt hi first ch (swp dk p q) = R) := HST2.out
            have HDd := Lib.hid HD.out.drew
            have HKd := Lib.hid HK.out.drew
            have c1 : w5.drew.cell? ⟨g, p, none⟩ = some (.int .u8 x) := c1
            have c0 : w5.drew.cell? ⟨g, q, none⟩ = some (.int .u8 y) := c0
            go_upto_region 6 with fail
            refine wp_region_seq (by kernel_rfl) (by kernel_rfl) ?_
            generalize w5.drew = w6 at *
            have f1 := HDd.out.frz (p)
            have f0 := HDd.out.frz (q)
            have hsw := HDd.out.swap HXY.out.2.2.1 HXY.out.2.2.2
            rw [← HXY.out.1, ← HXY.out.2.1] at hsw
            have HSW := Lib.hid hsw
            have HKS := Lib.hid (Keeps.trans HKd.out (keeps_swap w6 g (p) (q) (.int .u8 y) (.int .u8 x)) fun _ _ h => h)
            clear hsw
            go_wp2_with fail
            refine ⟨by kernel_rfl, ?_⟩
            go_wp2_with fail
            go_roundw
            case rel => exact ⟨ch, _, by have := HCH.out; omega, rfl, by rw [Go.Sort.swp_size]; exact HS.out, HSW.out, HE9.out, HKS.out⟩
            case measure => have := HCH.out; (simp [intOf] <;> omega)
      · have hc2i : ¬ (ch : Int) + 1 < (hi : Int) := by omega
        have hc2d : decide ((ch : Int) + 1 < (hi : Int)) = false := decide_eq_false hc2i
        have hc2n : decide (ch + 1 < hi) = false := decide_eq_false hc2
        have HST : Hid ((if !ltInt dk[first + root]! dk[first + ch]! then dk else Go.Sort.siftDown ltInt hi first ch (swp dk (first + root) (first + ch))) = R) := by
          show _ = _
          rw [decide_eq_false hc2, Bool.false_and] at hst0
          exact hst0
        have hchild : ch < hi ∧ root < ch ∧ ch ≤ n := by omega
        clear hst0 hchE hc2
        go_wp2_with fail
        go_quiet (fail)
        replace HD := Lib.hid (HD.out.drewN nq)
        replace HK := Lib.hid (HK.out.drewN nq)
        generalize wr.drewN nq = w4 at *
        clear hc2d hc2n hc2i
        have hch := hchild
        obtain ⟨p, hp⟩ : ∃ p, p = first + root := ⟨_, rfl⟩
        obtain ⟨q, hq⟩ : ∃ q, q = first + ch := ⟨_, rfl⟩
        have hp1 : p < dk.size := by rw [HS.out]; omega
        have hq1 : q < dk.size := by rw [HS.out]; omega
        have c1 := HD.out.cell hp1
        have c0 := HD.out.cell hq1
        have r1 := HD.out.rng hp1
        have r0 := HD.out.rng hq1
        have hst := HST.out
        rw [← hp, ← hq] at hst
        obtain ⟨x, hx⟩ : ∃ x, x = dk[p]! := ⟨_, rfl⟩
        obtain ⟨y, hy⟩ : ∃ y, y = dk[q]! := ⟨_, rfl⟩
        rw [← hx] at c1 r1 hst
        rw [← hy] at c0 r0 hst
        obtain ⟨b2, hb2⟩ : ∃ b2, b2 = ltInt x y := ⟨_, rfl⟩
        have HLS := Lib.hid (fun w => less_is w x y r1.1 r1.2 r0.1 r0.2)
        rw [← hb2] at hst HLS
        have HST2 := Lib.hid hst
        have HXY := Lib.hid (And.intro hx (And.intro hy (And.intro hp1 hq1)))
        have hpi : (first : Int) + (root : Int) = (p : Int) := by omega
        have hqi : (first : Int) + (ch : Int) = (q : Int) := by omega
        have hpn : (p : Int) < (n : Int) := by rw [HS.out] at hp1; omega
        have hqn : (q : Int) < (n : Int) := by rw [HS.out] at hq1; omega
        have HCH := Lib.hid hch
        clear hx hy hb2 hst r1 r0 hp1 hq1 hp hq hch HST hchild
        go_wp2_with fail
        go_quiet (refine Calls.quiet_of (HLS.out _))
        replace HD := Lib.hid (HD.out.drewN nq)
        replace HK := Lib.hid (HK.out.drewN nq)
        have c1 : (w4.drewN nq).cell? ⟨g, p, none⟩ = some (.int .u8 x) := c1
        have c0 : (w4.drewN nq).cell? ⟨g, q, none⟩ = some (.int .u8 y) := c0
        generalize w4.drewN nq = w5 at *
        cases b2
        · have HR9 : Hid (dk = R) := HST2.out
          go_wp2_with fail
          refine bodyPost_ret (results_none rfl _ _ _) rfl ⟨rfl, by rw [← HR9.out]; exact HD.out, HK.out⟩
        · have HE9 : Hid (Go.Sort.siftDown ltInt hi first ch (swp dk p q) = R) := HST2.out
          have HDd := Lib.hid HD.out.drew
          have HKd := Lib.hid HK.out.drew
          have c1 : w5.drew.cell? ⟨g, p, none⟩ = some (.int .u8 x) := c1
          have c0 : w5.drew.cell? ⟨g, q, none⟩ = some (.int .u8 y) := c0
          go_upto_region 6 with fail
          refine wp_region_seq (by kernel_rfl) (by kernel_rfl) ?_
          generalize w5.drew = w6 at *
          have f1 := HDd.out.frz (p)
          have f0 := HDd.out.frz (q)
          have hsw := HDd.out.swap HXY.out.2.2.1 HXY.out.2.2.2
          rw [← HXY.out.1, ← HXY.out.2.1] at hsw
          have HSW := Lib.hid hsw
          have HKS := Lib.hid (Keeps.trans HKd.out (keeps_swap w6 g (p) (q) (.int .u8 y) (.int .u8 x)) fun _ _ h => h)
          clear hsw
          go_wp2_with fail
          refine ⟨by kernel_rfl, ?_⟩
          go_wp2_with fail
          go_roundw
          case rel => exact ⟨ch, _, by have := HCH.out; omega, rfl, by rw [Go.Sort.swp_size]; exact HS.out, HSW.out, HE9.out, HKS.out⟩
          case measure => have := HCH.out; (simp [intOf] <;> omega)
end Go.Proofs.Yteccmnjcmmbhlaa
