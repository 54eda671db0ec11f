/- The walk of hamperlaw11.RunsShort. -/
import Derived.Test.YteccmnjcmmbhlaaShP
import Derived.Test.YteccmnjcmmbhlaaFrC
import Derived.Test.YteccmnjcmmbhlaaPacksW
namespace Go.Proofs.Yteccmnjcmmbhlaa
open Go.RowKit
set_option linter.unusedVariables false
set_option linter.unusedSimpArgs false

set_option maxRecDepth 4000 in
set_option maxHeartbeats 4000000 in
theorem walkRunsShort (W : World) (a0 : Option Addr) (c0 : Nat) (x0 : List (Int)) (_h0 : Sh.Rd W (.sl 1 (.int .u8)) [.slice a0 x0.length c0] x0) (_hk : Sh.bulk (.sl 1 (.int .u8)) x0 ≤ 1048576) :
    Calls Try.prog 6 #[.slice a0 x0.length c0] W fun e w' => e = .returned (.bool true) ∧ Below W.heap.size W w' := by
  obtain ⟨hN0, hcb⟩ := Nums.of_rd _h0
  generalize hm : x0.length = m at *
  have hmu : m ≤ 1048576 := by
    have h : ((List.map (fun _ => 1) x0).sum + 1) ≤ 1048576 := _hk
    have h1 := sum_ones x0
    omega
  have hmi : (m : Int) ≤ 1048576 := by omega
  have HN0 := Lib.hid hN0
  have HM := Lib.hid hm
  have hps := packL_short x0
  rw [hm] at hps
  have HPS := Lib.hid hps
  have HU0 := Lib.hid (mem_usedP HN0.out.rng)
  obtain ⟨us, hus⟩ : ∃ us, us = usedP x0 := ⟨_, rfl⟩
  obtain ⟨ku, hku⟩ : ∃ ku, ku = us.length := ⟨_, rfl⟩
  obtain ⟨ps, hpq⟩ : ∃ ps, ps = mtfP us x0 := ⟨_, rfl⟩
  have hin : ∀ x ∈ x0, x ∈ us := fun x hx => by rw [hus]; exact (HU0.out x).2 hx
  have HPR : Hid (∀ p ∈ ps, 0 ≤ p ∧ p < (ku : Int)) := by
    show ∀ p ∈ ps, _
    rw [hpq, hku]
    exact mtf_rng x0 us hin
  have HPZ : Hid (∀ i, i + 1 < m → (ps.getD (i + 1) 0 = 0 ↔ x0.getD (i + 1) 0 = x0.getD i 0)) := fun i hi => by
    rw [hpq]
    exact mtf_zero x0 us i hin (by rw [hm]; exact hi)
  have HAS : Hid (Asc us) := by
    show Asc us
    rw [hus]
    exact asc_of (usedP_lt x0)
  have HUR : Hid (∀ x ∈ us, inKind .u8 x) := fun x hx => by rw [hus] at hx; exact usedP_in x hx
  have hku2 : ku ≤ 256 := by rw [hku, hus]; exact usedP_len x0
  have HF : Hid (∀ (w : World), Nums .u8 w a0 m c0 x0 → Calls Try.prog 27 #[.slice a0 m c0] w fun e w' => ∃ A1 c1 A2 c2, e = .returned (.tuple #[.slice A1 ku c1, .slice A2 m c2]) ∧ w'.ownsRow w.heap.size 5 1 (.slice A1 ku c1) ku (us.map (Value.int .u8)) ∧ w'.ownsRow w.heap.size 3 1 (.slice A2 m c2) m (ps.map (Value.int .i64)) ∧ (∀ b, (Value.slice A2 m c2).ownBlock = some b → (Value.slice A1 ku c1).ownBlock ≠ some b) ∧ Grow w w') := fun w h => by
    subst hpq hku hus
    exact front_is w a0 m c0 x0 h hmu
  have HKU : Hid (us.length = ku) := hku.symm
  clear hN0 hm hcb _h0 _hk hps HU0 hin hus hku hpq
  go_enter Try.func6, Try.ntmps6
  go_wp2_with fail
  refine (pack_is W a0 m c0 x0 HN0.out (by omega)).mono ?_
  rintro e w1 ⟨AX, cX, kx, rfl, ho, hg⟩
  have hkx : kx ≤ m + m / 4 := by rw [own_len' ho]; exact HPS.out
  obtain ⟨q, hq⟩ : ∃ q : Nat, q = m / 4 := ⟨_, rfl⟩
  have hq3 : (m : Int) / 4 = (q : Int) := by rw [hq]; omega
  have hqm : (q : Int) ≤ 1048576 := by omega
  have hq4 : ¬ (m : Int) + (q : Int) < (kx : Int) := by omega
  have hq5 : decide ((m : Int) + (q : Int) < (kx : Int)) = false := decide_eq_false hq4
  have HG1 := Lib.hid hg
  clear ho hg HPS hq hkx
  have hm := run_mark (P := Try.prog) (w1.alloc (.cells #[.int .u8 97, .int .u8 97, .int .u8 97, .int .u8 97, .int .u8 97, .int .u8 97] 5)) 22 5 #[.int .u8 97, .int .u8 97, .int .u8 97, .int .u8 97, .int .u8 97, .int .u8 97] (0, 0) 6 6 w1.heap.size Try.underlying22 Try.underlying5 (heap_alloc_new w1 _)
  have HAP := Lib.hid (apack_is w1)
  go_wp2_with fail
  clear hm
  refine HAP.out.mono ?_
  rintro e w2 ⟨A5, c5, S, rfl, hcv, hS, hg⟩
  have HG2 := Lib.hid (Grow.trans _ _ _ HG1.out hg)
  clear hg HAP HG1 hq3 hqm hq4 hq5
  go_wp2_with fail
  clear hcv hS
  refine (HF.out w2 (HN0.out.grow HG2.out)).mono ?_
  rintro e w3 ⟨AU, cU, AP, cP, rfl, hou, hop, hd, hg⟩
  have HU := Lib.hid (Nums.of_own hou HUR.out)
  have HP := Lib.hid (Nums.of_own hop (fun x hx => by
    have h1 := HPR.out x hx
    exact mk_i64 (by omega) (by omega)))
  have HG3 := Lib.hid (Grow.trans _ _ _ HG2.out hg)
  clear hou hop hd hg HF HG2
  have hkui : (ku : Int) ≤ 256 := by omega
  go_wp2_with fail
  go_loopw [6, 7] (fun vl vi wr => ∃ (i : Nat) (z : Int), i ≤ ku ∧ vi = .int .i64 (i : Nat) ∧ vl = .int .i64 z ∧ -1 ≤ z ∧ z < 256 ∧ Hid (i < ku → z < us.getD i 0) ∧ Hid (Grow w3 wr)) (fun _ vi _ => ku - (intOf vi).toNat)
  case atStart => exact ⟨0, -1, Nat.zero_le _, by simp, rfl, by omega, by omega, fun h => by have := HU.out.byte 0; omega, Keeps.refl _ _⟩
  case round =>
    obtain ⟨i, z, hi, rfl, rfl, hz1, hz2, HZ, HG⟩ := hrel
    by_cases hin : i < ku
    · have hini : (i : Int) < (ku : Int) := by omega
      have HUr := Lib.hid (HU.out.grow HG.out)
      have hby := HUr.out.byte i
      have hlt := HZ.out hin
      have HA1 : Hid (i + 1 < ku → us.getD i 0 < us.getD (i + 1) 0) := fun h => HAS.out i (by rw [HKU.out]; exact h)
      obtain ⟨bu, ou, rfl, hcell⟩ := HUr.out.at_ (by omega)
      have cu := hcell i hin
      generalize us.getD i 0 = y at *
      have hyz : ¬ y ≤ z := by omega
      have hd1 : decide (y ≤ z) = false := decide_eq_false hyz
      clear hcell
      go_wp2_with fail
      go_roundw
      case rel => exact ⟨i + 1, y, by omega, by go_num, rfl, by omega, by omega, HA1.out, HG.out⟩
      case measure => simp [intOf]; omega
    · have hini : ¬ (i : Int) < (ku : Int) := by omega
      have hPr := Lib.hid (HP.out.grow HG.out)
      have hG4 := Lib.hid (Grow.trans _ _ _ HG3.out HG.out)
      clear HG HP HG3 hin hi hz1 hz2 HZ
      generalize wr = w4 at *
      go_wp2_with fail
      go_loopw [8] (fun vi wr => ∃ (i : Nat), i ≤ m ∧ vi = .int .i64 (i : Nat) ∧ Hid (Grow w4 wr)) (fun vi _ => m - (intOf vi).toNat)
      case atStart => exact ⟨0, Nat.zero_le _, by simp, Keeps.refl _ _⟩
      case round =>
        clear hini
        obtain ⟨j, hj, rfl, HJ⟩ := hrel
        by_cases hjm : j < m
        · have hjn : (j : Int) < (m : Int) := by omega
          have HPq := Lib.hid (hPr.out.grow HJ.out)
          have HNq := Lib.hid (HN0.out.grow (Grow.trans _ _ _ hG4.out HJ.out))
          obtain ⟨bp, op, rfl, hcp⟩ := HPq.out.at_ (by omega)
          have cp := hcp j hjm
          have hrg := HPR.out (ps.getD j 0) (by
            have hl : j < ps.length := by rw [HPq.out.len]; exact hjm
            rw [List.getD_eq_getElem?_getD, List.getElem?_eq_getElem hl]; exact List.getElem_mem hl)
          obtain ⟨b0, o0, rfl, hcx⟩ := HNq.out.at_ (by omega)
          have cx := hcx j hjm
          have hz := fun t (h : j = t + 1) => HPZ.out t (by omega)
          have cp2 := hcp 0 (by omega)
          have cy := fun t (h : j = t + 1) => hcx t (by omega)
          generalize hp : ps.getD j 0 = p at *
          have e1 : ¬ p < 0 := by omega
          have e2 : ¬ (ku : Int) ≤ p := by omega
          have e3 : decide (p < 0) = false := decide_eq_false e1
          have e4 : decide ((ku : Int) ≤ p) = false := decide_eq_false e2
          by_cases hj0 : j = 0
          · have f1 : ¬ (0 : Int) < (j : Int) := by omega
            have f2 : decide ((0 : Int) < (j : Int)) = false := decide_eq_false f1
            have f3 : ¬ 0 < j := by omega
            have f4 : decide (0 < j) = false := decide_eq_false f3
            clear hcx hcp hz cp2 cy hp hj0 cx hrg
            go_wp2_with fail
            go_quiet (fail)
            have HJd : Hid (Grow w4 (wr.drewN nq)) := Keeps.drewN HJ.out nq
            clear cp
            generalize wr.drewN nq = w5 at *
            go_wp2_with fail
            go_roundw
            case rel => exact ⟨j + 1, hjm, by go_num, HJd.out⟩
            case measure => simp [intOf]; omega
          · obtain ⟨t, ht⟩ : ∃ t, j = t + 1 := ⟨j - 1, by omega⟩
            have hz := hz t ht
            have cy := cy t ht
            rw [← ht, hp] at hz
            have hjt : (j : Int) - 1 = (t : Int) := by omega
            have f1 : (0 : Int) < (j : Int) := by omega
            have f2 : decide ((0 : Int) < (j : Int)) = true := decide_eq_true f1
            have f3 : 0 < j := by omega
            have f4 : decide (0 < j) = true := decide_eq_true f3
            have htm : (t : Int) < (m : Int) := by omega
            generalize x0.getD j 0 = x at *
            generalize x0.getD t 0 = y at *
            clear hcx hcp cp2 hp hj0 hrg
            by_cases hp0 : p = 0
            · have hxy : x = y := hz.1 hp0
              have e5 : decide (p = 0) = true := decide_eq_true hp0
              have e7 : (p == 0) = true := by simpa using hp0
              have e6 : decide (x = y) = true := decide_eq_true hxy
              have e8 : (x == y) = true := by simpa using hxy
              clear hz hp0 hxy ht
              go_wp2_with fail
              go_quiet (fail)
              have HJd : Hid (Grow w4 (wr.drewN nq)) := Keeps.drewN HJ.out nq
              clear cx cp cy
              generalize wr.drewN nq = w5 at *
              go_wp2_with fail
              go_roundw
              case rel => exact ⟨j + 1, hjm, by go_num, HJd.out⟩
              case measure => simp [intOf]; omega
            · have hxy : ¬ x = y := fun h => hp0 (hz.2 h)
              have e5 : decide (p = 0) = false := decide_eq_false hp0
              have e6 : decide (x = y) = false := decide_eq_false hxy
              have e7 : (p == 0) = false := by simpa using hp0
              have e8 : (x == y) = false := by simpa using hxy
              clear hz ht
              go_wp2_with fail
              go_quiet (fail)
              have HJd : Hid (Grow w4 (wr.drewN nq)) := Keeps.drewN HJ.out nq
              clear cx cp cy
              generalize wr.drewN nq = w5 at *
              go_wp2_with fail
              go_roundw
              case rel => exact ⟨j + 1, hjm, by go_num, HJd.out⟩
              case measure => simp [intOf]; omega
        · have hjn : ¬ (j : Int) < (m : Int) := by omega
          have hGf := Grow.trans _ _ _ hG4.out HJ.out
          go_wp2_with fail
          go_ret
          exact ⟨rfl, Keeps.below hGf (fun _ _ h => h) (Nat.le_refl _)⟩
end Go.Proofs.Yteccmnjcmmbhlaa
