/- The walk of hamperlaw11.RunsBack. -/
import Derived.Test.YteccmnjcmmbhlaaShP
import Derived.Test.YteccmnjcmmbhlaaFrC
import Derived.Test.YteccmnjcmmbhlaaSame
import Derived.Test.YteccmnjcmmbhlaaPacksW
namespace Go.Proofs.Yteccmnjcmmbhlaa
open Go.RowKit
set_option linter.unusedVariables false
set_option linter.unusedSimpArgs false

set_option maxRecDepth 4000 in
set_option maxHeartbeats 4000000 in
theorem walkRunsBack (W : World) (a0 : Option Addr) (c0 : Nat) (x0 : List (Int)) (_h0 : Sh.Rd W (.sl 1 (.int .u8)) [.slice a0 x0.length c0] x0) (_hk : Sh.bulk (.sl 1 (.int .u8)) x0 ≤ 1048576) :
    Calls Try.prog 8 #[.slice a0 x0.length c0] W fun e w' => e = .returned (.bool true) ∧ Below W.heap.size W w' := by
  obtain ⟨hN0, hcb⟩ := Nums.of_rd _h0
  generalize hm : x0.length = m at *
  have hmu : m ≤ 1048575 := by
    have h : ((List.map (fun _ => 1) x0).sum + 1) ≤ 1048576 := _hk
    have h1 := sum_ones x0
    omega
  have hmi : (m : Int) ≤ 1048575 := by omega
  have HN0 := Lib.hid hN0
  have HM := Lib.hid hm
  have HU0 := Lib.hid (mem_usedP HN0.out.rng)
  have HPK : Hid (unpR (packL x0) (m : Int) = (x0, 0)) := by
    show _ = _
    rw [unpR, if_neg (by omega), ← hm]
    exact unpR_pack x0
  obtain ⟨us, hus⟩ : ∃ us, us = usedP x0 := ⟨_, rfl⟩
  obtain ⟨ku, hku⟩ : ∃ ku, ku = us.length := ⟨_, rfl⟩
  obtain ⟨ps, hpq⟩ : ∃ ps, ps = mtfP us x0 := ⟨_, rfl⟩
  have hin : ∀ x ∈ x0, x ∈ us := fun x hx => by rw [hus]; exact (HU0.out x).2 hx
  have hpl : ps.length = m := by rw [hpq, mtfP_len, hm]
  have HPR : Hid (∀ p ∈ ps, 0 ≤ p ∧ p < (ku : Int)) := by
    show ∀ p ∈ ps, _
    rw [hpq, hku]
    exact mtf_rng x0 us hin
  have HUF : Hid (unfR us ps = (x0, 0)) := by
    show _ = _
    rw [unfR, if_pos (by rw [hus]; exact asc_of (usedP_lt x0)), hpq, unf_mtf x0 us hin]
    simp [outP]
  have hku2 : ku ≤ 256 := by rw [hku, hus]; exact usedP_len x0
  have hku0 : m = 0 → ku = 0 := fun h => by
    have h1 : x0 = [] := List.eq_nil_of_length_eq_zero (by omega)
    rw [hku, hus, h1]
    simp [usedP]
  have hku1 : 0 < m → 1 ≤ ku := fun h => by
    rcases x0 with _ | ⟨a, r⟩
    · simp at hm; omega
    · have := hin a (List.mem_cons_self ..)
      rw [hku]
      exact List.length_pos_of_mem this
  have HSY : 0 < m → (symR ps (ku : Int)).2 = 0 ∧ plR (symR ps (ku : Int)).1 (ku : Int) (m : Int) = (ps, 0) := fun h => by
    have h1 := plR_symR ps (ku : Int) (by have := hku1 h; omega) (by omega) HPR.out (by omega)
    rw [hpl] at h1
    exact h1
  have HSY := Lib.hid HSY
  have HSL : Hid ((symR ps (ku : Int)).1.length ≤ m + 1) := by
    show _ ≤ _
    rw [← hpl]
    exact symR_len ps _
  have HUR : Hid (∀ x ∈ us, inKind .u8 x) := fun x hx => by rw [hus] at hx; exact usedP_in x hx
  have HF : Hid (∀ (w : World), Nums .u8 w a0 m c0 x0 → Calls Try.prog 27 #[.slice a0 m c0] w fun e w' => ∃ A1 c1 A2 c2, e = .returned (.tuple #[.slice A1 ku c1, .slice A2 m c2]) ∧ w'.ownsRow w.heap.size 5 1 (.slice A1 ku c1) ku (us.map (Value.int .u8)) ∧ w'.ownsRow w.heap.size 3 1 (.slice A2 m c2) m (ps.map (Value.int .i64)) ∧ (∀ b, (Value.slice A2 m c2).ownBlock = some b → (Value.slice A1 ku c1).ownBlock ≠ some b) ∧ Grow w w') := fun w h => by
    subst hpq hku hus
    exact front_is w a0 m c0 x0 h (by omega)
  have HKP : Hid ((packL x0).length ≤ m + m / 4) := by
    show _ ≤ _
    rw [← hm]
    exact packL_short x0
  have HPI : Hid (∀ y ∈ packL x0, inKind .u8 y) := packL_in HN0.out.rng
  have HKU1 := Lib.hid hku1
  have HKU0 := Lib.hid hku0
  clear hN0 hm hcb _h0 _hk HU0 hin hus hku hpq hpl hku1 hku0
  go_enter Try.func8, Try.ntmps8
  go_wp2_with fail
  refine (pack_is W a0 m c0 x0 HN0.out (by omega)).mono ?_
  rintro e w1 ⟨AK, cK, kk, rfl, ho, hg⟩
  have hkk := own_len' ho
  have HK := Lib.hid (Nums.of_own ho HPI.out)
  have HG1 := Lib.hid hg
  have hk2 : kk ≤ 2097152 := by have := HKP.out; omega
  clear ho hg hkk HKP
  go_wp2_with fail
  refine (unpack_is w1 AK kk cK (packL x0) (m : Int) HK.out (mk_i64 (by omega) (by omega)) (by omega)).mono ?_
  rw [HPK.out]
  rintro e w2 ⟨AX, cX, kx, rfl, ho, hg⟩
  have hkx : kx = m := by rw [own_len' ho]; exact HM.out
  subst hkx
  have HX := Lib.hid (Nums.of_own ho HN0.out.rng)
  have HG2 := Lib.hid (Grow.trans _ _ _ HG1.out hg)
  clear ho hg HK HPK HPI HG1
  go_wp2_with fail
  refine (HF.out w2 (HN0.out.grow HG2.out)).mono ?_
  rintro e w3 ⟨AU, cU, AP, cP, rfl, hou, hop, hd, hg⟩
  have HU := Lib.hid (Nums.of_own hou HUR.out)
  have HP := Lib.hid (Nums.of_own hop (fun x hx => by
    have h1 := HPR.out x hx
    exact mk_i64 (by omega) (by omega)))
  have HOP := Lib.hid hop
  have HLP : Hid (∀ b, (Value.slice AP kx cP).ownBlock = some b → b < w3.heap.size) := fun b hb => (hop.lt b hb).2
  have HX3 := Lib.hid (HX.out.grow hg)
  have HG3 := Lib.hid (Grow.trans _ _ _ HG2.out hg)
  clear hou hop hd hg HF HG2 HX
  go_wp2_with fail
  refine (unfront_is w3 AU AP ku cU kx cP us ps HU.out HP.out (by omega) (by omega)).mono ?_
  rw [HUF.out]
  rintro e w4 ⟨AY, cY, ky, rfl, ho, hg⟩
  have hky : ky = kx := by rw [own_len' ho]; exact HM.out
  subst hky
  have HY := Lib.hid (Nums.of_own ho HN0.out.rng)
  have HP4 := Lib.hid (HP.out.grow hg)
  have HOP4 := Lib.hid (owns_keep HOP.out hg (fun _ _ h => h))
  have HX4 := Lib.hid (HX3.out.grow hg)
  have HG4 := Lib.hid (Grow.trans _ _ _ HG3.out hg)
  have hz4 := hg.size
  clear ho hg HUF HG3 HX3 HU HP HOP
  have hcx := run_str_src (P := Try.prog) (w := w4) (xs := x0) Try.underlying22 Try.underlying5 Try.underlying9 HX4.out.src
  have hcy := run_str_src (P := Try.prog) (w := w4) (xs := x0) Try.underlying22 Try.underlying5 Try.underlying9 HY.out.src
  have hcb := run_str_src (P := Try.prog) (w := w4) (xs := x0) Try.underlying22 Try.underlying5 Try.underlying9 (HN0.out.grow HG4.out).src
  generalize strOfNums x0 = Z at *
  have hm := run_mark (P := Try.prog) (w4.alloc (.cells #[.int .u8 97, .int .u8 97, .int .u8 97, .int .u8 97, .int .u8 97, .int .u8 97] 5)) 22 5 #[.int .u8 97, .int .u8 97, .int .u8 97, .int .u8 97, .int .u8 97, .int .u8 97] (0, 0) 6 6 w4.heap.size Try.underlying22 Try.underlying5 (heap_alloc_new w4 _)
  have HAP := Lib.hid (apack_is w4)
  go_wp2_with fail
  clear hm hcx hcy hcb
  refine HAP.out.mono ?_
  rintro e w5 ⟨A5, c5, S, rfl, hcv, hS, hg⟩
  have HG5 := Lib.hid (Grow.trans _ _ _ HG4.out hg)
  have HP5 := Lib.hid (HP4.out.grow hg)
  have HOP5 := Lib.hid (owns_keep HOP4.out hg (fun _ _ h => h))
  have hz5 := hg.size
  clear hg HAP HG4 HP4 HOP4 HX4 HY
  by_cases hm0 : ky = 0
  · have hk0 := HKU0.out hm0
    subst hm0
    subst hk0
    go_wp2_with fail
    go_ret
    exact ⟨rfl, Keeps.below HG5.out (fun _ _ h => h) (Nat.le_refl _)⟩
  · have hk1 := HKU1.out (by omega)
    have hsy := HSY.out (by omega)
    have hm1 : ((ky : Int) == 0) = false := by simpa using hm0
    have hm2 : ¬ (ky : Int) = 0 := by omega
    have hm3 : decide ((ky : Int) = 0) = false := decide_eq_false hm2
    have hm4 : ¬ (1048576 : Int) < (ky : Int) := by omega
    have hm5 : decide ((1048576 : Int) < (ky : Int)) = false := decide_eq_false hm4
    have HSYM : Hid (Calls Try.prog 16 #[.slice AP ky cP, .int .i64 (ku : Nat)] w5 fun e w' => ∃ A' c' k, e = .returned (.tuple #[.slice A' k c', .int .i64 0]) ∧ w'.ownsRow w5.heap.size 3 1 (.slice A' k c') k ((symR ps (ku : Int)).1.map (Value.int .i64)) ∧ Grow w5 w') := by
      have h9 := symbols_is w5 AP ky cP ps (ku : Int) HP5.out (mk_i64 (by omega) (by omega)) (by omega)
      rw [hsy.1] at h9
      exact h9
    have HPLR := Lib.hid hsy.2
    clear hsy HSY
    go_wp2_with fail
    clear hcv hS
    refine HSYM.out.mono ?_
    rintro e w6 ⟨AS, cS, ks, rfl, ho, hg⟩
    have hks := own_len' ho
    have hks2 : ks ≤ 1048576 := by rw [hks]; have := HSL.out; omega
    have HS := Lib.hid (Nums.of_own ho (symR_in ps (ku : Int) HPR.out (by omega)))
    have HG6 := Lib.hid (Grow.trans _ _ _ HG5.out hg)
    have HOP6 := Lib.hid (owns_keep HOP5.out hg (fun _ _ h => h))
    have hz6 := hg.size
    clear ho hg HSYM hks HG5 HOP5 HP5
    go_wp2_with fail
    refine (places_is w6 AS ks cS (symR ps (ku : Int)).1 (ku : Int) (ky : Int) HS.out (mk_i64 (by omega) (by omega)) (mk_i64 (by omega) (by omega)) hks2).mono ?_
    rw [HPLR.out]
    rintro e w7 ⟨AQ, cQ, kq, rfl, ho, hg⟩
    have hkq : kq = ky := by
      rw [own_len' ho]
      have h9 := HOP6.out.1
      simp at h9
      omega
    subst hkq
    have HQ := Lib.hid ho
    have HG7 := Lib.hid (Grow.trans _ _ _ HG6.out hg)
    have HOP7 := Lib.hid (owns_keep HOP6.out hg (fun _ _ h => h))
    have HQ2 : Hid (∀ b, (Value.slice AQ kq cQ).ownBlock = some b → w6.heap.size ≤ b) := fun b hb => (ho.lt b hb).1
    have HSM := Lib.hid (same_is w7 _ _ AQ AP kq cQ cP ps HQ.out HOP7.out (fun b hb e => by have h1 := HQ2.out b e; have h2 := HLP.out b hb; omega))
    have hzw := HG6.out.size
    clear ho hg HQ HOP6 HOP7 HS HG6 HPLR
    go_wp2_with fail
    refine HSM.out.mono ?_
    rintro e w8 ⟨rfl, hk⟩
    have hGf : Grow W w8 := Keeps.trans HG7.out hk (fun b hb e => by have := HQ2.out b e; omega)
    go_wp2_with fail
    go_ret
    exact ⟨rfl, Keeps.below hGf (fun _ _ h => h) (Nat.le_refl _)⟩
end Go.Proofs.Yteccmnjcmmbhlaa
