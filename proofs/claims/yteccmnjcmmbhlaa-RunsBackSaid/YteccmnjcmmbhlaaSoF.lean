/- Bytes sorted: choosePivotOrdered: some place within, some hint. -/
import Derived.Test.YteccmnjcmmbhlaaSoE
namespace Go.Proofs.Yteccmnjcmmbhlaa
open Go.RowKit
open Go.Sort (swp ltInt)
set_option linter.unusedVariables false
set_option linter.unusedSimpArgs false

theorem order2_in {P : Nat → Prop} {d : Array Int} {a b k p q m : Nat} (hr : Go.Sort.order2 ltInt d a b k = (p, q, m)) (ha : P a) (hb : P b) : P p ∧ P q := by
  unfold Go.Sort.order2 at hr
  split at hr <;> (simp only [Prod.mk.injEq] at hr; obtain ⟨rfl, rfl, rfl⟩ := hr; exact ⟨by assumption, by assumption⟩)
theorem median_in {P : Nat → Prop} {d : Array Int} {a b c k p m : Nat} (hr : Go.Sort.median ltInt d a b c k = (p, m)) (ha : P a) (hb : P b) (hc : P c) : P p := by
  unfold Go.Sort.median at hr
  obtain ⟨p1, q1, m1, hr1⟩ : ∃ p q m, Go.Sort.order2 ltInt d a b k = (p, q, m) := ⟨_, _, _, rfl⟩
  have b1 := order2_in hr1 ha hb
  simp only [hr1] at hr
  obtain ⟨p2, q2, m2, hr2⟩ : ∃ p q m, Go.Sort.order2 ltInt d q1 c m1 = (p, q, m) := ⟨_, _, _, rfl⟩
  have b2 := order2_in hr2 b1.2 hc
  simp only [hr2] at hr
  obtain ⟨p3, q3, m3, hr3⟩ : ∃ p q m, Go.Sort.order2 ltInt d p1 p2 m2 = (p, q, m) := ⟨_, _, _, rfl⟩
  have b3 := order2_in hr3 b1.1 b2.1
  simp only [hr3, Prod.mk.injEq] at hr
  rw [← hr.1]
  exact b3.2
set_option maxRecDepth 4000 in
set_option maxHeartbeats 4000000 in
theorem choose_is (w : World) {g n cap a b : Nat} {d : Array Int} (h : RowD w g cap d) (hn : d.size = n) (hab : a + 12 < b) (hbn : b ≤ n) (hnb : n ≤ 1099511627776) :
    Calls Try.prog 56 #[.slice (some ⟨g, 0, none⟩) n cap, .int .i64 (a : Nat), .int .i64 (b : Nat)] w fun e w' => ∃ (p : Nat) (z : Int), e = .returned (.tuple #[.int .i64 (p : Nat), .int .i64 z]) ∧ a ≤ p ∧ p < b ∧ RowD w' g cap d ∧ Keeps (fun _ => False) w w' := by
  obtain ⟨l, hl⟩ : ∃ l, l = b - a := ⟨_, rfl⟩
  obtain ⟨q, hq⟩ : ∃ q, q = l / 4 := ⟨_, rfl⟩
  obtain ⟨i, hi⟩ : ∃ i, i = a + q := ⟨_, rfl⟩
  obtain ⟨j, hj⟩ : ∃ j, j = a + q * 2 := ⟨_, rfl⟩
  obtain ⟨k, hk⟩ : ∃ k, k = a + q * 3 := ⟨_, rfl⟩
  have hbl : (b : Int) - (a : Int) = (l : Int) := by omega
  have hlq : (l : Int) / 4 = (q : Int) := by omega
  have hlq2 : (l : Int).tdiv 4 = (q : Int) := by rw [Int.tdiv_eq_ediv_of_nonneg (by omega)]; exact hlq
  have hai : (a : Int) + (q : Int) = (i : Int) := by omega
  have haj : (a : Int) + (q : Int) * 2 = (j : Int) := by omega
  have hak : (a : Int) + (q : Int) * 3 = (k : Int) := by omega
  have hl8 : ((8 : Int) ≤ (l : Int)) = True := eq_true (by omega)
  have hni : (n : Int) ≤ 1099511627776 := by omega
  have hin : a < i ∧ i + 1 < b ∧ a < j ∧ j + 1 < b ∧ a < k ∧ k + 1 < b := by omega
  have H := Lib.hid h
  have hli : (l : Int) ≤ (n : Int) := by omega
  have hqi : (q : Int) ≤ (n : Int) := by omega
  obtain ⟨s, hs⟩ : ∃ s, s = w.heap.size := ⟨_, rfl⟩
  have hsg : s ≠ g := by have := h.lt; omega
  have HA : Hid (∀ w2, Keeps (fun k => k = s) (w.alloc (.cells #[.int .i64 0] 3)) w2 → Keeps (fun _ => False) w w2) := by
    intro w2 hk2
    exact Keeps.trans ((Keeps.refl (fun _ => False) w).alloc _) hk2 fun i hi1 e => by omega
  have HS0 : Hid (OneAt (w.alloc (.cells #[.int .i64 0] 3)) s 0) := by
    rw [hs]; exact heap_alloc_new w _
  have H0 := Lib.hid (h.keep ((Keeps.refl (fun _ => False) w).alloc (.cells #[.int .i64 0] 3)) id)
  clear h hl hq hi hj hk
  go_enter Try.func56, Try.ntmps56
  by_cases h50 : 50 ≤ l
  · have h50i : ((50 : Int) ≤ (l : Int)) = True := eq_true (by omega)
    have h50d : decide ((50 : Int) ≤ (l : Int)) = true := decide_eq_true (by omega)
    obtain ⟨p1, m1, hr1⟩ : ∃ p m, Go.Sort.medianAdjacent ltInt d i 0 = (p, m) := ⟨_, _, rfl⟩
    obtain ⟨p2, m2, hr2⟩ : ∃ p m, Go.Sort.medianAdjacent ltInt d j m1 = (p, m) := ⟨_, _, rfl⟩
    obtain ⟨p3, m3, hr3⟩ : ∃ p m, Go.Sort.medianAdjacent ltInt d k m2 = (p, m) := ⟨_, _, rfl⟩
    obtain ⟨pp, mm, hr4⟩ : ∃ p m, Go.Sort.median ltInt d p1 p2 p3 m3 = (p, m) := ⟨_, _, rfl⟩
    have b1 := median_in (P := fun x => a ≤ x ∧ x < b) hr1 (by omega) (by omega) (by omega)
    have b2 := median_in (P := fun x => a ≤ x ∧ x < b) hr2 (by omega) (by omega) (by omega)
    have b3 := median_in (P := fun x => a ≤ x ∧ x < b) hr3 (by omega) (by omega) (by omega)
    have b4 := median_in (P := fun x => a ≤ x ∧ x < b) hr4 b1 b2 b3
    have c1 := (median_bd (n := n) hr1 (by omega) (by omega) (by omega)).2
    have c2 := (median_bd (n := n) hr2 (by omega) (by omega) (by omega)).2
    have c3 := (median_bd (n := n) hr3 (by omega) (by omega) (by omega)).2
    have HP := Lib.hid b4
    go_upto_region 3 with fail
    simp only [← hs]
    clear hs
    generalize w.alloc (.cells #[.int .i64 0] 3) = w1 at *
    go_wp2_with fail
    refine (medadj_to w1 hr1 H0.out hn (by omega) (by omega) HS0.out hsg (by omega) hnb).mono ?_
    rintro e w2 ⟨rfl, hs1, hk1⟩
    have HS1 := Lib.hid hs1
    have H1 := Lib.hid (H0.out.keep hk1 fun h => hsg h.symm)
    have HK1 := Lib.hid hk1
    clear hs1 hk1
    go_wp2_with fail
    refine (medadj_to w2 hr2 H1.out hn (by omega) (by omega) HS1.out hsg (by omega) hnb).mono ?_
    rintro e w3 ⟨rfl, hs1, hk1⟩
    have HS2 := Lib.hid hs1
    have H2 := Lib.hid (H1.out.keep hk1 fun h => hsg h.symm)
    have HK2 := Lib.hid (Keeps.trans HK1.out hk1 fun _ _ h => h)
    clear hs1 hk1
    go_wp2_with fail
    refine (medadj_to w3 hr3 H2.out hn (by omega) (by omega) HS2.out hsg (by omega) hnb).mono ?_
    rintro e w4 ⟨rfl, hs1, hk1⟩
    have HS3 := Lib.hid hs1
    have H3 := Lib.hid (H2.out.keep hk1 fun h => hsg h.symm)
    have HK3 := Lib.hid (Keeps.trans HK2.out hk1 fun _ _ h => h)
    clear hs1 hk1
    go_wp2_with fail
    refine (median_to w4 hr4 H3.out hn (by omega) (by omega) (by omega) HS3.out hsg (by omega) hnb).mono ?_
    rintro e w5 ⟨rfl, hs1, hk1⟩
    have HS4 := Lib.hid hs1
    have H4 := Lib.hid (H3.out.keep hk1 fun h => hsg h.symm)
    have HK4 := Lib.hid (Keeps.trans HK3.out hk1 fun _ _ h => h)
    clear hs1 hk1
    have HSE := Lib.hid HS4.out
    have HKE := Lib.hid HK4.out
    have HE := Lib.hid H4.out
    clear HS4 HK4 H4 c1 c2 c3
    have hpab := HP.out
    by_cases m0 : mm = 0
    · subst m0
      have z0 : ((0 : Nat) : Int) = 0 := rfl
      have k1 := HSE.out.cell
      have k2 := HSE.out.frz
      go_wp2_with fail
      go_ret2
      exact ⟨pp, 1, rfl, hpab.1, hpab.2, HE.out, HA.out _ HKE.out⟩
    · have m1 : ((mm : Int) = 0) = False := eq_false (by omega)
      have m1d : decide ((mm : Int) = 0) = false := decide_eq_false (by omega)
      have k1 := HSE.out.cell
      have k2 := HSE.out.frz
      by_cases m2 : mm = 12
      · have m2i : ((mm : Int) = 12) = True := eq_true (by omega)
        have m2d : decide ((mm : Int) = 12) = true := decide_eq_true (by omega)
        go_wp2_with fail
        go_ret2
        exact ⟨pp, 2, rfl, hpab.1, hpab.2, HE.out, HA.out _ HKE.out⟩
      · have m2i : ((mm : Int) = 12) = False := eq_false (by omega)
        have m2d : decide ((mm : Int) = 12) = false := decide_eq_false (by omega)
        go_wp2_with fail
        go_ret2
        exact ⟨pp, 0, rfl, hpab.1, hpab.2, HE.out, HA.out _ HKE.out⟩
  · have h50i : ((50 : Int) ≤ (l : Int)) = False := eq_false (by omega)
    have h50d : decide ((50 : Int) ≤ (l : Int)) = false := decide_eq_false (by omega)
    obtain ⟨pp, mm, hr4⟩ : ∃ p m, Go.Sort.median ltInt d i j k 0 = (p, m) := ⟨_, _, rfl⟩
    have b4 := median_in (P := fun x => a ≤ x ∧ x < b) hr4 (by omega) (by omega) (by omega)
    have HP := Lib.hid b4
    go_upto_region 3 with fail
    simp only [← hs]
    clear hs
    generalize w.alloc (.cells #[.int .i64 0] 3) = w1 at *
    go_wp2_with fail
    refine (median_to w1 hr4 H0.out hn (by omega) (by omega) (by omega) HS0.out hsg (by omega) hnb).mono ?_
    rintro e w2 ⟨rfl, hs1, hk1⟩
    have HS1 := Lib.hid hs1
    have H1 := Lib.hid (H0.out.keep hk1 fun h => hsg h.symm)
    have HK1 := Lib.hid hk1
    clear hs1 hk1
    have HSE := Lib.hid HS1.out
    have HKE := Lib.hid HK1.out
    have HE := Lib.hid H1.out
    clear HS1 HK1 H1
    have hpab := HP.out
    by_cases m0 : mm = 0
    · subst m0
      have z0 : ((0 : Nat) : Int) = 0 := rfl
      have k1 := HSE.out.cell
      have k2 := HSE.out.frz
      go_wp2_with fail
      go_ret2
      exact ⟨pp, 1, rfl, hpab.1, hpab.2, HE.out, HA.out _ HKE.out⟩
    · have m1 : ((mm : Int) = 0) = False := eq_false (by omega)
      have m1d : decide ((mm : Int) = 0) = false := decide_eq_false (by omega)
      have k1 := HSE.out.cell
      have k2 := HSE.out.frz
      by_cases m2 : mm = 12
      · have m2i : ((mm : Int) = 12) = True := eq_true (by omega)
        have m2d : decide ((mm : Int) = 12) = true := decide_eq_true (by omega)
        go_wp2_with fail
        go_ret2
        exact ⟨pp, 2, rfl, hpab.1, hpab.2, HE.out, HA.out _ HKE.out⟩
      · have m2i : ((mm : Int) = 12) = False := eq_false (by omega)
        have m2d : decide ((mm : Int) = 12) = false := decide_eq_false (by omega)
        go_wp2_with fail
        go_ret2
        exact ⟨pp, 0, rfl, hpab.1, hpab.2, HE.out, HA.out _ HKE.out⟩
end Go.Proofs.Yteccmnjcmmbhlaa
