/- Bytes sorted: order2Ordered, medianOrdered, medianAdjacentOrdered, choosePivotOrdered. -/
import Derived.Test.YteccmnjcmmbhlaaSoD
namespace Go.Proofs.Yteccmnjcmmbhlaa
open Go.RowKit
open Go.Sort (swp ltInt)
set_option linter.unusedVariables false
set_option linter.unusedSimpArgs false

/-- The block of one number. -/
def OneAt (w : World) (s : Nat) (k : Nat) : Prop := w.heap[s]? = some (.cells #[.int .i64 (k : Nat)] 3 (0, 0))
theorem OneAt.cell {w : World} {s k : Nat} (h : OneAt w s k) : w.cell? ⟨s, 0, none⟩ = some (.int .i64 (k : Nat)) := by
  rw [blk_cell h]; rfl
theorem OneAt.frz {w : World} {s k : Nat} (h : OneAt w s k) : w.frozen? ⟨s, 0, none⟩ = false := blk_frozen h 0
theorem OneAt.set {w : World} {s k : Nat} (h : OneAt w s k) (m : Nat) {z : Int} (hz : z = (m : Int)) : OneAt (w.setCell ⟨s, 0, none⟩ (.int .i64 z)) s m := by
  subst hz
  have := blk_set h 0 (.int .i64 (m : Nat))
  exact this
theorem OneAt.drewN {w : World} {s k : Nat} (h : OneAt w s k) (m : Nat) : OneAt (w.drewN m) s k := h
theorem keeps_one (w : World) (s : Nat) (u : Value) : Keeps (fun k => k = s) w (w.setCell ⟨s, 0, none⟩ u) :=
  Keeps.setCell (S := fun k => k = s) (Keeps.refl _ w) (p := ⟨s, 0, none⟩) (fun _ => rfl) u

set_option maxHeartbeats 2000000 in
theorem order2_is (w : World) (g n cap s a b k : Nat) (d : Array Int) (h : RowD w g cap d) (hn : d.size = n) (ha : a < n) (hb : b < n) (hs : OneAt w s k) (hne : s ≠ g) (hk : k ≤ 1000) (hnb : n ≤ 1099511627776) :
    Calls Try.prog 70 #[.slice (some ⟨g, 0, none⟩) n cap, .int .i64 (a : Nat), .int .i64 (b : Nat), .pointer (some ⟨s, 0, none⟩)] w fun e w' => e = .returned (.tuple #[.int .i64 ((Go.Sort.order2 ltInt d a b k).1 : Nat), .int .i64 ((Go.Sort.order2 ltInt d a b k).2.1 : Nat)]) ∧ OneAt w' s (Go.Sort.order2 ltInt d a b k).2.2 ∧ Keeps (fun k => k = s) w w' := by
  have c1 := h.cell (show a < d.size by omega)
  have c0 := h.cell (show b < d.size by omega)
  have r1 := h.rng (show a < d.size by omega)
  have r0 := h.rng (show b < d.size by omega)
  unfold Go.Sort.order2
  obtain ⟨y, hy⟩ : ∃ y, y = d[a]! := ⟨_, rfl⟩
  obtain ⟨x, hx⟩ : ∃ x, x = d[b]! := ⟨_, rfl⟩
  rw [← hy] at c1 r1 ⊢
  rw [← hx] at c0 r0 ⊢
  obtain ⟨bv, hbv⟩ : ∃ bv, bv = ltInt x y := ⟨_, rfl⟩
  have HLS := Lib.hid (fun w => less_is w x y r0.1 r0.2 r1.1 r1.2)
  rw [← hbv] at HLS ⊢
  have hai : (a : Int) < (n : Int) := by omega
  have hbi : (b : Int) < (n : Int) := by omega
  have hki : (k : Int) ≤ 1000 := by omega
  have hni : (n : Int) ≤ 1099511627776 := by omega
  have HS := Lib.hid hs
  clear hx hy hbv r1 r0 h hs
  go_enter Try.func70, Try.ntmps70
  go_wp2_with fail
  go_quiet (refine Calls.quiet_of (HLS.out _))
  replace HS := Lib.hid (HS.out.drewN nq)
  have HK := Lib.hid ((Keeps.refl (fun k => k = s) w).drewN nq)
  clear c1 c0
  generalize w.drewN nq = w5 at *
  have k1 := HS.out.cell
  have k2 := HS.out.frz
  cases bv
  · go_wp2_with fail
    go_ret2
    exact ⟨rfl, HS.out, HK.out⟩
  · have HS2 := Lib.hid (HS.out.set (k + 1) (z := (k : Int) + 1) (by omega))
    have HK2 := Lib.hid (Keeps.trans HK.out (keeps_one w5 s (.int .i64 ((k : Int) + 1))) fun _ _ h => h)
    go_wp2_with fail
    go_ret2
    exact ⟨rfl, HS2.out, HK2.out⟩
theorem order2_to {w : World} {g n cap s a b k p q m : Nat} {d : Array Int} (hr : Go.Sort.order2 ltInt d a b k = (p, q, m)) (h : RowD w g cap d) (hn : d.size = n) (ha : a < n) (hb : b < n) (hs : OneAt w s k) (hne : s ≠ g) (hk : k ≤ 1000) (hnb : n ≤ 1099511627776) :
    Calls Try.prog 70 #[.slice (some ⟨g, 0, none⟩) n cap, .int .i64 (a : Nat), .int .i64 (b : Nat), .pointer (some ⟨s, 0, none⟩)] w fun e w' => e = .returned (.tuple #[.int .i64 (p : Nat), .int .i64 (q : Nat)]) ∧ OneAt w' s m ∧ Keeps (fun k => k = s) w w' := by
  have := order2_is w g n cap s a b k d h hn ha hb hs hne hk hnb
  rw [hr] at this
  exact this
theorem order2_bd {d : Array Int} {a b k p q m n : Nat} (hr : Go.Sort.order2 ltInt d a b k = (p, q, m)) (ha : a < n) (hb : b < n) : p < n ∧ q < n ∧ m ≤ k + 1 := by
  unfold Go.Sort.order2 at hr
  split at hr <;> (simp only [Prod.mk.injEq] at hr; omega)
theorem median_bd {d : Array Int} {a b c k p m n : Nat} (hr : Go.Sort.median ltInt d a b c k = (p, m)) (ha : a < n) (hb : b < n) (hc : c < n) : p < n ∧ m ≤ k + 3 := by
  unfold Go.Sort.median at hr
  obtain ⟨p1, q1, m1, hr1⟩ : ∃ p q m, Go.Sort.order2 ltInt d a b k = (p, q, m) := ⟨_, _, _, rfl⟩
  have b1 := order2_bd hr1 ha hb
  simp only [hr1] at hr
  obtain ⟨p2, q2, m2, hr2⟩ : ∃ p q m, Go.Sort.order2 ltInt d q1 c m1 = (p, q, m) := ⟨_, _, _, rfl⟩
  have b2 := order2_bd hr2 b1.2.1 hc
  simp only [hr2] at hr
  obtain ⟨p3, q3, m3, hr3⟩ : ∃ p q m, Go.Sort.order2 ltInt d p1 p2 m2 = (p, q, m) := ⟨_, _, _, rfl⟩
  have b3 := order2_bd hr3 b1.1 b2.1
  simp only [hr3, Prod.mk.injEq] at hr
  omega

set_option maxHeartbeats 2000000 in
theorem median_to (w : World) {g n cap s a b c k p m : Nat} {d : Array Int} (hr : Go.Sort.median ltInt d a b c k = (p, m)) (h : RowD w g cap d) (hn : d.size = n) (ha : a < n) (hb : b < n) (hc : c < n) (hs : OneAt w s k) (hne : s ≠ g) (hk : k ≤ 100) (hnb : n ≤ 1099511627776) :
    Calls Try.prog 68 #[.slice (some ⟨g, 0, none⟩) n cap, .int .i64 (a : Nat), .int .i64 (b : Nat), .int .i64 (c : Nat), .pointer (some ⟨s, 0, none⟩)] w fun e w' => e = .returned (.int .i64 (p : Nat)) ∧ OneAt w' s m ∧ Keeps (fun k => k = s) w w' := by
  unfold Go.Sort.median at hr
  obtain ⟨p1, q1, m1, hr1⟩ : ∃ p q m, Go.Sort.order2 ltInt d a b k = (p, q, m) := ⟨_, _, _, rfl⟩
  have b1 := order2_bd hr1 ha hb
  simp only [hr1] at hr
  obtain ⟨p2, q2, m2, hr2⟩ : ∃ p q m, Go.Sort.order2 ltInt d q1 c m1 = (p, q, m) := ⟨_, _, _, rfl⟩
  have b2 := order2_bd hr2 b1.2.1 hc
  simp only [hr2] at hr
  obtain ⟨p3, q3, m3, hr3⟩ : ∃ p q m, Go.Sort.order2 ltInt d p1 p2 m2 = (p, q, m) := ⟨_, _, _, rfl⟩
  have b3 := order2_bd hr3 b1.1 b2.1
  simp only [hr3, Prod.mk.injEq] at hr
  obtain ⟨e1, e2⟩ := hr
  subst e1; subst e2
  have H := Lib.hid h
  have HS := Lib.hid hs
  clear h hs
  go_enter Try.func68, Try.ntmps68
  go_wp2_with fail
  refine (order2_to hr1 H.out hn ha hb HS.out hne (by omega) hnb).mono ?_
  rintro e w1 ⟨rfl, hs1, hk1⟩
  have HS1 := Lib.hid hs1
  have HK1 := Lib.hid hk1
  have H1 := Lib.hid (H.out.keep hk1 fun h => hne h.symm)
  clear hs1 hk1
  go_wp2_with fail
  refine (order2_to hr2 H1.out hn b1.2.1 hc HS1.out hne (by omega) hnb).mono ?_
  rintro e w2 ⟨rfl, hs1, hk1⟩
  have HS2 := Lib.hid hs1
  have HK2 := Lib.hid (Keeps.trans HK1.out hk1 fun _ _ h => h)
  have H2 := Lib.hid (H1.out.keep hk1 fun h => hne h.symm)
  clear hs1 hk1
  go_wp2_with fail
  refine (order2_to hr3 H2.out hn b1.1 b2.1 HS2.out hne (by omega) hnb).mono ?_
  rintro e w3 ⟨rfl, hs1, hk1⟩
  have HS3 := Lib.hid hs1
  have HK3 := Lib.hid (Keeps.trans HK2.out hk1 fun _ _ h => h)
  clear hs1 hk1
  go_wp2_with fail
  go_ret
  exact ⟨rfl, HS3.out, HK3.out⟩

theorem medadj_to (w : World) {g n cap s a k p m : Nat} {d : Array Int} (hr : Go.Sort.medianAdjacent ltInt d a k = (p, m)) (h : RowD w g cap d) (hn : d.size = n) (ha1 : 1 ≤ a) (ha : a + 1 < n) (hs : OneAt w s k) (hne : s ≠ g) (hk : k ≤ 100) (hnb : n ≤ 1099511627776) :
    Calls Try.prog 67 #[.slice (some ⟨g, 0, none⟩) n cap, .int .i64 (a : Nat), .pointer (some ⟨s, 0, none⟩)] w fun e w' => e = .returned (.int .i64 (p : Nat)) ∧ OneAt w' s m ∧ Keeps (fun k => k = s) w w' := by
  unfold Go.Sort.medianAdjacent at hr
  obtain ⟨q, rfl⟩ : ∃ q, a = q + 1 := ⟨a - 1, by omega⟩
  have hq : q + 1 - 1 = q := by omega
  rw [hq] at hr
  have hm := median_to w hr h hn (by omega) (by omega) (by omega) hs hne hk hnb
  have hqc : ((q + 1 : Nat) : Int) = (q : Int) + 1 := by omega
  have hqc2 : ((q + 1 + 1 : Nat) : Int) = (q : Int) + 1 + 1 := by omega
  rw [hqc, hqc2] at hm
  rw [hqc]
  have HM := Lib.hid hm
  have hqi : (q : Int) + 1 + 1 < (n : Int) := by omega
  have hni : (n : Int) ≤ 1099511627776 := by omega
  clear hm h hs hr hqc hqc2 hq
  go_enter Try.func67, Try.ntmps67
  go_wp2_with fail
  refine (HM.out).mono ?_
  rintro e w1 ⟨rfl, hs1, hk1⟩
  have HS1 := Lib.hid (And.intro hs1 hk1)
  clear hs1 hk1
  go_wp2_with fail
  go_ret
  exact ⟨rfl, HS1.out.1, HS1.out.2⟩
end Go.Proofs.Yteccmnjcmmbhlaa
