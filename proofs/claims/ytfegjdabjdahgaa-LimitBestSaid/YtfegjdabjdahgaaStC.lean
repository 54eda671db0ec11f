/- Pointers sorted: swapRangeCmpFunc, rotateCmpFunc. -/
import Derived.Test.YtfegjdabjdahgaaStB
namespace Go.Proofs.Ytfegjdabjdahgaa
open Go.RowKit
set_option linter.unusedVariables false
set_option linter.unusedSimpArgs false

def swapG (f : Nat → Nat) (x y k p : Nat) : Nat := if x ≤ p ∧ p < x + k then f (p - x + y) else if y ≤ p ∧ p < y + k then f (p - y + x) else f p
theorem swapG_zero (f : Nat → Nat) (x y : Nat) : swapG f x y 0 = f := by
  funext p
  unfold swapG
  rw [if_neg (by omega), if_neg (by omega)]
theorem swapG_succ (f : Nat → Nat) {x y k : Nat} (h : x + (k + 1) ≤ y) : swapF (swapG f x y k) (x + k) (y + k) = swapG f x y (k + 1) := by
  funext p
  unfold swapF swapG
  by_cases h1 : p = y + k
  · rw [if_pos h1, if_neg (by omega), if_neg (by omega), if_neg (by omega), if_pos (by omega)]
    congr 1; omega
  · rw [if_neg h1]
    by_cases h2 : p = x + k
    · rw [if_pos h2, if_neg (by omega), if_neg (by omega), if_pos (by omega)]
      congr 1; omega
    · rw [if_neg h2]
      by_cases h3 : x ≤ p ∧ p < x + k
      · rw [if_pos h3, if_pos (by omega)]
      · rw [if_neg h3, if_neg (show ¬ (x ≤ p ∧ p < x + (k + 1)) by omega)]
        by_cases h4 : y ≤ p ∧ p < y + k
        · rw [if_pos h4, if_pos (by omega)]
        · rw [if_neg h4, if_neg (by omega)]
def rotG (f : Nat → Nat) (a m b p : Nat) : Nat := if p < a ∨ b ≤ p then f p else if p < a + (b - m) then f (p + (m - a)) else f (p - (b - m))
theorem rot_gt (f : Nat → Nat) {m i j : Nat} (hij : j < i) (him : i ≤ m) : rotG (swapG f (m - i) m j) (m - (i - j)) m (m + j) = rotG f (m - i) m (m + j) := by
  funext p
  unfold rotG swapG
  repeat' split
  all_goals first | omega | (congr 1; omega) | rfl
theorem rot_lt (f : Nat → Nat) {m i j : Nat} (hij : i < j) (him : i ≤ m) : rotG (swapG f (m - i) (m + j - i) i) (m - i) m (m + (j - i)) = rotG f (m - i) m (m + j) := by
  funext p
  unfold rotG swapG
  repeat' split
  all_goals first | omega | (congr 1; omega) | rfl
theorem rot_eq (f : Nat → Nat) {m i : Nat} (him : i ≤ m) : swapG f (m - i) m i = rotG f (m - i) m (m + i) := by
  funext p
  unfold rotG swapG
  repeat' split
  all_goals first | omega | (congr 1; omega) | rfl
set_option maxRecDepth 4000 in
set_option maxHeartbeats 2000000 in
theorem swr_is (o : Ord) (w : World) (g n cap x y k : Nat) (f : Nat → Nat) (h : RowF o w g cap n f) (hxy : x + k ≤ y) (hyn : y + k ≤ n) (hnb : n ≤ 1099511627776) :
    Calls Try.prog 31 #[.slice (some ⟨g, 0, none⟩) n cap, .int .i64 (x : Nat), .int .i64 (y : Nat), .int .i64 (k : Nat), cmpFn] w fun e w' => e = .returned (.tuple #[]) ∧ RowF o w' g cap n (swapG f x y k) ∧ Turn n x (y + k) f (swapG f x y k) ∧ Keeps (fun k => k = g) w w' := by
  unfold cmpFn
  have H := Lib.hid h
  have hni : (n : Int) ≤ 1099511627776 := by omega
  have hki : (k : Int) ≤ (n : Int) := by omega
  clear h
  go_enter Try.func31, Try.ntmps31
  go_wp2_with fail
  go_loopw [10] (fun vi wr => ∃ (i : Nat), i ≤ k ∧ vi = .int .i64 (i : Nat) ∧ Hid (RowF o wr g cap n (swapG f x y i)) ∧ Hid (Turn n x (y + k) f (swapG f x y i)) ∧ Hid (Keeps (fun k => k = g) w wr)) (fun vi _ => k - (intOf vi).toNat)
  case atStart => exact ⟨0, Nat.zero_le _, by simp, by show RowF _ _ _ _ _ _; rw [swapG_zero]; exact H.out, by show Turn _ _ _ _ _; rw [swapG_zero]; exact Turn.refl _ _ _ _, Keeps.refl _ _⟩
  case round =>
    obtain ⟨i, hi, rfl, HD, HT, HK⟩ := hrel
    by_cases hik : i < k
    · have hiki : (i : Int) < (k : Int) := by omega
      have HDd := Lib.hid HD.out.drew
      have HKd := Lib.hid HK.out.drew
      have hxs : (x : Int) + (i : Int) = ((x + i : Nat) : Int) := by omega
      have hys : (y : Int) + (i : Int) = ((y + i : Nat) : Int) := by omega
      obtain ⟨u, hu⟩ : ∃ u, u = x + i := ⟨_, rfl⟩
      obtain ⟨v, hv⟩ : ∃ v, v = y + i := ⟨_, rfl⟩
      rw [← hu] at hxs
      rw [← hv] at hys
      have hun : (u : Int) < (n : Int) := by omega
      have hvn : (v : Int) < (n : Int) := by omega
      have c1 := HDd.out.cell (j := u) (by omega)
      have c0 := HDd.out.cell (j := v) (by omega)
      have HS : Hid (swapF (swapG f x y i) u v = swapG f x y (i + 1)) := by
        show _ = _
        rw [hu, hv]
        exact swapG_succ f (by omega)
      have HSW := Lib.hid (HDd.out.swap (i := u) (j := v) (by omega) (by omega))
      have HT2 := Lib.hid (Turn.trans HT.out (Turn.swap (swapG f x y i) (n := n) (a := x) (b := y + k) (i := u) (j := v) (by omega) (by omega) hyn))
      rw [HS.out] at HSW HT2
      generalize swapG f x y i u = p1 at *
      generalize swapG f x y i v = p2 at *
      clear hu hv HD HT HK HS
      go_upto_region 3 with fail
      refine wp_region_seq (by kernel_rfl) (by kernel_rfl) ?_
      generalize wr.drew = w6 at *
      have f1 := HDd.out.frz u
      have f0 := HDd.out.frz v
      have HKS := Lib.hid (Keeps.trans HKd.out (keeps_swap w6 g u v (.pointer (some ⟨p2, 0, none⟩)) (.pointer (some ⟨p1, 0, none⟩))) fun _ _ h => h)
      go_wp2_with fail
      refine ⟨by kernel_rfl, ?_⟩
      go_wp2_with fail
      go_roundw
      case rel => exact ⟨i + 1, hik, by go_num, HSW.out, HT2.out, HKS.out⟩
      case measure => (simp [intOf] <;> omega)
    · obtain rfl : k = i := by omega
      go_wp2_with fail
      go_end0
      exact ⟨rfl, HD.out, HT.out, HK.out⟩
set_option maxRecDepth 4000 in
set_option maxHeartbeats 2000000 in
theorem rot_is (o : Ord) (w : World) (g n cap a m b : Nat) (f : Nat → Nat) (h : RowF o w g cap n f) (ham : a < m) (hmb : m < b) (hbn : b ≤ n) (hnb : n ≤ 1099511627776) :
    Calls Try.prog 30 #[.slice (some ⟨g, 0, none⟩) n cap, .int .i64 (a : Nat), .int .i64 (m : Nat), .int .i64 (b : Nat), cmpFn] w fun e w' => e = .returned (.tuple #[]) ∧ RowF o w' g cap n (rotG f a m b) ∧ Turn n a b f (rotG f a m b) ∧ Keeps (fun k => k = g) w w' := by
  have HR : Hid (rotG f (m - (m - a)) m (m + (b - m)) = rotG f a m b) := by
    show _ = _
    rw [show m - (m - a) = a by omega, show m + (b - m) = b by omega]
  generalize rotG f a m b = R at *
  generalize hF : cmpFn = F at *
  have HF := Lib.hid hF
  have H := Lib.hid h
  have hni : (n : Int) ≤ 1099511627776 := by omega
  have hai : (a : Int) < (m : Int) := by omega
  have hmi : (m : Int) < (b : Int) := by omega
  have hbi : (b : Int) ≤ (n : Int) := by omega
  clear h hF
  go_enter Try.func30, Try.ntmps30
  go_wp2_with fail
  go_loopw [10, 11] (fun vi vj wr => ∃ (i j : Nat) (fk : Nat → Nat), 1 ≤ i ∧ 1 ≤ j ∧ i ≤ m - a ∧ j ≤ b - m ∧ vi = .int .i64 (i : Nat) ∧ vj = .int .i64 (j : Nat) ∧ Hid (RowF o wr g cap n fk) ∧ Hid (Turn n a b f fk) ∧ Hid (rotG fk (m - i) m (m + j) = R) ∧ Hid (Keeps (fun k => k = g) w wr)) (fun vi vj _ => (intOf vi).toNat + (intOf vj).toNat)
  case atStart => exact ⟨m - a, b - m, f, by omega, by omega, Nat.le_refl _, Nat.le_refl _, by go_num, by go_num, H.out, Turn.refl _ _ _ _, HR.out, Keeps.refl _ _⟩
  case round =>
    clear HR
    obtain ⟨i, j, fk, hi1, hj1, hi, hj, rfl, rfl, HD, HT, HE, HK⟩ := hrel
    have hii : (1 : Int) ≤ (i : Int) := by omega
    have hjj : (1 : Int) ≤ (j : Int) := by omega
    have him : (i : Int) ≤ (m : Int) := by omega
    have hjb : (m : Int) + (j : Int) ≤ (b : Int) := by omega
    have e1 : (m : Int) - (i : Int) = ((m - i : Nat) : Int) := by omega
    by_cases hij : i = j
    · subst hij
      have HE2 : Hid (swapG fk (m - i) m i = R) := by
        show _ = _
        rw [rot_eq fk (by omega)]; exact HE.out
      have HSW := Lib.hid (swr_is o wr g n cap (m - i) m i fk HD.out (by omega) (by omega) hnb)
      rw [HF.out, HE2.out] at HSW
      obtain ⟨u, hu⟩ : ∃ u, u = m - i := ⟨_, rfl⟩
      have hua : a ≤ u := by omega
      rw [← hu] at e1 HSW
      have hmn : m + i ≤ b := by omega
      clear hu HE HE2
      go_wp2_with fail
      refine HSW.out.mono ?_
      rintro e w2 ⟨rfl, hr, ht, hk⟩
      go_wp2_with fail
      go_end0
      exact ⟨rfl, hr, HT.out.trans (ht.mono hua hmn), Keeps.trans HK.out hk fun _ _ h => h⟩
    · have hd0 : decide ((i : Int) = (j : Int)) = false := decide_eq_false (by omega)
      have hd1 : ¬ (i : Int) = (j : Int) := by omega
      have hd2 : ((i : Int) == (j : Int)) = false := by simpa using hd1
      by_cases hlt : j < i
      · have HE2 : Hid (rotG (swapG fk (m - i) m j) (m - (i - j)) m (m + j) = R) := by
          show _ = _
          rw [rot_gt fk hlt (by omega)]; exact HE.out
        have hlti : (j : Int) < (i : Int) := by omega
        have HSW := Lib.hid (swr_is o wr g n cap (m - i) m j fk HD.out (by omega) (by omega) hnb)
        rw [HF.out] at HSW
        obtain ⟨u, hu⟩ : ∃ u, u = m - i := ⟨_, rfl⟩
        have hua : a ≤ u := by omega
        rw [← hu] at e1 HSW HE2
        have hmn : m + j ≤ b := by omega
        clear hu HE
        go_wp2_with fail
        refine HSW.out.mono ?_
        rintro e w2 ⟨rfl, hr, ht, hk⟩
        have HR2 := Lib.hid hr
        have HT2 := Lib.hid (HT.out.trans (ht.mono hua hmn))
        have HK2 := Lib.hid (Keeps.trans HK.out hk fun _ _ h => h)
        clear hr ht hk HSW HD HT HK
        go_wp2_with fail
        go_roundw
        case rel => exact ⟨i - j, j, _, by omega, hj1, by omega, hj, by go_num, rfl, HR2.out, HT2.out, HE2.out, HK2.out⟩
        case measure => simp [intOf]; omega
      · have hlt' : i < j := by omega
        have HE2 : Hid (rotG (swapG fk (m - i) (m + j - i) i) (m - i) m (m + (j - i)) = R) := by
          show _ = _
          rw [rot_lt fk hlt' (by omega)]; exact HE.out
        have hlti : ¬ (j : Int) < (i : Int) := by omega
        have hlti2 : (i : Int) < (j : Int) := by omega
        have e2 : (m : Int) + (j : Int) - (i : Int) = ((m + j - i : Nat) : Int) := by omega
        have HSW := Lib.hid (swr_is o wr g n cap (m - i) (m + j - i) i fk HD.out (by omega) (by omega) hnb)
        rw [HF.out] at HSW
        obtain ⟨u, hu⟩ : ∃ u, u = m - i := ⟨_, rfl⟩
        obtain ⟨v, hv⟩ : ∃ v, v = m + j - i := ⟨_, rfl⟩
        have hua : a ≤ u := by omega
        have hvb : v + i ≤ b := by omega
        rw [← hu] at e1 HSW
        rw [← hv] at e2 HSW
        rw [← hv] at HE2
        have HE3 : Hid (rotG (swapG fk u v i) (m - i) m (m + (j - i)) = R) := by
          show _ = _
          rw [hu]; exact HE2.out
        clear hu hv HE HE2
        go_wp2_with fail
        refine HSW.out.mono ?_
        rintro e w2 ⟨rfl, hr, ht, hk⟩
        have HR2 := Lib.hid hr
        have HT2 := Lib.hid (HT.out.trans (ht.mono hua hvb))
        have HK2 := Lib.hid (Keeps.trans HK.out hk fun _ _ h => h)
        clear hr ht hk HSW HD HT HK
        go_wp2_with fail
        go_roundw
        case rel => exact ⟨i, j - i, _, hi1, by omega, hi, by omega, rfl, by go_num, HR2.out, HT2.out, HE3.out, HK2.out⟩
        case measure => simp [intOf]; omega
end Go.Proofs.Ytfegjdabjdahgaa
