/- runs.Places, the program's. -/
import Derived.Test.YteccmnjcmmbhlaaSymR
import Derived.Test.YteccmnjcmmbhlaaZer
namespace Go.Proofs.Yteccmnjcmmbhlaa
open Go.RowKit
set_option linter.unusedVariables false
set_option linter.unusedSimpArgs false

def plGo (n q : Int) : List Int → List Int → Nat → Nat → List Int × Int
  | [], out, run, _ => if q - out.length < run then ([], 3) else ([], 10)
  | s :: r, out, run, deep =>
    if s = 0 ∨ s = 1 then (if deep = 20 then ([], 11) else plGo n q r out (run + (s + 1).toNat * 2 ^ deep) (deep + 1))
    else if q - out.length < run then ([], 3)
    else if s < 0 ∨ n + 1 < s then ([], 11)
    else if s = n + 1 then (if r = [] then (out ++ List.replicate run 0, 0) else ([], 15))
    else if (out.length : Int) + run = q then ([], 3)
    else plGo n q r (out ++ List.replicate run 0 ++ [s - 1]) 0 0
def plR (xs : List Int) (n q : Int) : List Int × Int := if n < 1 ∨ 256 < n ∨ q < 0 then ([], 2) else plGo n q xs [] 0 0
theorem drop_in (xs : List Int) (i : Nat) (h : i < xs.length) : xs.drop i = xs.getD i 0 :: xs.drop (i + 1) := by
  rw [List.drop_eq_getElem_cons h]
  simp [List.getD_eq_getElem?_getD, h]
theorem meas {m i : Nat} (h : i < m) : m - (intOf (Value.int .i64 ((i : Int) + 1))).toNat < m - (intOf (Value.int .i64 (i : Int))).toNat := by simp [intOf]; omega
theorem wrap64_mid (n : Int) (h : -9223372036854775808 ≤ n ∧ n ≤ 9223372036854775807) : wrap64 n = n := by unfold wrap64; omega
theorem sum1 (run deep : Nat) (h : run < 2097152) (hd : 2 ^ deep ≤ 524288) : wrap64 ((run : Int) + wrap64 ((2 : Int) ^ deep)) = ((run + 1 * 2 ^ deep : Nat) : Int) := by
  have h7 : (2 : Int) ^ deep = ((2 ^ deep : Nat) : Int) := by simp
  rw [h7]
  generalize 2 ^ deep = z at *
  rw [wrap64_mid (z : Int) (by omega), wrap64_mid _ (by omega)]
  omega
theorem sum2 (run deep : Nat) (h : run < 2097152) (hd : 2 ^ deep ≤ 524288) : wrap64 ((run : Int) + wrap64 ((2 : Int) * 2 ^ deep)) = ((run + 2 * 2 ^ deep : Nat) : Int) := by
  have h7 : (2 : Int) ^ deep = ((2 ^ deep : Nat) : Int) := by simp
  rw [h7]
  generalize 2 ^ deep = z at *
  rw [wrap64_mid (2 * (z : Int)) (by omega), wrap64_mid _ (by omega)]
  omega
theorem run_in {run deep : Nat} (h : run < 2 ^ (deep + 1)) (hd : deep < 20) (s : Nat) (hs : s ≤ 2) : run + s * 2 ^ deep < 2 ^ (deep + 2) := by
  have h1 : 2 ^ (deep + 2) = 4 * 2 ^ deep := by rw [Nat.pow_add, Nat.mul_comm]
  have h2 : 2 ^ (deep + 1) = 2 * 2 ^ deep := by rw [Nat.pow_add, Nat.mul_comm]
  have h3 : s * 2 ^ deep ≤ 2 * 2 ^ deep := Nat.mul_le_mul_right _ hs
  omega
theorem run_top {run deep : Nat} (h : run < 2 ^ (deep + 1)) (hd : deep ≤ 20) : run < 2097152 := Nat.lt_of_lt_of_le h (Nat.pow_le_pow_right (by decide) (show deep + 1 ≤ 21 by omega))
theorem pow_top {deep : Nat} (hd : deep < 20) : 1 ≤ 2 ^ deep ∧ 2 ^ deep ≤ 524288 := ⟨Nat.one_le_two_pow, Nat.pow_le_pow_right (by decide) (show deep ≤ 19 by omega)⟩

set_option maxRecDepth 4000 in
set_option maxHeartbeats 2000000 in
theorem places_is (w : World) (A : Option Addr) (m c : Nat) (xs : List Int) (n q : Int) (h : Nums .i64 w A m c xs) (hn : inKind .i64 n) (hq : inKind .i64 q) (hm : m ≤ 1048576) :
    Calls Try.prog 18 #[.slice A m c, .int .i64 n, .int .i64 q] w fun e w' => ∃ A' c' k, e = .returned (.tuple #[.slice A' k c', .int .i64 (plR xs n q).2]) ∧ w'.ownsRow w.heap.size 3 1 (.slice A' k c') k ((plR xs n q).1.map (Value.int .i64)) ∧ Grow w w' := by
  have hn := inKind_i64 hn
  have hq := inKind_i64 hq
  have HL := Lib.hid h.len
  have hR : Hid (plR xs n q = if n < 1 ∨ 256 < n ∨ q < 0 then ([], 2) else plGo n q xs [] 0 0) := rfl
  have H := Lib.hid h
  generalize plR xs n q = R at *
  clear h
  by_cases h1 : n < 1
  · have hR2 : R = ([], 2) := by rw [hR.out, if_pos (.inl h1)]
    subst hR2
    go_enter Try.func18, Try.ntmps18
    go_wp2_with fail
    go_ret2
    exact ⟨none, 0, 0, rfl, own_nil _ _ _, Keeps.refl _ _⟩
  by_cases h2 : 256 < n
  · have hR2 : R = ([], 2) := by rw [hR.out, if_pos (.inr (.inl h2))]
    subst hR2
    go_enter Try.func18, Try.ntmps18
    go_wp2_with fail
    go_ret2
    exact ⟨none, 0, 0, rfl, own_nil _ _ _, Keeps.refl _ _⟩
  by_cases h3 : q < 0
  · have hR2 : R = ([], 2) := by rw [hR.out, if_pos (.inr (.inr h3))]
    subst hR2
    go_enter Try.func18, Try.ntmps18
    go_wp2_with fail
    go_ret2
    exact ⟨none, 0, 0, rfl, own_nil _ _ _, Keeps.refl _ _⟩
  have HR : Hid (plGo n q xs [] 0 0 = R) := by
    show _ = _
    rw [hR.out, if_neg (by omega)]
  clear hR
  have hn1 : 1 ≤ n := by omega
  have hn2 : n ≤ 256 := by omega
  have hq0 : 0 ≤ q := by omega
  clear h1 h2 h3
  go_enter Try.func18, Try.ntmps18
  go_wp2_with fail
  go_loopw [8, 9, 10, 11, 12, 25] (fun vo vr vd _ _ vi wr => ∃ (i run deep k : Nat) (out : List Int), i ≤ m ∧ vi = .int .i64 i ∧ vr = .int .i64 run ∧ vd = .int .i64 deep ∧ deep ≤ 20 ∧ Hid (run < 2 ^ (deep + 1)) ∧ k ≤ 4194304 * i ∧ (k : Int) ≤ q ∧
      wr.ownsRow w.heap.size 3 1 vo k (out.map (Value.int .i64)) ∧ Grow w wr ∧ Hid (plGo n q (xs.drop i) out run deep = R)) (fun _ _ _ _ _ vi _ => m - (intOf vi).toNat)
  case atStart => exact ⟨0, 0, 0, 0, [], by omega, rfl, rfl, rfl, by omega, by show _ < _; decide, by omega, by omega, own_nil _ _ _, Keeps.refl _ _, HR.out⟩
  case round =>
    obtain ⟨i, run, deep, k, out, hi, rfl, rfl, rfl, hd, hrun, hk, hkq, ho, hg, he⟩ := hrel
    obtain ⟨A1, c1, rfl⟩ := row_form ho
    have HO := Lib.hid ho
    have HG := Lib.hid hg
    have hsz : w.heap.size ≤ wr.heap.size := hg.size
    have H1 := Lib.hid (H.out.grow hg)
    have hlen : Hid (out.length = k) := by have h9 := ho.1; simp at h9; exact h9
    have hrun2 := run_top hrun.out hd
    clear ho hg
    by_cases him : i < m
    · have he2 := he.out
      rw [drop_in xs i (by rw [HL.out]; exact him), plGo, hlen.out] at he2
      have HT : Hid (xs.drop (i + 1) = [] ↔ ¬ i + 1 < m) := by
        show _ ↔ _
        rw [List.drop_eq_nil_iff, HL.out]
        omega
      obtain ⟨tl, htl⟩ : ∃ tl, tl = xs.drop (i + 1) := ⟨_, rfl⟩
      rw [← htl] at he2 HT
      have HTL := Lib.hid htl
      have HE := Lib.hid he2
      clear htl
      clear he he2
      have hxi := H1.out.int i
      obtain ⟨ba, oa, rfl, hcell⟩ := H1.out.at_ (by omega)
      have hc := hcell i him
      clear hcell
      generalize xs.getD i 0 = s at *
      by_cases hs0 : s = 0
      · subst hs0
        by_cases hdd : deep = 20
        · subst hdd
          have h5 := HE.out
          rw [if_pos (.inl rfl), if_pos rfl] at h5
          subst h5
          clear HE
          go_wp2_with fail
          go_ret2
          exact ⟨none, 0, 0, rfl, own_nil _ _ _, HG.out⟩
        · have h5 := HE.out
          rw [if_pos (.inl rfl), if_neg hdd] at h5
          have HE2 := Lib.hid h5
          have HP := Lib.hid (run_in hrun.out (by omega) 1 (by omega))
          have HPT := Lib.hid (pow_top (show deep < 20 by omega))
          clear HE h5
          go_wp2_with fail
          go_roundw
          case rel => exact ⟨i + 1, run + 1 * 2 ^ deep, deep + 1, k, out, by omega, by go_num, by rw [sum1 run deep hrun2 HPT.out.2], by go_num, by omega, HP.out, by omega, hkq, HO.out, HG.out, by show _ = _; rw [← HTL.out]; exact HE2.out⟩
          case measure => exact meas him
      by_cases hs1 : s = 1
      · subst hs1
        by_cases hdd : deep = 20
        · subst hdd
          have h5 := HE.out
          rw [if_pos (.inr rfl), if_pos rfl] at h5
          subst h5
          clear HE
          go_wp2_with fail
          go_ret2
          exact ⟨none, 0, 0, rfl, own_nil _ _ _, HG.out⟩
        · have h5 := HE.out
          rw [if_pos (.inr rfl), if_neg hdd] at h5
          have HE2 := Lib.hid h5
          have HP := Lib.hid (run_in hrun.out (by omega) 2 (by omega))
          have HPT := Lib.hid (pow_top (show deep < 20 by omega))
          clear HE h5
          go_wp2_with fail
          go_roundw
          case rel => exact ⟨i + 1, run + 2 * 2 ^ deep, deep + 1, k, out, by omega, by go_num, by rw [sum2 run deep hrun2 HPT.out.2], by go_num, by omega, HP.out, by omega, hkq, HO.out, HG.out, by show _ = _; rw [← HTL.out]; exact HE2.out⟩
          case measure => exact meas him
      have h5 := HE.out
      rw [if_neg (show ¬ (s = 0 ∨ s = 1) by omega)] at h5
      have hb0 : (s == (0 : Int)) = false := by simpa using hs0
      have hb1 : (s == (1 : Int)) = false := by simpa using hs1
      by_cases hbig : q - k < run
      · rw [if_pos hbig] at h5
        subst h5
        clear HE
        go_wp2_with fail
        go_ret2
        exact ⟨none, 0, 0, rfl, own_nil _ _ _, HG.out⟩
      rw [if_neg hbig] at h5
      have hfit : (k : Int) + run ≤ q := by omega
      clear HE
      by_cases hneg : s < 0
      · rw [if_pos (.inl hneg)] at h5
        subst h5
        go_wp2_with (at_builtin; refine wpList_appZ rfl (.tmp 52) (.tmp 53) 28 3 3 rfl Try.underlying28 Try.underlying3 Try.infoI64 rfl rfl w.heap.size _ k _ rfl HO.out hsz .i64 run rfl (by unfold maxLen; omega) (by omega) ?_)
        intro A2 c2 w1 ho1 hk1 hm1
        have HO1 : Hid (w1.ownsRow w.heap.size 3 1 (.slice A2 (k + run) c2) (k + run) ((out ++ List.replicate run 0).map (Value.int .i64))) := by
          show World.ownsRow _ _ _ _ _ _ _
          rw [List.map_append, List.map_replicate]
          exact ho1
        have HG1 := Lib.hid (grow_own HG.out HO.out (Nat.le_refl _) hk1)
        have hsz1 : w.heap.size ≤ w1.heap.size := HG1.out.size
        clear ho1 hk1 hm1
        go_wp2_with fail
        go_ret2
        exact ⟨none, 0, 0, rfl, own_nil _ _ _, HG1.out⟩
      by_cases hfar : n + 1 < s
      · rw [if_pos (.inr hfar)] at h5
        subst h5
        go_wp2_with (at_builtin; refine wpList_appZ rfl (.tmp 52) (.tmp 53) 28 3 3 rfl Try.underlying28 Try.underlying3 Try.infoI64 rfl rfl w.heap.size _ k _ rfl HO.out hsz .i64 run rfl (by unfold maxLen; omega) (by omega) ?_)
        intro A2 c2 w1 ho1 hk1 hm1
        have HO1 : Hid (w1.ownsRow w.heap.size 3 1 (.slice A2 (k + run) c2) (k + run) ((out ++ List.replicate run 0).map (Value.int .i64))) := by
          show World.ownsRow _ _ _ _ _ _ _
          rw [List.map_append, List.map_replicate]
          exact ho1
        have HG1 := Lib.hid (grow_own HG.out HO.out (Nat.le_refl _) hk1)
        have hsz1 : w.heap.size ≤ w1.heap.size := HG1.out.size
        clear ho1 hk1 hm1
        go_wp2_with fail
        go_ret2
        exact ⟨none, 0, 0, rfl, own_nil _ _ _, HG1.out⟩
      rw [if_neg (show ¬ (s < 0 ∨ n + 1 < s) by omega)] at h5
      by_cases hend : s = n + 1
      · subst hend
        rw [if_pos rfl] at h5
        by_cases hl : i + 1 < m
        · rw [if_neg (fun h => (HT.out.1 h) hl)] at h5
          subst h5
          go_wp2_with (at_builtin; refine wpList_appZ rfl (.tmp 52) (.tmp 53) 28 3 3 rfl Try.underlying28 Try.underlying3 Try.infoI64 rfl rfl w.heap.size _ k _ rfl HO.out hsz .i64 run rfl (by unfold maxLen; omega) (by omega) ?_)
          intro A2 c2 w1 ho1 hk1 hm1
          have HO1 : Hid (w1.ownsRow w.heap.size 3 1 (.slice A2 (k + run) c2) (k + run) ((out ++ List.replicate run 0).map (Value.int .i64))) := by
            show World.ownsRow _ _ _ _ _ _ _
            rw [List.map_append, List.map_replicate]
            exact ho1
          have HG1 := Lib.hid (grow_own HG.out HO.out (Nat.le_refl _) hk1)
          have hsz1 : w.heap.size ≤ w1.heap.size := HG1.out.size
          clear ho1 hk1 hm1
          go_wp2_with fail
          go_ret2
          exact ⟨none, 0, 0, rfl, own_nil _ _ _, HG1.out⟩
        · rw [if_pos (HT.out.2 hl)] at h5
          have HR2 := Lib.hid h5
          clear h5
          go_wp2_with (at_builtin; refine wpList_appZ rfl (.tmp 52) (.tmp 53) 28 3 3 rfl Try.underlying28 Try.underlying3 Try.infoI64 rfl rfl w.heap.size _ k _ rfl HO.out hsz .i64 run rfl (by unfold maxLen; omega) (by omega) ?_)
          intro A2 c2 w1 ho1 hk1 hm1
          have HO1 : Hid (w1.ownsRow w.heap.size 3 1 (.slice A2 (k + run) c2) (k + run) ((out ++ List.replicate run 0).map (Value.int .i64))) := by
            show World.ownsRow _ _ _ _ _ _ _
            rw [List.map_append, List.map_replicate]
            exact ho1
          have HG1 := Lib.hid (grow_own HG.out HO.out (Nat.le_refl _) hk1)
          have hsz1 : w.heap.size ≤ w1.heap.size := HG1.out.size
          clear ho1 hk1 hm1
          go_wp2_with fail
          go_ret2
          rw [← HR2.out]
          exact ⟨A2, c2, k + run, rfl, HO1.out, HG1.out⟩
      rw [if_neg hend] at h5
      by_cases hfull : (k : Int) + run = q
      · rw [if_pos hfull] at h5
        subst h5
        go_wp2_with (at_builtin; refine wpList_appZ rfl (.tmp 52) (.tmp 53) 28 3 3 rfl Try.underlying28 Try.underlying3 Try.infoI64 rfl rfl w.heap.size _ k _ rfl HO.out hsz .i64 run rfl (by unfold maxLen; omega) (by omega) ?_)
        intro A2 c2 w1 ho1 hk1 hm1
        have HO1 : Hid (w1.ownsRow w.heap.size 3 1 (.slice A2 (k + run) c2) (k + run) ((out ++ List.replicate run 0).map (Value.int .i64))) := by
          show World.ownsRow _ _ _ _ _ _ _
          rw [List.map_append, List.map_replicate]
          exact ho1
        have HG1 := Lib.hid (grow_own HG.out HO.out (Nat.le_refl _) hk1)
        have hsz1 : w.heap.size ≤ w1.heap.size := HG1.out.size
        clear ho1 hk1 hm1
        go_wp2_with fail
        go_ret2
        exact ⟨none, 0, 0, rfl, own_nil _ _ _, HG1.out⟩
      rw [if_neg hfull] at h5
      have HE2 := Lib.hid h5
      clear h5
      go_wp2_with (at_builtin; refine wpList_appZ rfl (.tmp 52) (.tmp 53) 28 3 3 rfl Try.underlying28 Try.underlying3 Try.infoI64 rfl rfl w.heap.size _ k _ rfl HO.out hsz .i64 run rfl (by unfold maxLen; omega) (by omega) ?_)
      intro A2 c2 w1 ho1 hk1 hm1
      have HO1 : Hid (w1.ownsRow w.heap.size 3 1 (.slice A2 (k + run) c2) (k + run) ((out ++ List.replicate run 0).map (Value.int .i64))) := by
        show World.ownsRow _ _ _ _ _ _ _
        rw [List.map_append, List.map_replicate]
        exact ho1
      have HG1 := Lib.hid (grow_own HG.out HO.out (Nat.le_refl _) hk1)
      have hsz1 : w.heap.size ≤ w1.heap.size := HG1.out.size
      clear ho1 hk1 hm1
      go_wp2_with (at_builtin; refine wpList_app1 rfl (.tmp 87) (.tmp 90) 28 3 rfl Try.underlying28 Try.infoI64 rfl w.heap.size _ (k + run) _ rfl HO1.out hsz1 rfl rfl (by unfold maxLen; omega) (by omega) ?_)
      intro g cap w2 ho2 hk2 hm2
      have HO2 : Hid (w2.ownsRow w.heap.size 3 1 (.slice (some ⟨g, 0, none⟩) (k + run + 1) cap) (k + run + 1) ((out ++ List.replicate run 0 ++ [s - 1]).map (Value.int .i64))) := by
        show World.ownsRow _ _ _ _ _ _ _
        simp only [List.map_append, List.append_assoc, List.map_replicate]
        exact ho2
      have HG2 := Lib.hid (grow_own HG1.out HO1.out (Nat.le_refl _) hk2)
      clear ho2 hk2 hm2
      go_wp2_with fail
      go_roundw
      case rel => exact ⟨i + 1, 0, 0, k + run + 1, _, by omega, by go_num, rfl, rfl, by omega, by show _ < _; decide, by omega, by omega, HO2.out, HG2.out, by show _ = _; rw [← HTL.out]; exact HE2.out⟩
      case measure => exact meas him
    · obtain rfl : m = i := by omega
      have he2 := he.out
      rw [List.drop_eq_nil_of_le (by rw [HL.out]; omega), plGo, hlen.out] at he2
      by_cases hbig : q - k < run
      · rw [if_pos hbig] at he2
        subst he2
        clear he
        go_wp2_with fail
        go_ret2
        exact ⟨none, 0, 0, rfl, own_nil _ _ _, HG.out⟩
      · rw [if_neg hbig] at he2
        subst he2
        clear he
        go_wp2_with fail
        go_ret2
        exact ⟨none, 0, 0, rfl, own_nil _ _ _, HG.out⟩
end Go.Proofs.Yteccmnjcmmbhlaa
