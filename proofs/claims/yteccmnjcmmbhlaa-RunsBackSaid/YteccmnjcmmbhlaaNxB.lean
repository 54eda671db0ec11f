/- suffix.Back, the program's and the document's. -/
import Derived.Test.YteccmnjcmmbhlaaNxW
import Derived.Test.YteccmnjcmmbhlaaSame
namespace Go.Proofs.Yteccmnjcmmbhlaa
open Go.RowKit
set_option linter.unusedVariables false
set_option linter.unusedSimpArgs false

def backL (nx xs : List Int) : Nat → Int → List Int
  | 0, _ => []
  | k + 1, x => xs.getD (nx.getD x.toNat 0).toNat 0 :: backL nx xs k (nx.getD x.toNat 0)
def backR (xs : List Int) (row : Int) : List Int × Int :=
  if 1048576 < xs.length then ([], 3) else if row < 0 ∨ (0 < row ∧ (xs.length : Int) ≤ row) then ([], 2) else (backL (nextL xs) xs xs.length row, 0)
theorem nextL_at (xs : List Int) (h : ∀ x ∈ xs, 0 ≤ x ∧ x < 256) (j : Nat) (hj : j < xs.length) : 0 ≤ (nextL xs).getD j 0 ∧ (nextL xs).getD j 0 < xs.length := by
  have hl := nextL_len xs h
  have : (nextL xs).getD j 0 ∈ nextL xs := by
    simp [List.getD_eq_getElem?_getD, show j < (nextL xs).length by omega]
  exact nextL_in xs _ this
theorem Try.infoU8' : (Try.prog.info? 5).map (fun i => (i.zero, i.size, i.bytes)) = some (some (.int .u8 0), 1, 1) := by kernel_rfl
def lenV : Value → Nat | .slice _ l _ => l | _ => 0
theorem own_len' {w : World} {B e n : Nat} {v : Value} {xs : List Int} {k : IntKind} (h : w.ownsRow B e 1 v n (xs.map (Value.int k))) : n = xs.length := by have := h.1; simp at this; omega

set_option maxRecDepth 4000 in
set_option maxHeartbeats 2000000 in
theorem back_is (w : World) (A : Option Addr) (n c : Nat) (xs : List Int) (row : Int) (h : Nums .u8 w A n c xs) (hr : inKind .i64 row) (hn : n ≤ 9223372036854775807) :
    Calls Try.prog 9 #[.slice A n c, .int .i64 row] w fun e w' => ∃ A' c' k, e = .returned (.tuple #[.slice A' k c', .int .i64 (backR xs row).2]) ∧ w'.ownsRow w.heap.size 5 1 (.slice A' k c') k ((backR xs row).1.map (Value.int .u8)) ∧ Grow w w' := by
  have hr := inKind_i64 hr
  have HL := Lib.hid h.len
  have hR : Hid (backR xs row = if 1048576 < n then ([], 3) else if row < 0 ∨ (0 < row ∧ (n : Int) ≤ row) then ([], 2) else (backL (nextL xs) xs n row, 0)) := by show _ = _; rw [backR, h.len]
  have H := Lib.hid h
  have HB := Lib.hid (fun x hx => inKind_u8 (h.rng x hx))
  have HN := Lib.hid (next_is w A n c xs h hn)
  have hNR : nextR xs = if 1048576 < n then ([], 3) else (nextL xs, 0) := by rw [nextR, h.len]
  generalize backR xs row = R at *
  clear h
  by_cases h1 : 1048576 < n
  · have hR2 : R = ([], 3) := by rw [hR.out, if_pos h1]
    subst hR2
    rw [if_pos h1] at hNR
    rw [hNR] at HN
    clear hR hNR
    go_enter Try.func9, Try.ntmps9
    go_wp2_with fail
    refine HN.out.mono ?_
    rintro e w1 ⟨A1, c1, k1, rfl, _, hg1⟩
    have HG := Lib.hid hg1
    clear hg1
    go_wp2_with fail
    go_ret2
    exact ⟨none, 0, 0, rfl, own_nil _ _ _, HG.out⟩
  rw [if_neg h1] at hNR
  rw [hNR] at HN
  have hR2 : Hid (R = if row < 0 ∨ (0 < row ∧ (n : Int) ≤ row) then ([], 2) else (backL (nextL xs) xs n row, 0)) := by show _ = _; rw [hR.out, if_neg h1]
  clear hR hNR
  have hn2 : n ≤ 1048576 := by omega
  clear h1
  by_cases hneg : row < 0
  · have hR3 : R = ([], 2) := by rw [hR2.out, if_pos (.inl hneg)]
    subst hR3
    clear hR2
    go_enter Try.func9, Try.ntmps9
    go_wp2_with fail
    refine HN.out.mono ?_
    rintro e w1 ⟨A1, c1, k1, rfl, _, hg1⟩
    have HG := Lib.hid hg1
    clear hg1
    go_wp2_with fail
    go_ret2
    exact ⟨none, 0, 0, rfl, own_nil _ _ _, HG.out⟩
  by_cases hfar : 0 < row ∧ (n : Int) ≤ row
  · have hR3 : R = ([], 2) := by rw [hR2.out, if_pos (.inr hfar)]
    subst hR3
    clear hR2
    obtain ⟨hf1, hf2⟩ := hfar
    have hmx : max 1 (n : Int) ≤ row := by omega
    go_enter Try.func9, Try.ntmps9
    go_wp2_with fail
    refine HN.out.mono ?_
    rintro e w1 ⟨A1, c1, k1, rfl, _, hg1⟩
    have HG := Lib.hid hg1
    clear hg1
    (go_wp2_with fail) <;> (go_ret2; exact ⟨none, 0, 0, rfl, own_nil _ _ _, HG.out⟩)
  have hR3 : R = (backL (nextL xs) xs n row, 0) := by rw [hR2.out, if_neg (by omega)]
  subst hR3
  clear hR2
  have hrow : row < n ∨ n = 0 := by omega
  have hmx : ¬ max 1 (n : Int) ≤ row := by omega
  go_enter Try.func9, Try.ntmps9
  go_wp2_with fail
  refine HN.out.mono ?_
  rintro e w1 ⟨A1, c1, k1, rfl, ho1, hg1⟩
  have hk1 : k1 = n := by rw [own_len' ho1, nextL_len xs HB.out, HL.out]
  subst hk1
  have HG := Lib.hid hg1
  have HO := Lib.hid ho1
  clear hg1 ho1 HN
  have HXC : Hid (k1 ≤ 1048576) := hn2
  go_wp2_with fail
  all_goals (
    go_loopw [8, 9] (fun vo vx wr => ∃ (i : Nat) (x : Int) (ys : List Int), i ≤ k1 ∧ vx = .int .i64 x ∧ (0 ≤ x ∧ x < k1 ∨ k1 = 0) ∧ wr.ownsRow w1.heap.size 5 1 vo i (ys.map (Value.int .u8)) ∧ Hid (Grow w1 wr) ∧ Hid (ys ++ backL (nextL xs) xs (k1 - i) x = backL (nextL xs) xs k1 row)) (fun vo _ _ => k1 - lenV vo)
    case atStart => exact ⟨0, row, [], by omega, rfl, by omega, own_nil _ _ _, Keeps.refl _ _, rfl⟩
    case round =>
      obtain ⟨i, x, ys, hi, rfl, hx, ho2, hg2, he⟩ := hrel
      obtain ⟨A2, c2, rfl⟩ := row_form ho2
      have HO2 := Lib.hid ho2
      have hsz : w1.heap.size ≤ wr.heap.size := hg2.out.size
      clear ho2
      by_cases hin : i < k1
      · obtain ⟨j, rfl⟩ : ∃ j : Nat, x = (j : Int) := ⟨x.toNat, by omega⟩
        have hj : j < k1 := by omega
        obtain ⟨b1, rfl, cn⟩ := own_at (owns_keep HO.out hg2.out (fun _ _ h => h)) j hj
        have hy := nextL_at xs HB.out j (by rw [HL.out]; exact hj)
        rw [HL.out] at hy
        have he2 := he.out
        rw [show k1 - i = (k1 - (i + 1)) + 1 by omega, backL, Int.toNat_natCast] at he2
        generalize (nextL xs).getD j 0 = y at *
        obtain ⟨t, rfl⟩ : ∃ t : Nat, y = (t : Int) := ⟨y.toNat, by omega⟩
        rw [Int.toNat_natCast] at he2
        have HE := Lib.hid he2
        have H1 := H.out.grow (Grow.trans _ _ _ HG.out hg2.out)
        have hxi := H1.byte t
        obtain ⟨ba, oa, rfl, hcell⟩ := H1.at_ (by omega)
        have hc := hcell t (by omega)
        clear hcell H1 he he2
        generalize xs.getD t 0 = v at *
        go_wp2_with (at_builtin; refine wpList_app1 rfl (.tmp 39) (.tmp 44) 22 5 rfl Try.underlying22 Try.infoU8' rfl w1.heap.size _ i _ rfl HO2.out hsz rfl rfl (by unfold maxLen; omega) (by omega) ?_)
        intro g cap w3 ho3 hk3 _
        have HO3 : Hid (w3.ownsRow w1.heap.size 5 1 (.slice (some ⟨g, 0, none⟩) (i + 1) cap) (i + 1) ((ys ++ [v]).map (Value.int .u8))) := by
          show World.ownsRow _ _ _ _ _ _ _
          simp only [List.map_append, List.append_assoc]
          exact ho3
        have HG3 := Lib.hid (grow_own hg2.out HO2.out (Nat.le_refl _) hk3)
        clear ho3 hk3
        go_wp2_with fail
        go_roundw
        case rel => exact ⟨i + 1, t, _, by omega, rfl, by omega, HO3.out, HG3.out, by show _ = _; rw [← HE.out]; simp⟩
        case measure => simp only [lenV]; omega
      · obtain rfl : k1 = i := by omega
        have he2 := he.out
        rw [Nat.sub_self, backL, List.append_nil] at he2
        subst he2
        clear he
        go_wp2_with fail
        go_ret2
        exact ⟨A2, c2, k1, rfl, owns_any_base HO2.out HG.out.size, Grow.trans _ _ _ HG.out hg2.out⟩
  )

set_option maxRecDepth 4000 in
set_option maxHeartbeats 2000000 in
theorem refBack_is (w : World) (A : Option Addr) (n c : Nat) (xs : List Int) (row : Int) (h : Nums .u8 w A n c xs) (hr : inKind .i64 row) (hn : n ≤ 9223372036854775807) :
    Calls Try.prog 10 #[.slice A n c, .int .i64 row] w fun e w' => ∃ A' c' k, e = .returned (.tuple #[.slice A' k c', .int .i64 (backR xs row).2]) ∧ w'.ownsRow w.heap.size 5 1 (.slice A' k c') k ((backR xs row).1.map (Value.int .u8)) ∧ Grow w w' := by
  have hr := inKind_i64 hr
  have HL := Lib.hid h.len
  have hR : Hid (backR xs row = if 1048576 < n then ([], 3) else if row < 0 ∨ (0 < row ∧ (n : Int) ≤ row) then ([], 2) else (backL (nextL xs) xs n row, 0)) := by show _ = _; rw [backR, h.len]
  have H := Lib.hid h
  have HB := Lib.hid (fun x hx => inKind_u8 (h.rng x hx))
  have HN := Lib.hid (refNext_is w A n c xs h hn)
  have hNR : nextR xs = if 1048576 < n then ([], 3) else (nextL xs, 0) := by rw [nextR, h.len]
  generalize backR xs row = R at *
  clear h
  by_cases h1 : 1048576 < n
  · have hR2 : R = ([], 3) := by rw [hR.out, if_pos h1]
    subst hR2
    rw [if_pos h1] at hNR
    rw [hNR] at HN
    clear hR hNR
    go_enter Try.func10, Try.ntmps10
    go_wp2_with fail
    refine HN.out.mono ?_
    rintro e w1 ⟨A1, c1, k1, rfl, _, hg1⟩
    have HG := Lib.hid hg1
    clear hg1
    go_wp2_with fail
    go_ret2
    exact ⟨none, 0, 0, rfl, own_nil _ _ _, HG.out⟩
  rw [if_neg h1] at hNR
  rw [hNR] at HN
  have hR2 : Hid (R = if row < 0 ∨ (0 < row ∧ (n : Int) ≤ row) then ([], 2) else (backL (nextL xs) xs n row, 0)) := by show _ = _; rw [hR.out, if_neg h1]
  clear hR hNR
  have hn2 : n ≤ 1048576 := by omega
  clear h1
  by_cases hneg : row < 0
  · have hR3 : R = ([], 2) := by rw [hR2.out, if_pos (.inl hneg)]
    subst hR3
    clear hR2
    go_enter Try.func10, Try.ntmps10
    go_wp2_with fail
    refine HN.out.mono ?_
    rintro e w1 ⟨A1, c1, k1, rfl, _, hg1⟩
    have HG := Lib.hid hg1
    clear hg1
    go_wp2_with fail
    go_ret2
    exact ⟨none, 0, 0, rfl, own_nil _ _ _, HG.out⟩
  by_cases hfar : 0 < row ∧ (n : Int) ≤ row
  · have hR3 : R = ([], 2) := by rw [hR2.out, if_pos (.inr hfar)]
    subst hR3
    clear hR2
    obtain ⟨hf1, hf2⟩ := hfar
    go_enter Try.func10, Try.ntmps10
    go_wp2_with fail
    refine HN.out.mono ?_
    rintro e w1 ⟨A1, c1, k1, rfl, _, hg1⟩
    have HG := Lib.hid hg1
    clear hg1
    (go_wp2_with fail) <;> (go_ret2; exact ⟨none, 0, 0, rfl, own_nil _ _ _, HG.out⟩)
  have hR3 : R = (backL (nextL xs) xs n row, 0) := by rw [hR2.out, if_neg (by omega)]
  subst hR3
  clear hR2
  have hrow : row < n ∨ n = 0 := by omega
  go_enter Try.func10, Try.ntmps10
  go_wp2_with fail
  refine HN.out.mono ?_
  rintro e w1 ⟨A1, c1, k1, rfl, ho1, hg1⟩
  have hk1 : k1 = n := by rw [own_len' ho1, nextL_len xs HB.out, HL.out]
  subst hk1
  have HG := Lib.hid hg1
  have HO := Lib.hid ho1
  clear hg1 ho1 HN
  have HXC : Hid (k1 ≤ 1048576) := hn2
  go_wp2_with fail
  all_goals (
    go_loopw [8, 9, 10] (fun vo vx vi wr => ∃ (i : Nat) (x : Int) (ys : List Int), i ≤ k1 ∧ vx = .int .i64 x ∧ vi = .int .i64 i ∧ (0 ≤ x ∧ x < k1 ∨ k1 = 0) ∧ wr.ownsRow w1.heap.size 5 1 vo i (ys.map (Value.int .u8)) ∧ Hid (Grow w1 wr) ∧ Hid (ys ++ backL (nextL xs) xs (k1 - i) x = backL (nextL xs) xs k1 row)) (fun _ _ vi _ => k1 - (intOf vi).toNat)
    case atStart => exact ⟨0, row, [], by omega, rfl, rfl, by omega, own_nil _ _ _, Keeps.refl _ _, rfl⟩
    case round =>
      obtain ⟨i, x, ys, hi, rfl, rfl, hx, ho2, hg2, he⟩ := hrel
      obtain ⟨A2, c2, rfl⟩ := row_form ho2
      have HO2 := Lib.hid ho2
      have hsz : w1.heap.size ≤ wr.heap.size := hg2.out.size
      clear ho2
      by_cases hin : i < k1
      · obtain ⟨j, rfl⟩ : ∃ j : Nat, x = (j : Int) := ⟨x.toNat, by omega⟩
        have hj : j < k1 := by omega
        obtain ⟨b1, rfl, cn⟩ := own_at (owns_keep HO.out hg2.out (fun _ _ h => h)) j hj
        have hy := nextL_at xs HB.out j (by rw [HL.out]; exact hj)
        rw [HL.out] at hy
        have he2 := he.out
        rw [show k1 - i = (k1 - (i + 1)) + 1 by omega, backL, Int.toNat_natCast] at he2
        generalize (nextL xs).getD j 0 = y at *
        obtain ⟨t, rfl⟩ : ∃ t : Nat, y = (t : Int) := ⟨y.toNat, by omega⟩
        rw [Int.toNat_natCast] at he2
        have HE := Lib.hid he2
        have H1 := H.out.grow (Grow.trans _ _ _ HG.out hg2.out)
        have hxi := H1.byte t
        obtain ⟨ba, oa, rfl, hcell⟩ := H1.at_ (by omega)
        have hc := hcell t (by omega)
        clear hcell H1 he he2
        generalize xs.getD t 0 = v at *
        go_wp2_with (at_builtin; refine wpList_app1 rfl (.tmp 42) (.tmp 47) 22 5 rfl Try.underlying22 Try.infoU8' rfl w1.heap.size _ i _ rfl HO2.out hsz rfl rfl (by unfold maxLen; omega) (by omega) ?_)
        intro g cap w3 ho3 hk3 _
        have HO3 : Hid (w3.ownsRow w1.heap.size 5 1 (.slice (some ⟨g, 0, none⟩) (i + 1) cap) (i + 1) ((ys ++ [v]).map (Value.int .u8))) := by
          show World.ownsRow _ _ _ _ _ _ _
          simp only [List.map_append, List.append_assoc]
          exact ho3
        have HG3 := Lib.hid (grow_own hg2.out HO2.out (Nat.le_refl _) hk3)
        clear ho3 hk3
        go_wp2_with fail
        go_roundw
        case rel => exact ⟨i + 1, t, _, by omega, rfl, by go_num, by omega, HO3.out, HG3.out, by show _ = _; rw [← HE.out]; simp⟩
        case measure => exact meas hin
      · obtain rfl : k1 = i := by omega
        have he2 := he.out
        rw [Nat.sub_self, backL, List.append_nil] at he2
        subst he2
        clear he
        go_wp2_with fail
        go_ret2
        exact ⟨A2, c2, k1, rfl, owns_any_base HO2.out HG.out.size, Grow.trans _ _ _ HG.out hg2.out⟩
  )
end Go.Proofs.Yteccmnjcmmbhlaa
