/- PrefixCodes: the law, for inputs of bulk at most 1048576. -/
import Derived.Test.YtofalbbbnhnadaaPgV
import Derived.Test.YtofalbbbnhnadaaPrW
import Derived.Test.YtofalbbbnhnadaaPfW
namespace Go.Proofs.Ytofalbbbnhnadaa
open Go.RowKit
set_option linter.unusedVariables false
set_option linter.unusedSimpArgs false

theorem bits_drop (hi : Bool) (xs : List Int) (a j : Nat) : ((ofBytes hi xs).drop a).getD j 0 = ((bt hi xs (a + j) : Nat) : Int) := by
  have h1 : ((ofBytes hi xs).drop a).getD j 0 = (unpk hi xs).getD (a + j) 0 := by
    rw [List.getD_eq_getElem?_getD, List.getElem?_drop, ← List.getD_eq_getElem?_getD]; rfl
  rw [h1]
  unfold bt
  rcases isBits_getD (unpk_isBits hi xs) (a + j) with h | h <;> rw [h] <;> rfl
theorem bulk_len (l : List Int) : (List.map (fun _ => 1) l).sum = l.length := by
  induction l with
  | nil => rfl
  | cons x l ih => simp only [List.map_cons, List.sum_cons, List.length_cons] at *; omega
theorem bulk3 (x0 : (List (Int)) × (Int) × (Bool) × Unit) (x1 x2 : List Int) (h : Sh.bulk (.pair (.sl 8 (.int .i64)) (.pair (.int .i64) (.pair .bool .nil))) x0 + Sh.bulk (.sl 8 (.int .i64)) x1 + Sh.bulk (.sl 1 (.int .u8)) x2 ≤ 1048576) : x0.1.length ≤ 1048576 ∧ x1.length ≤ 1048576 ∧ x2.length ≤ 1048576 := by
  have h : (((List.map (fun _ => 1) x0.1).sum + 1) + (1 + (1 + 0))) + ((List.map (fun _ => 1) x1).sum + 1) + ((List.map (fun _ => 1) x2).sum + 1) ≤ 1048576 := h
  rw [bulk_len, bulk_len, bulk_len] at h
  omega
/-- The document's bits, in a row. -/
def toB (l : List Int) : List Nat := l.map Int.toNat
theorem toB_row (l : List Int) (h : IsBits l) : (toB l).map (fun s => Value.int .i64 (s : Nat)) = l.map (Value.int .i64) := by
  unfold toB
  rw [List.map_map]
  refine List.map_congr_left fun x hx => ?_
  rcases h x hx with rfl | rfl <;> rfl
theorem hasB_no {ls : List Nat} {M : Nat} {w : World} {g m B : Nat} (h : CodeX w g m M B ls) {s : Int} (hs : s < 0 ∨ (m : Int) ≤ s ∨ ∃ k : Nat, s = k ∧ k < m ∧ ls.getD k 0 = 0) : hasB (outK ls M).ws s = false := by
  have hl : (outK ls M).ws.length = m := by rw [(outK_facts ls M).1, h.len]
  unfold hasB
  rcases hs with hs | hs | ⟨k, rfl, hk, h0⟩
  · rw [decide_eq_false (by omega)]; rfl
  · rw [decide_eq_false (show ¬ s < ((outK ls M).ws.length : Int) by rw [hl]; omega)]; simp
  · rw [Int.toNat_natCast, wsl h k hk, h0]; simp
theorem hasB_yes {ls : List Nat} {M : Nat} {w : World} {g m B : Nat} (h : CodeX w g m M B ls) {k : Nat} (hk : k < m) (h0 : 0 < ls.getD k 0) : hasB (outK ls M).ws (k : Int) = true ∧ (outK ls M).ws[k]? = some (wordN ls k, ls.getD k 0) ∧ wordN ls k < 1048576 ∧ ls.getD k 0 ≤ 20 := by
  have hl : (outK ls M).ws.length = m := by rw [(outK_facts ls M).1, h.len]
  have ha := h.all k
  have hm := h.most
  obtain ⟨q1, q2, q3⟩ := wordN_lt h.kraft (by rw [h.len]; exact hk) h0 (by omega)
  have hpw : 2 ^ ls.getD k 0 ≤ 2 ^ 20 := Nat.pow_le_pow_right (by omega) (by omega)
  have hw := h.word k hk
  rw [if_pos h0] at hw
  refine ⟨?_, hw, by omega, by omega⟩
  unfold hasB
  rw [decide_eq_true (by omega), decide_eq_true (by rw [hl]; omega), Int.toNat_natCast, wsl h k hk, decide_eq_true h0]; rfl
theorem rw_put {W w w' : World} {g m M B gb gw n : Nat} {ls : List Nat} {hi : Bool} {v v' ov : Value} {l osy : List Nat} {ws : List (Nat × Nat)} (h : PB W w g m M B ls hi gb v ov l osy) (h3 : gw < B) (hr : RefW w gw n ws) (k : WrKeep w w' gb v v') : RefW w' gw n ws :=
  ⟨hr.1.keep k.1 (fun h9 => by
    rcases h9 with h9 | h9
    · have := h.hgb; omega
    · have := h.hv gw h9; omega), hr.2⟩
theorem RefW.grow {w w' : World} {gw n : Nat} {ws : List (Nat × Nat)} (h : RefW w gw n ws) (k : Grow w w') : RefW w' gw n ws := ⟨h.1.keep k fun h => h, h.2⟩
set_option maxRecDepth 8000 in
set_option maxHeartbeats 8000000 in
theorem walkPrefixCodes (W : World) (cs0 : List Value) (x0 : (List (Int)) × (Int) × (Bool) × Unit) (_h0 : Sh.Rd W (.pair (.sl 8 (.int .i64)) (.pair (.int .i64) (.pair .bool .nil))) cs0 x0) (a1 : Option Addr) (c1 : Nat) (x1 : List (Int)) (_h1 : Sh.Rd W (.sl 8 (.int .i64)) [.slice a1 x1.length c1] x1) (a2 : Option Addr) (c2 : Nat) (x2 : List (Int)) (_h2 : Sh.Rd W (.sl 1 (.int .u8)) [.slice a2 x2.length c2] x2) (_hk : Sh.bulk (.pair (.sl 8 (.int .i64)) (.pair (.int .i64) (.pair .bool .nil))) x0 + Sh.bulk (.sl 8 (.int .i64)) x1 + Sh.bulk (.sl 1 (.int .u8)) x2 ≤ 1048576) :
    Calls Try.prog 5 #[.agg cs0.toArray, .slice a1 x1.length c1, .slice a2 x2.length c2] W fun e w' => e = .returned (.bool true) ∧ Below W.heap.size W w' := by
  have hbk := bulk3 x0 x1 x2 _hk
  obtain ⟨A0, c0, rfl, hmw, hrd⟩ := len3 _h0
  obtain ⟨xs, most, loose, u⟩ := x0
  simp only at hmw hrd hbk ⊢
  have HXS := Lib.hid (Nums.of_rd hrd).1
  have HYS := Lib.hid (Nums.of_rd _h1).1
  have HBS := Lib.hid (Nums.of_rd _h2).1
  obtain ⟨L, hL⟩ : ∃ L, L = xs.length := ⟨_, rfl⟩
  obtain ⟨L2, hL2⟩ : ∃ L2, L2 = x1.length := ⟨_, rfl⟩
  obtain ⟨LB, hLB⟩ : ∃ LB, LB = x2.length := ⟨_, rfl⟩
  rw [← hL] at HXS hbk ⊢
  rw [← hL2] at HYS hbk ⊢
  rw [← hLB] at HBS hbk ⊢
  have HLB := Lib.hid hbk
  have hLi2 : (L2 : Int) ≤ 1048576 := by omega
  have hLBi : (LB : Int) ≤ 1048576 := by omega
  clear _h0 _h1 _h2 _hk hmw hrd hL hL2 hLB hbk
  have hga := heap_alloc_new W (.cells #[.slice A0 L c0, .int .i64 most, .bool loose] 24)
  have HGA := Lib.hid hga
  have HG1 : Hid (Grow W (W.alloc (.cells #[.slice A0 L c0, .int .i64 most, .bool loose] 24))) := (Keeps.refl _ W).alloc _
  clear hga
  go_enter Try.func5, Try.ntmps5
  go_upto_region 1 with fail
  obtain ⟨gl, hgl⟩ : ∃ gl, gl = W.heap.size := ⟨_, rfl⟩
  have HGL := Lib.hid hgl
  rw [← hgl] at HGA ⊢
  clear hgl
  generalize W.alloc (.cells #[.slice A0 L c0, .int .i64 most, .bool loose] 24) = w1 at *
  have e0 := blk_cell HGA.out 0
  have e1 := blk_cell HGA.out 1
  have e2 := blk_cell HGA.out 2
  simp at e0 e1 e2
  cases hok : okL most L xs
  · have HOK := Lib.hid hok
    have HA := Lib.hid (pNew_bad w1 A0 L c0 xs (HXS.out.grow HG1.out) most loose hok (by have := HLB.out.1; omega))
    clear e0 e1 e2
    have e0 := blk_cell HGA.out 0
    have e1 := blk_cell HGA.out 1
    have e2 := blk_cell HGA.out 2
    simp at e0 e1 e2
    go_wp2_with fail
    refine HA.out.mono ?_
    rintro x w3 ⟨rfl, hg3⟩
    have HG3 : Hid (Grow W w3) := Grow.trans _ _ _ HG1.out hg3
    have f0 := ckp e0 hg3 (fun h => h)
    have f1 := ckp e1 hg3 (fun h => h)
    have f2 := ckp e2 hg3 (fun h => h)
    have HR := Lib.hid (refNew_is w3 A0 L c0 xs (HXS.out.grow HG3.out) most loose)
    clear hg3 HA e0 e1 e2
    go_wp2_with fail
    refine HR.out.mono ?_
    intro x w5 hpost
    have hpp : x = .returned (.tuple #[.slice none 0 0, .int .i64 2]) ∧ w3 = w5 := by
      rcases hpost with ⟨p1, p2, p3⟩ | ⟨p1, p2, p3, p4⟩ | ⟨p1, p2, p3⟩
      · exact ⟨p2, p3⟩
      · rw [HOK.out] at p1; cases p1
      · rw [HOK.out] at p1; cases p1
    obtain ⟨rfl, rfl⟩ := hpp
    clear hpost HR
    go_wp2_with fail
    go_ret
    exact ⟨rfl, HG3.out.below (fun _ _ h => h) (Nat.le_refl _)⟩
  cases hfu : fullK (toN xs) loose
  · have HOK := Lib.hid hok
    have HFU := Lib.hid hfu
    have HA := Lib.hid (pNew_code w1 A0 L c0 xs (HXS.out.grow HG1.out) most loose hok hfu)
    clear hok hfu
    go_wp2_with fail
    refine HA.out.mono ?_
    rintro x w3 ⟨rfl, hg3⟩
    have HG3 : Hid (Grow W w3) := Grow.trans _ _ _ HG1.out hg3
    have f0 := ckp e0 hg3 (fun h => h)
    have f1 := ckp e1 hg3 (fun h => h)
    have f2 := ckp e2 hg3 (fun h => h)
    have HR := Lib.hid (refNew_is w3 A0 L c0 xs (HXS.out.grow HG3.out) most loose)
    clear hg3 HA e0 e1 e2
    go_wp2_with fail
    refine HR.out.mono ?_
    intro x w5 hpost
    have hpp : x = .returned (.tuple #[.slice none 0 0, .int .i64 13]) ∧ w3 = w5 := by
      rcases hpost with ⟨p1, p2, p3⟩ | ⟨p1, p2, p3, p4⟩ | ⟨p1, p2, p3⟩
      · rw [HOK.out] at p1; cases p1
      · exact ⟨p3, p4⟩
      · rw [HFU.out] at p2; cases p2
    obtain ⟨rfl, rfl⟩ := hpp
    clear hpost HR
    go_wp2_with fail
    go_ret
    exact ⟨rfl, HG3.out.below (fun _ _ h => h) (Nat.le_refl _)⟩
  have HGD := Lib.hid (And.intro hok hfu)
  clear hok hfu
  obtain ⟨M, rfl, hM1, hM20, hL65, hA⟩ := newGood L xs most loose HGD.out.1 HGD.out.2 HXS.out.len
  have HA := Lib.hid (hA w1 A0 c0 (HXS.out.grow HG1.out))
  have HM1 := Lib.hid hM1
  have HL65 := Lib.hid hL65
  have hLi : (L : Int) ≤ 65536 := by omega
  clear hA hM1 hM20 hL65
  go_wp2_with fail
  refine HA.out.mono ?_
  rintro x w2 ⟨g, rfl, hcx, hg2⟩
  have HG2 : Hid (Grow W w2) := Grow.trans _ _ _ HG1.out hg2
  have HCX := Lib.hid hcx
  have f0 := ckp e0 hg2 (fun h => h)
  have f1 := ckp e1 hg2 (fun h => h)
  have f2 := ckp e2 hg2 (fun h => h)
  have HR := Lib.hid (refNew_is w2 A0 L c0 xs (HXS.out.grow HG2.out) (M : Nat) loose)
  clear hcx hg2 HA e0 e1 e2
  go_wp2_with fail
  refine HR.out.mono ?_
  intro x w3 hpost
  have hpp : ∃ gw, x = .returned (.tuple #[.slice (some ⟨gw, 0, none⟩) L L, .int .i64 0]) ∧ WordsAt w3 gw 43 (outK (toN xs) M).ws ∧ Grow w2 w3 := by
    rcases hpost with ⟨p1, p2, p3⟩ | ⟨p1, p2, p3, p4⟩ | ⟨p1, p2, gw, p3, p4, p5, p6⟩
    · rw [HGD.out.1] at p1; cases p1
    · rw [HGD.out.2] at p2; cases p2
    · exact ⟨gw, p3, by simpa using p5, p6⟩
  obtain ⟨gw, rfl, hwd, hg3⟩ := hpp
  obtain ⟨B, hB⟩ : ∃ B, B = w3.heap.size := ⟨_, rfl⟩
  have HB : Hid (gw < B ∧ W.heap.size ≤ B ∧ B ≤ w3.heap.size) := by
    have h1 := hwd.lt
    have h2 := (Grow.trans _ _ _ HG2.out hg3).size
    exact ⟨by omega, by omega, by omega⟩
  have HRW : Hid (RefW w3 gw L (outK (toN xs) M).ws) := ⟨hwd, by rw [(outK_facts (toN xs) M).1, HCX.out.len]⟩
  have HCX3 := Lib.hid ((HCX.out.grow hg3).up (B' := B) (by rw [hB]; exact hg3.size))
  have HG3 : Hid (Grow W w3) := Grow.trans _ _ _ HG2.out hg3
  clear hpost HR f0 f1 f2 hwd hg3 HCX HG2 hB
  obtain ⟨r2, hr2⟩ : ∃ r2, r2 = LB % 2 := ⟨_, rfl⟩
  have hrem : (LB : Int) % 2 = (r2 : Int) := by omega
  obtain ⟨hi, hhi⟩ : ∃ hi : Bool, hi = ((r2 : Int) == 0) := ⟨_, rfl⟩
  have heq := hhi.symm
  have HHI : Hid (((r2 : Int) == 0) = hi) := heq
  clear hr2 hhi
  have HNW := Lib.hid (new_any w3 hi)
  go_wp2_with fail
  refine HNW.out.mono ?_
  rintro x w4 ⟨rfl, hw4, hg4⟩
  obtain ⟨gb, hgb⟩ : ∃ gb, gb = w3.heap.size := ⟨_, rfl⟩
  rw [← hgb] at hw4 ⊢
  have HP4 : Hid (PB W w4 g L M B (toN xs) hi gb (.slice none 0 0) (.slice none 0 0) [] (toB (bitsL (toN xs) []))) :=
    ⟨HCX3.out.grow hg4, hw4, own_nil _ _ _, Grow.trans _ _ _ HG3.out hg4, HB.out.2.1, by rw [hgb]; exact HB.out.2.2, fun b h => by simp [Value.ownBlock] at h, Nat.le_trans HB.out.2.2 hg4.size⟩
  have HRW4 := Lib.hid (HRW.out.grow hg4)
  clear hw4 hg4 hgb HNW HCX3 HRW HG3 hrem heq
  go_wp2_with fail
  go_loopw [13, 14, 15] (fun vo vi _ wr => ∃ (i : Nat) (v : Value) (l : List Nat), i ≤ L2 ∧ vi = .int .i64 i ∧ Hid (PB W wr g L M B (toN xs) hi gb v vo l (toB (bitsL (toN xs) l))) ∧ Hid (l.length ≤ i ∧ l.length ≤ i) ∧ Hid (RefW wr gw L (outK (toN xs) M).ws)) (fun _ vi _ _ => L2 - (intOf vi).toNat)
  case atStart => exact ⟨0, _, [], by omega, rfl, HP4.out, ⟨by simp, by simp⟩, HRW4.out⟩
  case round =>
    clear HP4 HRW4
    obtain ⟨i, v, l, hi2, rfl, HP, HOS, HRW⟩ := hrel
    obtain ⟨Ao, co, rfl⟩ := rowf HP.out.row
    obtain ⟨LO, hLO⟩ : ∃ LO, LO = (toB (bitsL (toN xs) l)).length := ⟨_, rfl⟩
    have HLO := Lib.hid hLO
    rw [← hLO] at HP ⊢
    have hbl := bitsL_len (toN xs) (fun i => Nat.le_trans (HP.out.code.all i) HP.out.code.most) l
    have hbl2 : (bitsL (toN xs) l).length ≤ 1000000000000000 - 128 := by have := HOS.out.2; have := HLB.out.2.1; omega
    have hLOb : LO ≤ 20971520 := by
      have := HOS.out.2; have := HLB.out.2.1
      have h9 : (toB (bitsL (toN xs) l)).length = (bitsL (toN xs) l).length := by simp [toB]
      omega
    have hLOi : (LO : Int) ≤ 20971520 := by omega
    have HBL := Lib.hid hbl2
    have HLOB := Lib.hid hLOb
    clear hbl hbl2 hLO hLOb
    by_cases hin : i < L2
    · obtain ⟨bb, oo, rfl, hc⟩ := HYS.out.at_ (by omega)
      have HCC : Hid (∀ w', Grow W w' → w'.cell? ⟨bb, oo + i, none⟩ = some (.int .i64 (x1.getD i 0))) := fun w' h => ckp (hc i hin) h (fun h => h)
      have hcell := HCC.out wr HP.out.grow
      have hini : (i : Int) < (L2 : Int) := by omega
      obtain ⟨Y, hY⟩ : ∃ Y, Y = x1.getD i 0 := ⟨_, rfl⟩
      rw [← hY] at hcell HCC
      clear hc hY
      rcases put_cases (toN xs) L Y with hs | ⟨s, rfl, hsL, hs0⟩
      · have HNO := Lib.hid (hasB_no HP.out.code hs)
        have HPU := Lib.hid (cPut_no wr g L M B (toN xs) HP.out.code gb hi v _ HP.out.wr HBL.out Y hs HP.out.hgb HP.out.hv)
        clear hs
        go_wp2_with fail
        refine HPU.out.mono ?_
        rintro x w5 ⟨rfl, v5, hw5, hk5⟩
        have HRW5 := Lib.hid (rw_put HP.out HB.out.1 HRW.out hk5)
        have HP5 := Lib.hid (HP.out.put (l' := l) hk5 hw5)
        clear hw5 hk5 HPU HP HRW hcell
        have hcell := HCC.out w5 HP5.out.grow
        have hhs := has_is w5 gw L _ HRW5.out Y
        rw [HNO.out] at hhs
        have HHS := Lib.hid hhs
        clear hhs
        go_wp2_with fail
        refine HHS.out.mono ?_
        rintro x w6 ⟨rfl, rfl⟩
        go_wp2_with fail
        go_roundw
        case rel => exact ⟨i + 1, v5, l, by omega, by go_num, HP5.out, ⟨by have := HOS.out.2; omega, by have := HOS.out.2; omega⟩, HRW5.out⟩
        case measure => simp [intOf]; omega
      · have HYE := Lib.hid (hasB_yes HP.out.code hsL hs0)
        have HPU := Lib.hid (cPut_is wr g L M B (toN xs) HP.out.code gb hi v _ HP.out.wr HBL.out s hsL hs0 HP.out.hgb HP.out.hv)
        clear hsL hs0
        go_wp2_with fail
        refine HPU.out.mono ?_
        rintro x w5 ⟨rfl, v5, hw5, hk5⟩
        have HRW5 := Lib.hid (rw_put HP.out HB.out.1 HRW.out hk5)
        have hw5' : Wr w5 gb hi v5 (bitsL (toN xs) (l ++ [s])) := by rw [bitsL_snoc]; exact hw5
        have HP5 := Lib.hid (HP.out.put (l' := l ++ [s]) hk5 hw5')
        clear hw5 hw5' hk5 HPU HP HRW hcell
        have hcell := HCC.out w5 HP5.out.grow
        have hhs := has_is w5 gw L _ HRW5.out s
        rw [HYE.out.1] at hhs
        have HHS := Lib.hid hhs
        clear hhs
        go_wp2_with fail
        refine HHS.out.mono ?_
        rintro x w6 ⟨rfl, rfl⟩
        have HRP := Lib.hid (rPut_is w5 gw L _ HRW5.out HL65.out s _ _ HYE.out.2.1 HYE.out.2.2.1 HYE.out.2.2.2)
        go_wp2_with fail
        refine HRP.out.mono ?_
        rintro x w6 ⟨A6, c6, rfl, ho6, hg6⟩
        obtain ⟨n, hn⟩ : ∃ n, n = (toN xs).getD s 0 := ⟨_, rfl⟩
        have hbits : bitsOf true ((wordN (toN xs) s : Nat) : Int) ((toN xs).getD s 0) = symBits (toN xs) s := rfl
        rw [hbits] at ho6
        have HISB : Hid (IsBits (symBits (toN xs) s)) := by
          have h9 := bitsL_isBits (toN xs) [s]
          rw [show bitsL (toN xs) [s] = symBits (toN xs) s by simp [bitsL]] at h9
          exact h9
        rw [← hn] at ho6 ⊢
        have hn20 : n ≤ 20 := by rw [hn]; exact HYE.out.2.2.2
        have HN6 := Lib.hid (Nums.of_own ho6 (bits_in _ HISB.out))
        have HP6 := Lib.hid (HP5.out.grown hg6)
        have HRW6 := Lib.hid (HRW5.out.grow hg6)
        have hrow := HP6.out.row
        rw [← HLO.out] at hrow
        have HROW := Lib.hid hrow
        have HNN := Lib.hid hn
        clear hrow ho6 hg6 HP5 HRW5 HRP HHS hcell hn hbits
        go_wp2_with (at_builtin; refine wpList_appS rfl (.tmp 78) (.tmp 84) 22 3 rfl Try.underlying22 Try.infoI4 rfl (by decide) B _ LO _ rfl HROW.out HP6.out.hBw A6 n c6 _ rfl HN6.out.src (by have := HLOB.out; unfold maxLen; omega) (by have := HLOB.out; omega) ?_)
        intro Ai ci w7 ho7 hk7 _
        have hcc : toB (bitsL (toN xs) (l ++ [s])) = toB (bitsL (toN xs) l) ++ toB (symBits (toN xs) s) := by rw [bitsL_snoc]; simp [toB]
        have hll : (toB (bitsL (toN xs) (l ++ [s]))).length = LO + n := by
          rw [hcc, List.length_append, ← HLO.out]
          congr 1
          show (List.map _ _).length = n
          rw [List.length_map, symBits_len, ← HNN.out]
        have HP7 : Hid (PB W w7 g L M B (toN xs) hi gb v5 (.slice Ai (LO + n) ci) (l ++ [s]) (toB (bitsL (toN xs) (l ++ [s])))) := HP6.out.app (osy' := toB (bitsL (toN xs) (l ++ [s]))) hk7 (by
          rw [hll, hcc, List.map_append, toB_row (symBits (toN xs) s) HISB.out]
          exact ho7)
        have HRW7 : Hid (RefW w7 gw L (outK (toN xs) M).ws) := ⟨HRW6.out.1.keep hk7 (fun h9 => by have h1 := HB.out.1; have := own_ge HP6.out.row gw h9; omega), HRW6.out.2⟩
        clear ho7 hk7 HP6 HRW6 HROW HN6 hcc hll
        go_wp2_with fail
        go_roundw
        case rel => exact ⟨i + 1, v5, l ++ [s], by omega, by go_num, HP7.out, ⟨by have := HOS.out.2; simp; omega, by have := HOS.out.2; simp; omega⟩, HRW7.out⟩
        case measure => simp [intOf]; omega
    · obtain rfl : L2 = i := by omega
      have hISB := bitsL_isBits (toN xs) l
      have hrow := HP.out.row
      rw [← HLO.out, toB_row _ hISB] at hrow
      have hlen : (bitsL (toN xs) l).length = LO := by rw [HLO.out]; simp [toB]
      have HN := Lib.hid (Nums.of_own hrow (bits_in _ hISB))
      have hwr := HP.out.wr
      obtain ⟨bs, hbs⟩ : ∃ bs, bs = bitsL (toN xs) l := ⟨_, rfl⟩
      rw [← hbs] at hwr HN hlen hISB
      have HWR := Lib.hid hwr
      have HBI := Lib.hid (And.intro hlen hISB)
      have HLOB2 : Hid (LO ≤ 1000000000000000 ∧ LO ≤ 140737488355328) := ⟨by have := HLOB.out; omega, by have := HLOB.out; omega⟩
      clear hin hi2 hrow hlen hISB hwr
      go_wp2_with fail
      refine wp_region_hold Grow Grow.refl Grow.trans [2, 6] [(0, [0, 3, 4]), (2, [1]), (1, [2]), (2, [5]), (1, [6]), (0, [7])] [(0, [?o0, ?o3, ?o4]), (2, [?o1]), (1, [?o2]), (2, [?o5]), (1, [?o6]), (0, [?o7])] [?o0, ?o1, ?o2, ?o3, ?o4, ?o5, ?o6, ?o7] (by kernel_rfl) (by kernel_rfl) (by kernel_rfl) ?_
      refine seg_calm ?_
      go_wp2_with fail
      refine seg_call ?_
      go_wp2_with fail
      have HPd := Lib.hid (HP.out.grown ((Keeps.refl (fun _ => False) wr).drew))
      have HWd : Hid (Wr wr.drew gb hi v bs) := HWR.out
      have HNd := Lib.hid (HN.out.grow ((Keeps.refl (fun _ => False) wr).drew))
      have HRd := Lib.hid (HRW.out.grow ((Keeps.refl (fun _ => False) wr).drew))
      clear HP HWR HN HRW
      generalize wr.drew = wd at *
      have hby := bytes_any wd gb hi v bs HWd.out (by rw [HBI.out.1]; exact HLOB2.out.1)
      rw [HBI.out.1] at hby
      obtain ⟨mr, hmr⟩ : ∃ mr, mr = (LO + 7) / 8 := ⟨_, rfl⟩
      rw [← hmr] at hby
      have HMR := Lib.hid hmr
      clear hmr
      refine hby.mono ?_
      rintro x w5 ⟨A5, c5, rfl, ho5, hg5⟩
      have HO5 := Lib.hid ho5
      have HG5 : Hid (Grow wd w5) := hg5
      clear hby ho5 hg5
      go_wp2_with fail
      refine ⟨HG5.out, ?_⟩
      refine seg_held (by kernel_rfl) _ (fun w7 hk7 => held_convert rfl (run_str Try.underlying49 Try.underlying5 Try.underlying9 (owns_keep HO5.out hk7 (fun _ _ h => h)))) ?_
      refine seg_call ?_
      go_wp2_with fail
      have hrb := refBytes_is w5 Ao LO co bs hi (HNd.out.grow HG5.out) HBI.out.2 HLOB2.out.2
      rw [← HMR.out] at hrb
      refine hrb.mono ?_
      rintro x w6 ⟨g6, rfl, ho6, hg6⟩
      have HO6 := Lib.hid ho6
      have HG6 := Lib.hid hg6
      clear hrb ho6 hg6
      go_wp2_with fail
      refine ⟨HG6.out, ?_⟩
      refine seg_held (by kernel_rfl) _ (fun w7 hk7 => held_convert rfl (run_str Try.underlying49 Try.underlying5 Try.underlying9 (owns_keep HO6.out hk7 (fun _ _ h => h)))) ?_
      refine seg_calm ?_
      go_wp2_with fail
      refine seg_end ⟨by kernel_rfl, ?_⟩
      have HG56 : Hid (Grow wd w6) := Grow.trans _ _ _ HG5.out HG6.out
      have HP6 := Lib.hid (HPd.out.grown HG56.out)
      have HR6 := Lib.hid (HRd.out.grow HG56.out)
      have HNR := Lib.hid (newReader_any w6 hi a2 LB c2 x2 (HBS.out.grow HP6.out.grow).src (fun x hx => by have := inKind_u8 (HBS.out.rng x hx); omega) (by have := HLB.out.2.2; omega))
      clear HPd HWd HNd HRd HO5 HO6 HG5 HG6 HG56 HBI HLOB2 HMR
      go_wp2_with fail
      refine HNR.out.mono ?_
      rintro x w7 ⟨gr, Ar, cr, rfl, hgr, hrr, _, hg7⟩
      have HP7 := Lib.hid (HP6.out.grown hg7)
      have HR7 := Lib.hid (HR6.out.grow hg7)
      have HGR : Hid (B ≤ gr ∧ gr < w7.heap.size) := ⟨Nat.le_trans HP6.out.hBw hgr, blk_lt hrr.1⟩
      have HRR7 := Lib.hid hrr
      have HOF := Lib.hid (refOf_is w7 a2 LB c2 x2 hi (HBS.out.grow HP7.out.grow) (by have := HLB.out.2.2; omega))
      clear hgr hrr hg7 HNR HP6 HR6
      go_wp2_with fail
      refine HOF.out.mono ?_
      obtain ⟨N8, hN8⟩ : ∃ N8, N8 = 8 * LB := ⟨_, rfl⟩
      rw [← hN8]
      rintro x w8 ⟨AL, cL, rfl, ho8, hg8⟩
      have HP8 := Lib.hid (HP7.out.grown hg8)
      have HR8 := Lib.hid (HR7.out.grow hg8)
      have HRR8 := Lib.hid (HRR7.out.keep hg8 (fun h => h) (fun _ _ h => h))
      have HN8 := Lib.hid hN8
      have HLN : Hid (∀ w', Keeps (fun k => k = gr) w8 w' → Nums .i64 w' AL N8 cL (ofBytes hi x2)) := fun w' hk => (Nums.of_own ho8 (bits_in _ (isBits_ofBytes hi x2))).keep hk (fun b o hA h9 => by
        have h1 := own_ge ho8 b (by rw [hA]; rfl)
        have h2 := HGR.out.2
        have h9 : b = gr := h9
        omega)
      have hN8i : (N8 : Int) ≤ 8388608 := by omega
      clear ho8 hg8 hN8 HP7 HR7 HRR7 HOF
      go_wp2_with fail
      go_loopw [18, 19, 20, 21, 22, 23, 24] (fun va vi _ _ _ _ _ wr => ∃ (at' i : Nat), at' ≤ N8 ∧ i ≤ 40 ∧ va = .int .i64 at' ∧ vi = .int .i64 i ∧ Hid (Rr wr gr hi Ar LB cr x2 at') ∧ Hid (Keeps (fun k => k = gr) w8 wr)) (fun _ vi _ _ _ _ _ _ => 40 - (intOf vi).toNat)
      case atStart => exact ⟨0, 0, by omega, by omega, rfl, rfl, HRR8.out, Keeps.refl _ _⟩
      case round =>
        clear HRR8
        obtain ⟨at', i, hat, hi40, rfl, rfl, HRR, HK⟩ := hrel
        have HCX := Lib.hid (HP8.out.code.keep HK.out (fun b hb h9 => by have := HGR.out.1; omega))
        have hatN := HN8.out
        by_cases hin : i < 40
        · have hini : (i : Int) < 40 := by omega
          have HGT := Lib.hid ((cGet_is wr g L M B (toN xs) HCX.out HM1.out gr LB cr at' hi Ar x2 HRR.out (by have := HLB.out.2.2; omega) (by omega) HGR.out.1).mono (fun e w' h => h.road HCX.out (by omega)))
          have hatNi : (at' : Int) ≤ (N8 : Int) := by omega
          clear hatN
          go_wp2_with fail
          refine HGT.out.mono ?_
          rintro x w10 ⟨s, er, t, rfl, hroad, ht8, hrr, hk10⟩
          have HRD := Lib.hid hroad
          have HRR10 := Lib.hid hrr
          have HK10 : Hid (Keeps (fun k => k = gr) w8 w10) := Keeps.trans HK.out hk10 fun _ _ h => h
          have HT8 := Lib.hid ht8
          clear hroad hrr hk10 ht8 HGT HRR HK HCX
          have hsl : ∀ w : World, (Instr.slice 22 (.slice AL N8 cL) (some (.int .i64 (at' : Nat))) none none).run Try.prog w = .ok (.slice (Nums.off AL cL at') (N8 - at') (cL - at')) w := fun w => run_post (P := Try.prog) (t := 22) Try.underlying22 rfl rfl AL N8 cL at' hat w
          have HRG := Lib.hid (rGet_is w10 gw L _ ⟨HR8.out.1.keep HK10.out (fun h9 => by have := HGR.out.1; have := HB.out.1; have h9 : gw = gr := h9; omega), HR8.out.2⟩ HL65.out (Nums.off AL cL at') (N8 - at') (cL - at') _ ((HLN.out w10 HK10.out).drop at' hat) (by omega) (vN hi x2 at') s er t (by rw [HN8.out]; exact HRD.out) rfl (fun j hj => ⟨bt hi x2 (at' + j), bt_le hi x2 _, bits_drop hi x2 at' j, rfl⟩) (fun j hj => by
            have h1 := vN_lt hi x2 at' j
            have h2 : 2 ^ j ≤ 2 ^ 20 := Nat.pow_le_pow_right (by omega) hj
            omega))
          go_wp2_with fail
          refine HRG.out.mono ?_
          rintro x w11 ⟨rfl, hg11⟩
          have HRR11 := Lib.hid (HRR10.out.keep hg11 (fun h => h) (fun _ _ h => h))
          have HK11 : Hid (Keeps (fun k => k = gr) w8 w11) := Keeps.trans HK10.out (gk hg11) fun _ _ h => h
          have HAT := Lib.hid (at_any w11 gr LB cr (at' + t) hi Ar x2 HRR11.out)
          have htb : (t : Int) ≤ 20 := by have := HRD.out.t20; omega
          obtain ⟨at2, hat2⟩ : ∃ at2, at2 = at' + t := ⟨_, rfl⟩
          have hcast : (at' : Int) + (t : Int) = (at2 : Int) := by omega
          rw [← hat2] at HAT HRR11
          have HA2 : Hid (at2 ≤ N8 ∧ at2 ≤ N8) := ⟨by have := HT8.out; have := HN8.out; omega, by have := HT8.out; have := HN8.out; omega⟩
          have hat2i : (at2 : Int) ≤ (N8 : Int) := by have := HA2.out.1; omega
          clear hat2
          clear hg11 HRG HRR10 HK10 hsl
          go_wp2_with fail
          refine HAT.out.mono ?_
          rintro x w12 ⟨rfl, rfl⟩
          go_wp2_with fail
          go_roundw
          case rel => exact ⟨at2, i + 1, HA2.out.1, by omega, by go_num, by go_num, HRR11.out, HK11.out⟩
          case measure => simp [intOf]; omega
        · obtain rfl : i = 40 := by omega
          have HPN := Lib.hid (cPut_nil wr g L M B (toN xs) HCX.out)
          have HBE := Lib.hid ((Keeps.trans HP8.out.grow HK.out fun i hi h9 => by have := HGR.out.1; have := HB.out.2.1; have h9 : i = gr := h9; omega : Grow W wr).below (fun _ _ h => h) (Nat.le_refl _))
          clear hatN hin
          go_wp2_with fail
          refine HPN.out.mono ?_
          rintro x w12 ⟨rfl, rfl⟩
          go_wp2_with fail
          go_ret
          exact ⟨rfl, HBE.out⟩
end Go.Proofs.Ytofalbbbnhnadaa
