/- PrefixMakes: the law. -/
import Derived.Test.YtofalbbbnhnadaaPfQ
namespace Go.Proofs.Ytofalbbbnhnadaa
open Go.RowKit
set_option linter.unusedVariables false
set_option linter.unusedSimpArgs false

theorem Try.names04_fn (w : World) : Calls Try.prog 10 #[] w fun e w' => e = .returned (.bool true) ∧ w = w' := by
  go_enter Try.func10, Try.ntmps10
  go_wp2_with fail
  go_ret
  exact ⟨rfl, rfl⟩
theorem Made.codeW2 {w w' w2 : World} {m M g : Nat} {xs : List Int} {S : Nat → Prop} (h : Made w m M g xs w') (hl : xs.length = m) (k : Keeps S w' w2) (hS : ∀ b, w.heap.size ≤ b → ¬ S b) : CodeW w2 g m (outK (toN xs) M).ws ∧ w.heap.size ≤ g := by
  obtain ⟨gm, gw, B, srt, F, C, P, h1, h2⟩ := h
  have e1 := h1.hgm
  have e2 := h1.hmw
  have e3 := h1.hwg
  exact ⟨⟨gw, srt, F, C, P, M, h1.code.keep k (hS g (by omega)), h1.wds.keep k (hS gw (by omega)), by rw [(outK_facts (toN xs) M).1, toN_len, hl]⟩, by omega⟩
theorem len3 {W : World} {cs : List Value} {x : (List (Int)) × (Int) × (Bool) × Unit} (h : Sh.Rd W (.pair (.sl 8 (.int .i64)) (.pair (.int .i64) (.pair .bool .nil))) cs x) :
    ∃ A c, cs = [.slice A x.1.length c, .int .i64 x.2.1, .bool x.2.2.1] ∧ (Lit.int .i64 x.2.1).wf = true ∧ Sh.Rd W (.sl 8 (.int .i64)) [.slice A x.1.length c] x.1 := by
  obtain ⟨c1, c2, rfl, h1, c3, c4, rfl, ⟨rfl, h3⟩, c5, c6, rfl, h5, h6⟩ := h
  have h6 : c6 = [] := h6
  subst h6
  have h5 : c5 = [.bool x.2.2.1] := h5
  subst h5
  obtain ⟨a, cap, rfl, r⟩ := h1
  exact ⟨a, cap, rfl, h3, a, cap, rfl, r⟩
/-- A row is overwritten. -/
theorem ones_meas {n i : Nat} (h : i < n) : n - (intOf (.int .i64 ((i : Int) + 1))).toNat < n - (intOf (.int .i64 (i : Int))).toNat := by simp [intOf]; omega
set_option maxRecDepth 8000 in
set_option maxHeartbeats 8000000 in
theorem walkPrefixMakes (W : World) (cs0 : List Value) (x0 : (List (Int)) × (Int) × (Bool) × Unit) (_h0 : Sh.Rd W (.pair (.sl 8 (.int .i64)) (.pair (.int .i64) (.pair .bool .nil))) cs0 x0) (a1 : Option Addr) (c1 : Nat) (x1 : List (Int)) (_h1 : Sh.Rd W (.sl 8 (.int .i64)) [.slice a1 x1.length c1] x1) (x2 : Int) (_h2 : (Lit.int .i64 x2).wf = true) :
    Calls Try.prog 3 #[.agg cs0.toArray, .slice a1 x1.length c1, .int .i64 x2] W fun e w' => e = .returned (.bool true) ∧ Below W.heap.size W w' := by
  obtain ⟨A0, c0, rfl, hmw, hrd⟩ := len3 _h0
  obtain ⟨xs, most, loose, u⟩ := x0
  simp only at hmw hrd ⊢
  have HXS := Lib.hid (Nums.of_rd hrd).1
  have hcapb := (Nums.of_rd hrd).2
  have hcapn := (Nums.of_rd hrd).1.cap
  have HYS := Lib.hid (Nums.of_rd _h1).1
  have hlb : xs.length ≤ 17592186043904 := by omega
  have HMK := Lib.hid (inKind_wf hmw)
  obtain ⟨L, hL⟩ : ∃ L, L = xs.length := ⟨_, rfl⟩
  obtain ⟨L2, hL2⟩ : ∃ L2, L2 = x1.length := ⟨_, rfl⟩
  rw [← hL] at HXS hlb ⊢
  rw [← hL2] at HYS ⊢
  have HLX := Lib.hid hL
  have HLB := Lib.hid (And.intro hlb trivial)
  have hLi : (L : Int) ≤ 17592186043904 := by omega
  clear _h0 _h1 _h2 hmw hrd hcapb hcapn hL hL2 hlb
  have hga := heap_alloc_new W (.cells #[.slice A0 L c0, .int .i64 most, .bool loose] 24)
  have HGA := Lib.hid hga
  have HG1 : Hid (Grow W (W.alloc (.cells #[.slice A0 L c0, .int .i64 most, .bool loose] 24))) := (Keeps.refl _ W).alloc _
  clear hga
  go_enter Try.func3, Try.ntmps3
  go_upto_region 1 with fail
  obtain ⟨gl, hgl⟩ : ∃ gl, gl = W.heap.size := ⟨_, rfl⟩
  have HGL := Lib.hid hgl
  rw [← hgl] at HGA ⊢
  clear hgl
  generalize W.alloc (.cells #[.slice A0 L c0, .int .i64 most, .bool loose] 24) = w1 at *
  have e0 := blk_cell HGA.out 0
  have e1 := blk_cell HGA.out 1
  have e2 := blk_cell HGA.out 2
  simp at e0 e1 e2
  have ho0 := own_none w1 3
  have e0a := ckp e0 ((Keeps.refl (fun _ => False) w1).alloc (.cells #[] 3)) (fun h => h)
  have HS0 := Lib.hid ((HXS.out.grow (Grow.trans _ _ _ HG1.out ((Keeps.refl (fun _ => False) w1).alloc (.cells #[] 3)))).src)
  go_wp2_with (at_builtin; refine wpList_appS rfl (.tmp 22) (.tmp 24) 22 3 rfl Try.underlying22 Try.infoI4 rfl (by decide) w1.heap.size _ 0 _ rfl ho0 (by simp) A0 L c0 _ rfl HS0.out (by have h1 := HLB.out.1; unfold maxLen; omega) (by have h1 := HLB.out.1; omega) ?_)
  intro Ai ci w2 ho2 hk2 _
  (try simp only [Nat.zero_add, List.nil_append] at ho2)
  (try simp only [Nat.zero_add])
  have hg2 : Grow w1 w2 := Keeps.trans ((Keeps.refl (fun _ => False) w1).alloc (.cells #[] 3)) hk2 (fun i hi h => by
    have h8 : w1.heap.size = i := by simpa [Value.ownBlock] using h
    omega)
  have HG2 : Hid (Grow W w2) := Grow.trans _ _ _ HG1.out hg2
  have HO2 := Lib.hid ho2
  have HNI := Lib.hid (Nums.of_own ho2 HXS.out.rng)
  have HGA2 := Lib.hid (block_keep HGA.out hg2 fun h => h)
  have HZ := Lib.hid (show gl < w1.heap.size from blk_lt HGA.out)
  have HW1 := Lib.hid HG1.out.size
  clear ho2 hk2 hg2 HS0 ho0 e0 e1 e2 e0a HGA HG1
  have e0 := blk_cell HGA2.out 0
  have e1 := blk_cell HGA2.out 1
  have e2 := blk_cell HGA2.out 2
  simp at e0 e1 e2
  cases hok : okL most L xs
  · have HOK := Lib.hid hok
    have HA := Lib.hid (pNew_bad w2 Ai L ci xs HNI.out most loose hok (by have := HLB.out.1; omega))
    go_wp2_with fail
    refine HA.out.mono ?_
    rintro x w3 ⟨rfl, hg3⟩
    have HG23 := Lib.hid hg3
    have HG3 : Hid (Grow W w3) := Grow.trans _ _ _ HG2.out hg3
    have HO3 := Lib.hid (owns_keep HO2.out hg3 fun _ _ h => h)
    clear hg3 HA e0 e1 e2
    go_wp2_with fail
    go_loopw [10] (fun vi wr => ∃ (i : Nat) (zs : List Value), i ≤ L ∧ vi = .int .i64 i ∧ Hid (wr.ownsRow w1.heap.size 3 1 (.slice Ai L ci) L zs) ∧ Hid (Keeps (fun k => (Value.slice Ai L ci).ownBlock = some k) w3 wr)) (fun vi _ => L - (intOf vi).toNat)
    case atStart => exact ⟨0, _, by omega, rfl, HO3.out, Keeps.refl _ _⟩
    case round =>
      obtain ⟨i, zs, hi, rfl, HO, HK⟩ := hrel
      by_cases hin : i < L
      · obtain ⟨b, rfl⟩ : ∃ b, Ai = some ⟨b, 0, none⟩ := by
          rcases HO.out.2 with ⟨hv, h0⟩ | ⟨b, cap, cur, hv, _⟩
          · omega
          · injection hv with hv; exact ⟨b, hv⟩
        have hini : (i : Int) < (L : Int) := by omega
        have hcell := HO.out.cellAt i (by omega)
        have hfz := HO.out.frozenAt i
        obtain ⟨z, hz⟩ : ∃ z, zs[i]? = some z := ⟨zs[i]'(by have := HO.out.1; omega), List.getElem?_eq_getElem _⟩
        rw [hz] at hcell
        have HST := Lib.hid (HO.out.stored i (.int .i64 1)).1
        have HK2 : Hid (Keeps (fun k => (Value.slice (some ⟨b, 0, none⟩) L ci).ownBlock = some k) w3 (wr.setCell ⟨b, i, none⟩ (.int .i64 1))) := HK.out.setCell (p := ⟨b, i, none⟩) (fun _ => rfl) _
        clear hz
        go_wp2_with fail
        go_roundw
        case rel => exact ⟨i + 1, _, by omega, by go_num, HST.out, HK2.out⟩
        case measure => simp [intOf]; omega
      · obtain rfl : L = i := by omega
        clear hin hi
        have HKZ := Lib.hid HK.out
        have HGW : Hid (Grow W wr) := Keeps.trans HG3.out HK.out fun i hi h => by have h1 := own_ge HO3.out i h; have h2 := HW1.out; omega
        have HGA3 := Lib.hid (block_keep (block_keep HGA2.out HG23.out fun h => h) HK.out (fun h => by have h1 := own_ge HO3.out gl h; have h2 := HZ.out; omega))
        clear HO HK
        have e0 := blk_cell HGA3.out 0
        have e1 := blk_cell HGA3.out 1
        have e2 := blk_cell HGA3.out 2
        simp at e0 e1 e2
        have HR := Lib.hid (refNew_is wr A0 L c0 xs (HXS.out.grow HGW.out) most loose)
        go_wp2_with fail
        refine HR.out.mono ?_
        intro x w5 hpost
        have hpp : x = .returned (.tuple #[.slice none 0 0, .int .i64 2]) ∧ wr = w5 := by
          rcases hpost with ⟨p1, p2, p3⟩ | ⟨p1, p2, p3, p4⟩ | ⟨p1, p2, p3⟩
          · exact ⟨p2, p3⟩
          · rw [HOK.out] at p1; cases p1
          · rw [HOK.out] at p1; cases p1
        obtain ⟨rfl, rfl⟩ := hpp
        clear hpost HR
        go_wp2_with fail
        refine (Try.names04_fn _).mono ?_
        rintro e w6 ⟨rfl, rfl⟩
        have hBelow := Lib.hid (HGW.out.below (fun _ _ h => h) (Nat.le_refl _))
        go_wp2_with fail
        go_ret
        exact ⟨rfl, hBelow.out⟩
  cases hfu : fullK (toN xs) loose
  · have HOK := Lib.hid hok
    have HFU := Lib.hid hfu
    have HA := Lib.hid (pNew_code w2 Ai L ci xs HNI.out most loose hok hfu)
    go_wp2_with fail
    refine HA.out.mono ?_
    rintro x w3 ⟨rfl, hg3⟩
    have HG23 := Lib.hid hg3
    have HG3 : Hid (Grow W w3) := Grow.trans _ _ _ HG2.out hg3
    have HO3 := Lib.hid (owns_keep HO2.out hg3 fun _ _ h => h)
    clear hg3 HA e0 e1 e2
    go_wp2_with fail
    go_loopw [10] (fun vi wr => ∃ (i : Nat) (zs : List Value), i ≤ L ∧ vi = .int .i64 i ∧ Hid (wr.ownsRow w1.heap.size 3 1 (.slice Ai L ci) L zs) ∧ Hid (Keeps (fun k => (Value.slice Ai L ci).ownBlock = some k) w3 wr)) (fun vi _ => L - (intOf vi).toNat)
    case atStart => exact ⟨0, _, by omega, rfl, HO3.out, Keeps.refl _ _⟩
    case round =>
      obtain ⟨i, zs, hi, rfl, HO, HK⟩ := hrel
      by_cases hin : i < L
      · obtain ⟨b, rfl⟩ : ∃ b, Ai = some ⟨b, 0, none⟩ := by
          rcases HO.out.2 with ⟨hv, h0⟩ | ⟨b, cap, cur, hv, _⟩
          · omega
          · injection hv with hv; exact ⟨b, hv⟩
        have hini : (i : Int) < (L : Int) := by omega
        have hcell := HO.out.cellAt i (by omega)
        have hfz := HO.out.frozenAt i
        obtain ⟨z, hz⟩ : ∃ z, zs[i]? = some z := ⟨zs[i]'(by have := HO.out.1; omega), List.getElem?_eq_getElem _⟩
        rw [hz] at hcell
        have HST := Lib.hid (HO.out.stored i (.int .i64 1)).1
        have HK2 : Hid (Keeps (fun k => (Value.slice (some ⟨b, 0, none⟩) L ci).ownBlock = some k) w3 (wr.setCell ⟨b, i, none⟩ (.int .i64 1))) := HK.out.setCell (p := ⟨b, i, none⟩) (fun _ => rfl) _
        clear hz
        go_wp2_with fail
        go_roundw
        case rel => exact ⟨i + 1, _, by omega, by go_num, HST.out, HK2.out⟩
        case measure => simp [intOf]; omega
      · obtain rfl : L = i := by omega
        clear hin hi
        have HKZ := Lib.hid HK.out
        have HGW : Hid (Grow W wr) := Keeps.trans HG3.out HK.out fun i hi h => by have h1 := own_ge HO3.out i h; have h2 := HW1.out; omega
        have HGA3 := Lib.hid (block_keep (block_keep HGA2.out HG23.out fun h => h) HK.out (fun h => by have h1 := own_ge HO3.out gl h; have h2 := HZ.out; omega))
        clear HO HK
        have e0 := blk_cell HGA3.out 0
        have e1 := blk_cell HGA3.out 1
        have e2 := blk_cell HGA3.out 2
        simp at e0 e1 e2
        have HR := Lib.hid (refNew_is wr A0 L c0 xs (HXS.out.grow HGW.out) most loose)
        go_wp2_with fail
        refine HR.out.mono ?_
        intro x w5 hpost
        have hpp : x = .returned (.tuple #[.slice none 0 0, .int .i64 13]) ∧ wr = w5 := by
          rcases hpost with ⟨p1, p2, p3⟩ | ⟨p1, p2, p3, p4⟩ | ⟨p1, p2, p3⟩
          · rw [HOK.out] at p1; cases p1
          · exact ⟨p3, p4⟩
          · rw [HFU.out] at p2; cases p2
        obtain ⟨rfl, rfl⟩ := hpp
        clear hpost HR
        go_wp2_with fail
        refine (Try.names04_fn _).mono ?_
        rintro e w6 ⟨rfl, rfl⟩
        have hBelow := Lib.hid (HGW.out.below (fun _ _ h => h) (Nat.le_refl _))
        go_wp2_with fail
        go_ret
        exact ⟨rfl, hBelow.out⟩
  obtain ⟨M, rfl, hm1, hm20, hl1, hl65, _, _⟩ := okL_facts hok HXS.out.len
  have HOK := Lib.hid hok
  have HFU := Lib.hid hfu
  have HM20 := Lib.hid hm20
  have HL65 := Lib.hid hl65
  have HA := Lib.hid (pNew_is w2 Ai L ci xs HNI.out M loose hok hfu)
  clear hok hfu hm1 hm20 hl1 hl65
  go_wp2_with fail
  refine HA.out.mono ?_
  rintro x w3 ⟨g, rfl, hmd⟩
  have HMD := Lib.hid hmd
  have HG23 : Hid (Grow w2 w3) := by obtain ⟨gm, gw, B, srt, F, C, P, h1, h2⟩ := hmd; exact h1.grow
  have HG3 : Hid (Grow W w3) := Grow.trans _ _ _ HG2.out HG23.out
  have HO3 := Lib.hid (owns_keep HO2.out HG23.out fun _ _ h => h)
  clear hmd HA e0 e1 e2
  go_wp2_with fail
  go_loopw [10] (fun vi wr => ∃ (i : Nat) (zs : List Value), i ≤ L ∧ vi = .int .i64 i ∧ Hid (wr.ownsRow w1.heap.size 3 1 (.slice Ai L ci) L zs) ∧ Hid (Keeps (fun k => (Value.slice Ai L ci).ownBlock = some k) w3 wr)) (fun vi _ => L - (intOf vi).toNat)
  case atStart => exact ⟨0, _, by omega, rfl, HO3.out, Keeps.refl _ _⟩
  case round =>
    obtain ⟨i, zs, hi, rfl, HO, HK⟩ := hrel
    by_cases hin : i < L
    · obtain ⟨b, rfl⟩ : ∃ b, Ai = some ⟨b, 0, none⟩ := by
        rcases HO.out.2 with ⟨hv, h0⟩ | ⟨b, cap, cur, hv, _⟩
        · omega
        · injection hv with hv; exact ⟨b, hv⟩
      have hini : (i : Int) < (L : Int) := by omega
      have hcell := HO.out.cellAt i (by omega)
      have hfz := HO.out.frozenAt i
      obtain ⟨z, hz⟩ : ∃ z, zs[i]? = some z := ⟨zs[i]'(by have := HO.out.1; omega), List.getElem?_eq_getElem _⟩
      rw [hz] at hcell
      have HST := Lib.hid (HO.out.stored i (.int .i64 1)).1
      have HK2 : Hid (Keeps (fun k => (Value.slice (some ⟨b, 0, none⟩) L ci).ownBlock = some k) w3 (wr.setCell ⟨b, i, none⟩ (.int .i64 1))) := HK.out.setCell (p := ⟨b, i, none⟩) (fun _ => rfl) _
      clear hz
      go_wp2_with fail
      go_roundw
      case rel => exact ⟨i + 1, _, by omega, by go_num, HST.out, HK2.out⟩
      case measure => simp [intOf]; omega
    · obtain rfl : L = i := by omega
      clear hin hi
      have HKZ := Lib.hid HK.out
      have HGW : Hid (Grow W wr) := Keeps.trans HG3.out HK.out fun i hi h => by have h1 := own_ge HO3.out i h; have h2 := HW1.out; omega
      have HGA3 := Lib.hid (block_keep (block_keep HGA2.out HG23.out fun h => h) HK.out (fun h => by have h1 := own_ge HO3.out gl h; have h2 := HZ.out; omega))
      clear HO HK
      have e0 := blk_cell HGA3.out 0
      have e1 := blk_cell HGA3.out 1
      have e2 := blk_cell HGA3.out 2
      simp at e0 e1 e2
      have HR := Lib.hid (refNew_is wr A0 L c0 xs (HXS.out.grow HGW.out) (M : Int) loose)
      go_wp2_with fail
      refine HR.out.mono ?_
      intro x w5 hpost
      obtain ⟨gw, rfl, hgw, hww, hg5⟩ : ∃ gw, x = .returned (.tuple #[.slice (some ⟨gw, 0, none⟩) L L, .int .i64 0]) ∧ wr.heap.size ≤ gw ∧ WordsAt w5 gw 43 (outK (toN xs) M).ws ∧ Grow wr w5 := by
        rcases hpost with ⟨p1, p2, p3⟩ | ⟨p1, p2, p3, p4⟩ | ⟨p1, p2, p3⟩
        · rw [HOK.out] at p1; cases p1
        · rw [HFU.out] at p2; cases p2
        · rw [Int.toNat_natCast] at p3; exact p3
      have hcw := (HMD.out.codeW2 HXS.out.len HKZ.out (fun b hb h => by have h1 := (HO2.out.lt b h).2; omega)).1
      have HCW := Lib.hid (hcw.keep hg5)
      have HRW : Hid (RefW w5 gw L (outK (toN xs) M).ws) := ⟨hww, by rw [(outK_facts (toN xs) M).1, toN_len, HXS.out.len]⟩
      have HG5 : Hid (Grow W w5) := Grow.trans _ _ _ HGW.out hg5
      clear hpost HR hcw hww hg5 HKZ hgw e0 e1 e2
      go_wp2_with fail
      refine (Try.names04_fn _).mono ?_
      rintro e w6 ⟨rfl, rfl⟩
      have HC1 := Lib.hid (cCost_is w5 g L _ HCW.out a1 L2 c1 x1 (HYS.out.grow HG5.out) HL65.out)
      go_wp2_with fail
      refine HC1.out.mono ?_
      rintro x w6 hcost
      have HCO := Lib.hid hcost
      obtain ⟨cv, cer, rfl, hg6, hcc⟩ := hcost
      have HG6 : Hid (Grow w5 w6) := hg6
      have HC2 := Lib.hid (rCost_is w6 gw L _ ⟨HRW.out.1.keep hg6 (fun h => h), HRW.out.2⟩ a1 L2 c1 x1 (HYS.out.grow (Grow.trans _ _ _ HG5.out hg6)) HL65.out)
      clear hcc hg6 HC1
      go_wp2_with fail
      refine HC2.out.mono ?_
      rintro x w7 hcost
      obtain rfl := CostPost.uniq HCO.out hcost
      have HG7 : Hid (Grow w5 w7) := Grow.trans _ _ _ HG6.out (by obtain ⟨_, _, _, h, _⟩ := hcost; exact h)
      have HSY := Lib.hid (cSymbols_is w7 g L _ (HCW.out.keep HG7.out))
      clear hcost HC2 HCO HG6
      go_wp2_with fail
      refine HSY.out.mono ?_
      rintro x w8 ⟨rfl, rfl⟩
      clear HSY
      go_wp2_with fail
      go_loopw [17] (fun vi wr => ∃ (i : Nat), i ≤ L + 2 ∧ vi = .int .i64 ((i : Int) - 1) ∧ Hid (Grow w5 wr)) (fun vi _ => L + 2 - (intOf vi + 1).toNat)
      case atStart => exact ⟨0, by omega, rfl, HG7.out⟩
      case round =>
        clear HG7
        obtain ⟨i, hi, rfl, HG⟩ := hrel
        have hL65 : (L : Int) ≤ 65536 := by have := HL65.out; omega
        by_cases hin : i ≤ L + 1
        · by_cases hi0 : i = 0
          · subst hi0
            have hini : (((0 : Nat) : Int) - 1) ≤ (L : Int) := by omega
            by_cases hs : x2 < 0 ∨ (L : Int) ≤ x2
            · have HWD := Lib.hid (word_out wr g L _ (HCW.out.keep HG.out) (x2) hs)
              have HHS := Lib.hid (has_is wr gw L _ ⟨HRW.out.1.keep HG.out (fun h => h), HRW.out.2⟩ (x2))
              have hhb : hasB (outK (toN xs) M).ws (x2) = false := by
                unfold hasB
                rcases hs with hs | hs
                · rw [decide_eq_false (by omega)]; rfl
                · rw [decide_eq_false (p := (x2) < ((outK (toN xs) M).ws.length : Int)) (by rw [HRW.out.2]; omega)]; simp
              go_wp2_with fail
              refine HWD.out.mono ?_
              rintro x w6 ⟨rfl, hg6⟩
              have HG6 : Hid (Grow w5 w6) := Grow.trans _ _ _ HG.out hg6
              have HHS := Lib.hid (has_is w6 gw L _ ⟨HRW.out.1.keep HG6.out (fun h => h), HRW.out.2⟩ (x2))
              rw [hhb] at HHS
              clear hg6 HWD hhb hs
              go_wp2_with fail
              refine HHS.out.mono ?_
              rintro x w7 ⟨rfl, rfl⟩
              clear HHS
              go_wp2_with fail
              go_roundw
              case rel => exact ⟨0 + 1, by omega, by go_num, HG6.out⟩
              case measure => first | (simp [intOf]; omega) | simp [intOf]
            · obtain ⟨k, hk⟩ : ∃ k : Nat, x2 = (k : Int) := ⟨(x2).toNat, by omega⟩
              have hkl : k < L := by omega
              obtain ⟨p, hp⟩ : ∃ p, (outK (toN xs) M).ws[k]? = some p := ⟨(outK (toN xs) M).ws[k]'(by rw [HRW.out.2]; exact hkl), List.getElem?_eq_getElem _⟩
              have hpz : p.2 = 0 → p.1 = 0 := ((outK_ok (toN xs) M HM20.out).ws p (List.mem_of_getElem? hp)).2.2
              have HWD := Lib.hid (word_in wr g L _ (HCW.out.keep HG.out) k p hp hpz)
              have hhb : hasB (outK (toN xs) M).ws (k : Nat) = decide (0 < p.2) := by
                unfold hasB
                rw [decide_eq_true (by omega), decide_eq_true (by rw [HRW.out.2]; omega), Int.toNat_natCast, List.getD_eq_getElem?_getD, hp]
                rfl
              have HHB := Lib.hid hhb
              have HPP := Lib.hid hp
              have hki : (k : Int) < (L : Int) := by omega
              subst hk
              clear hs hkl hp hpz hhb
              go_wp2_with fail
              refine HWD.out.mono ?_
              rintro x w6 ⟨rfl, hg6⟩
              have HG6 : Hid (Grow w5 w6) := Grow.trans _ _ _ HG.out hg6
              have HHS := Lib.hid (has_is w6 gw L _ ⟨HRW.out.1.keep HG6.out (fun h => h), HRW.out.2⟩ (k : Nat))
              rw [HHB.out] at HHS
              obtain ⟨z0, z1⟩ := (HRW.out.1.keep HG6.out (fun h => h)).cell0 k p HPP.out
              obtain ⟨pa, pb⟩ := p
              simp only at z0 z1 HHS ⊢
              clear hg6 HWD
              by_cases hb : 0 < pb
              · rw [decide_eq_true hb] at HHS
                rw [if_pos hb]
                go_wp2_with fail
                refine HHS.out.mono ?_
                rintro x w7 ⟨rfl, rfl⟩
                clear HHS
                go_wp2_with fail
                go_roundw
                case rel => exact ⟨0 + 1, by omega, by go_num, HG6.out⟩
                case measure => first | (simp [intOf]; omega) | simp [intOf]
              · rw [decide_eq_false hb] at HHS
                rw [if_neg hb]
                obtain rfl : pb = 0 := by omega
                obtain rfl : pa = 0 := ((outK_ok (toN xs) M HM20.out).ws _ (List.mem_of_getElem? HPP.out)).2.2 rfl
                go_wp2_with fail
                refine HHS.out.mono ?_
                rintro x w7 ⟨rfl, rfl⟩
                clear HHS
                go_wp2_with fail
                go_roundw
                case rel => exact ⟨0 + 1, by omega, by go_num, HG6.out⟩
                case measure => first | (simp [intOf]; omega) | simp [intOf]
          · obtain ⟨j, rfl⟩ : ∃ j, i = j + 1 := ⟨i - 1, by omega⟩
            rw [show (((j + 1 : Nat) : Int) - 1) = (j : Int) by omega]
            have hini : (j : Int) ≤ (L : Int) := by omega
            have hjm : ((j : Int) == -1) = false := by rw [beq_eq_false_iff_ne]; omega
            have hjn : ¬ (j : Int) = -1 := by omega
            by_cases hs : (j : Int) < 0 ∨ (L : Int) ≤ (j : Int)
            · have HWD := Lib.hid (word_out wr g L _ (HCW.out.keep HG.out) ((j : Int)) hs)
              have HHS := Lib.hid (has_is wr gw L _ ⟨HRW.out.1.keep HG.out (fun h => h), HRW.out.2⟩ ((j : Int)))
              have hhb : hasB (outK (toN xs) M).ws ((j : Int)) = false := by
                unfold hasB
                rcases hs with hs | hs
                · rw [decide_eq_false (by omega)]; rfl
                · rw [decide_eq_false (p := ((j : Int)) < ((outK (toN xs) M).ws.length : Int)) (by rw [HRW.out.2]; omega)]; simp
              go_wp2_with fail
              refine HWD.out.mono ?_
              rintro x w6 ⟨rfl, hg6⟩
              have HG6 : Hid (Grow w5 w6) := Grow.trans _ _ _ HG.out hg6
              have HHS := Lib.hid (has_is w6 gw L _ ⟨HRW.out.1.keep HG6.out (fun h => h), HRW.out.2⟩ ((j : Int)))
              rw [hhb] at HHS
              clear hg6 HWD hhb hs
              go_wp2_with fail
              refine HHS.out.mono ?_
              rintro x w7 ⟨rfl, rfl⟩
              clear HHS
              go_wp2_with fail
              go_roundw
              case rel => exact ⟨j + 1 + 1, by omega, by go_num, HG6.out⟩
              case measure => first | (simp [intOf]; omega) | simp [intOf]
            · have hkl : j < L := by omega
              obtain ⟨p, hp⟩ : ∃ p, (outK (toN xs) M).ws[j]? = some p := ⟨(outK (toN xs) M).ws[j]'(by rw [HRW.out.2]; exact hkl), List.getElem?_eq_getElem _⟩
              have hpz : p.2 = 0 → p.1 = 0 := ((outK_ok (toN xs) M HM20.out).ws p (List.mem_of_getElem? hp)).2.2
              have HWD := Lib.hid (word_in wr g L _ (HCW.out.keep HG.out) j p hp hpz)
              have hhb : hasB (outK (toN xs) M).ws (j : Nat) = decide (0 < p.2) := by
                unfold hasB
                rw [decide_eq_true (by omega), decide_eq_true (by rw [HRW.out.2]; omega), Int.toNat_natCast, List.getD_eq_getElem?_getD, hp]
                rfl
              have HHB := Lib.hid hhb
              have HPP := Lib.hid hp
              have hki : (j : Int) < (L : Int) := by omega
              clear hs hkl hp hpz hhb
              go_wp2_with fail
              refine HWD.out.mono ?_
              rintro x w6 ⟨rfl, hg6⟩
              have HG6 : Hid (Grow w5 w6) := Grow.trans _ _ _ HG.out hg6
              have HHS := Lib.hid (has_is w6 gw L _ ⟨HRW.out.1.keep HG6.out (fun h => h), HRW.out.2⟩ (j : Nat))
              rw [HHB.out] at HHS
              obtain ⟨z0, z1⟩ := (HRW.out.1.keep HG6.out (fun h => h)).cell0 j p HPP.out
              obtain ⟨pa, pb⟩ := p
              simp only at z0 z1 HHS ⊢
              clear hg6 HWD
              by_cases hb : 0 < pb
              · rw [decide_eq_true hb] at HHS
                rw [if_pos hb]
                go_wp2_with fail
                refine HHS.out.mono ?_
                rintro x w7 ⟨rfl, rfl⟩
                clear HHS
                go_wp2_with fail
                go_roundw
                case rel => exact ⟨j + 1 + 1, by omega, by go_num, HG6.out⟩
                case measure => first | (simp [intOf]; omega) | simp [intOf]
              · rw [decide_eq_false hb] at HHS
                rw [if_neg hb]
                obtain rfl : pb = 0 := by omega
                obtain rfl : pa = 0 := ((outK_ok (toN xs) M HM20.out).ws _ (List.mem_of_getElem? HPP.out)).2.2 rfl
                go_wp2_with fail
                refine HHS.out.mono ?_
                rintro x w7 ⟨rfl, rfl⟩
                clear HHS
                go_wp2_with fail
                go_roundw
                case rel => exact ⟨j + 1 + 1, by omega, by go_num, HG6.out⟩
                case measure => first | (simp [intOf]; omega) | simp [intOf]
        · obtain rfl : i = L + 2 := by omega
          have hBelow := Lib.hid ((Grow.trans _ _ _ HG5.out HG.out).below (fun _ _ h => h) (Nat.le_refl _))
          have hini : ¬ ((((L + 2 : Nat) : Int)) - 1 ≤ (L : Int)) := by omega
          go_wp2_with fail
          go_ret
          exact ⟨rfl, hBelow.out⟩
end Go.Proofs.Ytofalbbbnhnadaa
