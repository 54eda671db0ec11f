/- PrefixBack: the law. -/
import Derived.Test.YtofalbbbnhnadaaPcI
namespace Go.Proofs.Ytofalbbbnhnadaa
open Go.RowKit
set_option linter.unusedVariables false
set_option linter.unusedSimpArgs false

theorem newTwo (w : World) : Calls Try.prog 8 #[.slice (some ⟨w.heap.size, 0, none⟩) 2 2, .int .i64 1, .bool false] (w.alloc (.cells #[.int .i64 1, .int .i64 1] 3)) fun e w' => ∃ g, e = .returned (.tuple #[.pointer (some ⟨g, 0, none⟩), .int .i64 0]) ∧ CodeW w' g 2 (outK (toN [1, 1]) 1).ws ∧ Grow w w' := by
  obtain ⟨M, hM, _, _, _, h⟩ := newGood 2 [1, 1] 1 false two_ok.1 two_ok.2 rfl
  obtain rfl : M = 1 := by omega
  refine (h _ _ _ (two_nums w)).mono ?_
  rintro x w' ⟨g, rfl, hc, hg⟩
  exact ⟨g, rfl, hc.codeW, Grow.trans _ _ _ ((Keeps.refl _ w).alloc _) hg⟩
/-- A word, and whether it is one. -/
def wordP (ls : List Nat) (s : Nat) : Nat × Nat := if 0 < ls.getD s 0 then (wordN ls s, ls.getD s 0) else (0, 0)
theorem cWord_is (w : World) (g m M B : Nat) (ls : List Nat) (h : CodeX w g m M B ls) (s : Nat) (hs : s < m) : Calls Try.prog 14 #[.pointer (some ⟨g, 0, none⟩), .int .i64 s] w fun e w' => e = .returned (.tuple #[.int .u32 ((wordP ls s).1 : Nat), .int .i64 ((wordP ls s).2 : Nat), .int .i64 (if 0 < (wordP ls s).2 then 0 else 2 : Nat)]) ∧ Grow w w' := by
  have hw := h.word s hs
  exact word_in w g m _ h.codeW s (wordP ls s) hw (fun h9 => by
    unfold wordP at h9 ⊢
    by_cases h0 : 0 < ls.getD s 0
    · rw [if_pos h0] at h9; simp only at h9; omega
    · rw [if_neg h0])
theorem wordP_le {w : World} {g m M B : Nat} {ls : List Nat} (h : CodeX w g m M B ls) (s : Nat) (hs : s < m) (x n : Nat) (hp : (x, n) = wordP ls s) : x < 1048576 ∧ n ≤ 20 := by
  unfold wordP at hp
  by_cases h0 : 0 < ls.getD s 0
  · rw [if_pos h0] at hp
    injection hp with h1 h2
    have h3 := (wordN_lt h.kraft (by rw [h.len]; exact hs) h0 (Nat.le_trans (h.all s) h.most)).2.1
    have h4 := Nat.le_trans (h.all s) h.most
    have h5 : 2 ^ ls.getD s 0 ≤ 2 ^ 20 := Nat.pow_le_pow_right (by omega) h4
    omega
  · rw [if_neg h0] at hp
    injection hp with h1 h2
    omega
theorem free_pair {w : World} {g m M B : Nat} {ls : List Nat} (h : CodeX w g m M B ls) (i k : Nat) (hi : i < m) (hk : k < m) (x n y mk : Nat) (hp : (x, n) = wordP ls i) (hp2 : (y, mk) = wordP ls k) : ¬ i = k → 0 < n → 0 < mk → n ≤ mk → ¬ y / 2 ^ (mk - n) = x := by
  intro hik hn hm hnm heq
  unfold wordP at hp hp2
  by_cases h0 : 0 < ls.getD i 0
  · rw [if_pos h0] at hp
    injection hp with e1 e2
    by_cases h1 : 0 < ls.getD k 0
    · rw [if_pos h1] at hp2
      injection hp2 with e3 e4
      subst e1 e2 e3 e4
      exact hik (prefix_free h.kraft (by rw [h.len]; exact hi) (by rw [h.len]; exact hk) h0 h1 (Nat.le_trans (h.all i) h.most) (Nat.le_trans (h.all k) h.most) hnm heq)
    · rw [if_neg h1] at hp2
      injection hp2 with e3 e4
      omega
  · rw [if_neg h0] at hp
    injection hp with e1 e2
    omega
set_option maxRecDepth 8000 in
set_option maxHeartbeats 8000000 in
theorem walkPrefixBack (W : World) (cs0 : List Value) (x0 : (List (Int)) × (Int) × (Bool) × Unit) (_h0 : Sh.Rd W (.pair (.sl 8 (.int .i64)) (.pair (.int .i64) (.pair .bool .nil))) cs0 x0) (a1 : Option Addr) (c1 : Nat) (x1 : List (Int)) (_h1 : Sh.Rd W (.sl 8 (.int .i64)) [.slice a1 x1.length c1] x1) :
    Calls Try.prog 6 #[.agg cs0.toArray, .slice a1 x1.length c1] W fun e w' => e = .returned (.bool true) ∧ Below W.heap.size W w' := by
  obtain ⟨A0, c0, rfl, hmw, hrd⟩ := len3 _h0
  obtain ⟨xs, most, loose, u⟩ := x0
  simp only at hmw hrd ⊢
  have HXS := Lib.hid (Nums.of_rd hrd).1
  have hcapb := (Nums.of_rd hrd).2
  have hcapn := (Nums.of_rd hrd).1.cap
  have HYS := Lib.hid (Nums.of_rd _h1).1
  have hcapb2 := (Nums.of_rd _h1).2
  have hcapn2 := (Nums.of_rd _h1).1.cap
  have hlb : xs.length ≤ 17592186043904 := by omega
  have hlb2 : x1.length ≤ 17592186043904 := by omega
  obtain ⟨L, hL⟩ : ∃ L, L = xs.length := ⟨_, rfl⟩
  obtain ⟨L2, hL2⟩ : ∃ L2, L2 = x1.length := ⟨_, rfl⟩
  rw [← hL] at HXS hlb ⊢
  rw [← hL2] at HYS hlb2 ⊢
  have HLB := Lib.hid (And.intro hlb (And.intro hlb2 trivial))
  have hLi2 : (L2 : Int) ≤ 17592186043904 := by omega
  clear _h0 _h1 hmw hrd hcapb hcapn hL hL2 hlb hlb2 hcapb2 hcapn2
  have hga := heap_alloc_new W (.cells #[.slice A0 L c0, .int .i64 most, .bool loose] 24)
  have HGA := Lib.hid hga
  have HG1 : Hid (Grow W (W.alloc (.cells #[.slice A0 L c0, .int .i64 most, .bool loose] 24))) := (Keeps.refl _ W).alloc _
  clear hga
  go_enter Try.func6, Try.ntmps6
  go_upto_region 1 with fail
  obtain ⟨gl, hgl⟩ : ∃ gl, gl = W.heap.size := ⟨_, rfl⟩
  have HGL := Lib.hid hgl
  rw [← hgl] at HGA ⊢
  clear hgl
  generalize W.alloc (.cells #[.slice A0 L c0, .int .i64 most, .bool loose] 24) = w1 at *
  have e0 := blk_cell HGA.out 0
  have e1 := blk_cell HGA.out 1
  have e2 := blk_cell HGA.out 2
  simp at e0 e1 e2
  by_cases hgood : okL most L xs = true ∧ fullK (toN xs) loose = true
  · have HGD := Lib.hid hgood
    clear hgood
    obtain ⟨M, rfl, hM1, hM20, hL65, hA⟩ := newGood L xs most loose HGD.out.1 HGD.out.2 HXS.out.len
    have HA := Lib.hid (hA w1 A0 c0 (HXS.out.grow HG1.out))
    have HM1 := Lib.hid hM1
    clear hA hM1 hM20 hL65
    go_wp2_with fail
    refine HA.out.mono ?_
    rintro x w2 ⟨g, rfl, hcx, hg2⟩
    have HG2 : Hid (Grow W w2) := Grow.trans _ _ _ HG1.out hg2
    have HCX := Lib.hid hcx
    have HT := Lib.hid (newTwo w2)
    obtain ⟨B, hB⟩ : ∃ B, B = w2.heap.size := ⟨_, rfl⟩
    have HBB := Lib.hid hB
    rw [← hB] at HCX
    have HGLB : Hid (gl < B) := by have h1 := blk_lt HGA.out; have h2 := hg2.size; show _ < _; omega
    have HE2 := Lib.hid (ckp e0 hg2 (fun h => h))
    clear hcx hg2 HA hB e0 e1 e2
    go_wp2_with fail
    refine HT.out.mono ?_
    rintro x w3 ⟨g1, rfl, hcw, hg3⟩
    have HS := Lib.hid (cSymbols_is w3 g1 2 _ hcw)
    have HCX3 := Lib.hid (HCX.out.grow hg3)
    have HG3 : Hid (Grow W w3) := Grow.trans _ _ _ HG2.out hg3
    have HE3 := Lib.hid (ckp HE2.out hg3 (fun h => h))
    have HB3 : Hid (B ≤ w3.heap.size ∧ W.heap.size ≤ B) := by rw [HBB.out]; exact ⟨hg3.size, HG2.out.size⟩
    clear hcw hg3 HT HCX HE2
    go_wp2_with fail
    refine HS.out.mono ?_
    rintro x w4 ⟨rfl, rfl⟩
    have HNW := Lib.hid (new_any w3 false)
    clear HS
    go_wp2_with fail
    refine HNW.out.mono ?_
    rintro x w4 ⟨rfl, hw4, hg4⟩
    obtain ⟨gb, hgb⟩ : ∃ gb, gb = w3.heap.size := ⟨_, rfl⟩
    rw [← hgb] at hw4 ⊢
    have HP4 : Hid (PB W w4 g L M B (toN xs) false gb (.slice none 0 0) (.slice none 0 0) [] []) :=
      ⟨HCX3.out.grow hg4, hw4, own_nil _ _ _, Grow.trans _ _ _ HG3.out hg4, HB3.out.2, by rw [hgb]; exact HB3.out.1, fun b h => by simp [Value.ownBlock] at h, Nat.le_trans HB3.out.1 hg4.size⟩
    have HE4 := Lib.hid (ckp HE3.out hg4 (fun h => h))
    clear hw4 hg4 hgb HNW HCX3 HE3 HG3
    go_wp2_with fail
    go_loopw [10, 11] (fun vo vi wr => ∃ (i : Nat) (v : Value) (osy : List Nat), i ≤ L2 ∧ vi = .int .i64 i ∧ Hid (PB W wr g L M B (toN xs) false gb v vo osy osy) ∧ Hid ((∀ s ∈ osy, s < L ∧ 0 < (toN xs).getD s 0) ∧ osy.length ≤ i) ∧ Hid (wr.cell? ⟨gl, 0, none⟩ = some (.slice A0 L c0))) (fun _ vi _ => L2 - (intOf vi).toNat)
    case atStart => exact ⟨0, _, [], by omega, rfl, HP4.out, ⟨by simp, by simp⟩, HE4.out⟩
    case round =>
      clear HP4 HE4
      obtain ⟨i, v, osy, hi, rfl, HP, HOS, HE⟩ := hrel
      obtain ⟨Ao, co, rfl⟩ := rowf HP.out.row
      obtain ⟨LO, hLO⟩ : ∃ LO, LO = osy.length := ⟨_, rfl⟩
      have HLO := Lib.hid hLO
      rw [← hLO] at HP ⊢
      have hbl := bitsL_len (toN xs) (fun i => Nat.le_trans (HP.out.code.all i) HP.out.code.most) osy
      have hbl2 : (bitsL (toN xs) osy).length ≤ 1000000000000000 - 128 := by have := HOS.out.2; have := HLB.out.2.1; omega
      have HBL := Lib.hid hbl2
      clear hbl hbl2 hLO
      by_cases hin : i < L2
      · obtain ⟨bb, oo, rfl, hc⟩ := HYS.out.at_ (by omega)
        have HCC : Hid (∀ w', Grow W w' → w'.cell? ⟨bb, oo + i, none⟩ = some (.int .i64 (x1.getD i 0))) := fun w' h => ckp (hc i hin) h (fun h => h)
        have hcell := HCC.out wr HP.out.grow
        have hini : (i : Int) < (L2 : Int) := by omega
        obtain ⟨Y, hY⟩ : ∃ Y, Y = x1.getD i 0 := ⟨_, rfl⟩
        rw [← hY] at hcell HCC
        clear hc hY
        rcases put_cases (toN xs) L Y with hs | ⟨s, rfl, hsL, hs0⟩
        · have HPU := Lib.hid (cPut_no wr g L M B (toN xs) HP.out.code gb false v _ HP.out.wr HBL.out Y hs HP.out.hgb HP.out.hv)
          clear hs
          go_wp2_with fail
          refine HPU.out.mono ?_
          rintro x w5 ⟨rfl, v5, hw5, hk5⟩
          have HP5 := Lib.hid (HP.out.put hk5 hw5)
          have HE5 : Hid (w5.cell? ⟨gl, 0, none⟩ = some (.slice A0 L c0)) := ckp HE.out hk5.1 (fun h9 => by
            have h1 := HGLB.out
            rcases h9 with h9 | h9
            · have := HP.out.hgb; simp only at h9; omega
            · have := HP.out.hv _ h9; simp only at this; omega)
          clear hw5 hk5 HPU HP HE hcell
          go_wp2_with fail
          go_roundw
          case rel => exact ⟨i + 1, v5, osy, by omega, by go_num, HP5.out, ⟨HOS.out.1, by have := HOS.out.2; omega⟩, HE5.out⟩
          case measure => simp [intOf]; omega
        · have HPU := Lib.hid (cPut_is wr g L M B (toN xs) HP.out.code gb false v _ HP.out.wr HBL.out s hsL hs0 HP.out.hgb HP.out.hv)
          have HSL := Lib.hid (And.intro hsL hs0)
          clear hsL hs0
          go_wp2_with fail
          refine HPU.out.mono ?_
          rintro x w5 ⟨rfl, v5, hw5, hk5⟩
          rw [← bitsL_snoc] at hw5
          have HP5 := Lib.hid (HP.out.put (l' := osy ++ [s]) hk5 hw5)
          have HE5 : Hid (w5.cell? ⟨gl, 0, none⟩ = some (.slice A0 L c0)) := ckp HE.out hk5.1 (fun h9 => by
            have h1 := HGLB.out
            rcases h9 with h9 | h9
            · have := HP.out.hgb; simp only at h9; omega
            · have := HP.out.hv _ h9; simp only at this; omega)
          clear hw5 hk5 HPU HP HE hcell
          have hcell := HCC.out w5 HP5.out.grow
          have hrow := HP5.out.row
          rw [← HLO.out] at hrow
          have HROW := Lib.hid hrow
          have hLOb : LO ≤ 17592186043904 := by have := HOS.out.2; have := HLO.out; have := HLB.out.2.1; omega
          clear hrow
          go_wp2_with (at_builtin; refine wpList_app1 rfl (.tmp 65) (.tmp 70) 22 3 rfl Try.underlying22 Try.infoI4 rfl B _ LO _ rfl HROW.out HP5.out.hBw rfl rfl (by unfold maxLen; omega) (by omega) ?_)
          intro gl9 cap9 w6 ho6 hk6 _
          have HP6 : Hid (PB W w6 g L M B (toN xs) false gb v5 (.slice (some ⟨gl9, 0, none⟩) (LO + 1) cap9) (osy ++ [s]) (osy ++ [s])) := HP5.out.app (osy' := osy ++ [s]) hk6 (by rw [List.length_append, ← HLO.out, List.map_append]; exact ho6)
          have HE6 : Hid (w6.cell? ⟨gl, 0, none⟩ = some (.slice A0 L c0)) := ckp HE5.out hk6 (fun h9 => by have h1 := HGLB.out; have := own_ge HP5.out.row _ h9; simp only at this; omega)
          clear ho6 hk6 HP5 HE5 HROW hcell hLOb
          go_wp2_with fail
          go_roundw
          case rel => exact ⟨i + 1, v5, osy ++ [s], by omega, by go_num, HP6.out, ⟨fun t ht => by rcases List.mem_append.1 ht with h | h; exact HOS.out.1 t h; rw [List.mem_singleton.1 h]; exact HSL.out, by have := HOS.out.2; simp; omega⟩, HE6.out⟩
          case measure => simp [intOf]; omega
      · obtain rfl : L2 = i := by omega
        have HBY := Lib.hid (bytes_any wr gb false v _ HP.out.wr (by have := HBL.out; omega))
        obtain ⟨mr, hmr⟩ : ∃ mr, mr = ((bitsL (toN xs) osy).length + 7) / 8 := ⟨_, rfl⟩
        have HMR0 := Lib.hid hmr
        rw [← hmr] at HBY
        clear hmr hin hi
        go_wp2_with fail
        refine HBY.out.mono ?_
        rintro x w5 ⟨A5, c5, rfl, ho5, hg5⟩
        have HP5 := Lib.hid (HP.out.grown hg5)
        have HE5 := Lib.hid (ckp HE.out hg5 (fun h => h))
        have hmrb : mr ≤ 140737488355328 := by have := HMR0.out; have := HBL.out; omega
        have HNR := Lib.hid (newReader_any w5 false A5 mr c5 (pk false (bitsL (toN xs) osy)) (src_u8 ho5) (fun x hx => by have := pk_isByte false _ (bitsL_isBits _ _) x hx; omega) hmrb)
        have HMB := Lib.hid hmrb
        clear ho5 hg5 HBY HP HE hmrb
        go_wp2_with fail
        refine HNR.out.mono ?_
        rintro x w6 ⟨gr, A2, c2, rfl, hgr, hrr, _, hg6⟩
        have HGR : Hid (w5.heap.size ≤ gr ∧ B ≤ gr) := ⟨hgr, Nat.le_trans HP5.out.hBw hgr⟩
        have HOB : Hid (∀ b, (Value.slice Ao LO co).ownBlock = some b → b ≠ gr) := fun b hb h9 => by have h1 := (HP5.out.row.lt b hb).2; omega
        have HP6 := Lib.hid (HP5.out.grown hg6)
        have HE6 := Lib.hid (ckp HE5.out hg6 (fun h => h))
        have HRR : Hid (Rr w6 gr false A2 mr c2 (pk false (bitsL (toN xs) osy)) (bitsL (toN xs) (osy.take 0)).length) := hrr
        have HMR : Hid (8 * mr = 8 * (((bitsL (toN xs) osy).length + 7) / 8)) := by show _ = _; rw [HMR0.out]
        have hLOi : (LO : Int) ≤ 17592186043904 := by have := HOS.out.2; have := HLO.out; omega
        have HOS := Lib.hid HOS.out.1
        clear hgr hrr hg6 HNR HP5 HE5
        go_wp2_with fail
        go_loopw [13] (fun vi wr => ∃ (i : Nat), i ≤ LO ∧ vi = .int .i64 i ∧ Hid (Rr wr gr false A2 mr c2 (pk false (bitsL (toN xs) osy)) (bitsL (toN xs) (osy.take i)).length) ∧ Hid (Keeps (fun k => k = gr) w6 wr)) (fun vi _ => LO - (intOf vi).toNat)
        case atStart => exact ⟨0, by omega, rfl, HRR.out, Keeps.refl _ _⟩
        case round =>
          clear HRR
          obtain ⟨i, hi, rfl, HRR, HK⟩ := hrel
          have hcx := HP6.out.code.keep HK.out (fun b hb h9 => by have := HGR.out.2; omega)
          by_cases hin : i < LO
          · obtain ⟨s, hs⟩ : ∃ s, osy[i]? = some s := ⟨osy[i]'(by rw [← HLO.out]; exact hin), List.getElem?_eq_getElem _⟩
            obtain ⟨hsL, hs0⟩ := HOS.out s (List.mem_of_getElem? hs)
            have HSS := Lib.hid (And.intro hs (And.intro hsL hs0))
            have hlen := (pk_length false (bitsL (toN xs) osy))
            have hroom : ∀ j, j < (toN xs).getD s 0 → bt false (pk false (bitsL (toN xs) osy)) ((bitsL (toN xs) (osy.take i)).length + j) = wordN (toN xs) s / 2 ^ ((toN xs).getD s 0 - 1 - j) % 2 := fun j hj => by
              obtain ⟨b1, b2, b3⟩ := bitsL_get (toN xs) osy i s hs j hj
              rw [bt_pk false _ (bitsL_isBits _ _) _ (by omega), b1]
              rw [powI4, ← Int.natCast_ediv]
              omega
            obtain ⟨b1, b2, b3⟩ := bitsL_get (toN xs) osy i s hs 0 hs0
            have HST := Lib.hid b3
            have hr2 : (bitsL (toN xs) (osy.take i)).length + (toN xs).getD s 0 ≤ 8 * mr := by rw [HMR.out]; omega
            have hat : (bitsL (toN xs) (osy.take i)).length ≤ 8 * mr := by omega
            have HGT := Lib.hid ((cGet_is wr g L M B (toN xs) hcx HM1.out gr mr c2 _ false A2 _ HRR.out HMB.out hat HGR.out.2).mono (fun e w' h => get_sym hcx.kraft hcx.most (by rw [hcx.len]; exact hsL) hs0 (hcx.all s) hroom hr2 h))
            obtain ⟨bo, rfl, hcell⟩ : ∃ bo, Ao = some ⟨bo, 0, none⟩ ∧ ∀ w', Keeps (fun k => k = gr) w6 w' → w'.cell? ⟨bo, i, none⟩ = some (.int .i64 (s : Nat)) := by
              rcases HP6.out.row.2 with ⟨hv, h0⟩ | ⟨bo, cap, cur, hv, _⟩
              · have := HLO.out; omega
              · injection hv with hv
                subst hv
                refine ⟨bo, rfl, fun w' k' => ?_⟩
                have hrow := HP6.out.row
                rw [← HLO.out] at hrow
                have h1 := hrow.cellAt i (by omega)
                rw [List.getElem?_map, hs] at h1
                exact ckp h1 k' (fun h9 => HOB.out bo rfl h9)
            have HCL := Lib.hid hcell
            have hini : (i : Int) < (LO : Int) := by omega
            clear hcx hs hsL hs0 hlen hroom b1 b2 b3 hr2 hat hcell
            go_wp2_with fail
            refine HGT.out.mono ?_
            rintro x w8 ⟨rfl, hrr, hk8⟩
            have HR8 : Hid (Rr w8 gr false A2 mr c2 (pk false (bitsL (toN xs) osy)) (bitsL (toN xs) (osy.take (i + 1))).length) := by rw [HST.out]; exact hrr
            have HK8 : Hid (Keeps (fun k => k = gr) w6 w8) := Keeps.trans HK.out hk8 fun _ _ h => h
            have hcl8 := HCL.out w8 HK8.out
            clear hrr hk8 HGT HRR HK
            go_wp2_with fail
            go_roundw
            case rel => exact ⟨i + 1, by omega, by go_num, HR8.out, HK8.out⟩
            case measure => simp [intOf]; omega
          · obtain rfl : LO = i := by omega
            obtain ⟨w7, rfl⟩ : ∃ w7 : World, w7 = wr := ⟨_, rfl⟩
            have HC7 := Lib.hid hcx
            have HGW7 : Hid (Grow W w7) := Keeps.trans HP6.out.grow HK.out fun i hi h9 => by have := HGR.out.2; have := HP6.out.hB; omega
            have HE7 : Hid (w7.cell? ⟨gl, 0, none⟩ = some (.slice A0 L c0)) := ckp HE6.out HK.out (fun h9 => by have := HGR.out.2; have := HGLB.out; simp only at h9; omega)
            clear hcx hin hi HRR HK
            go_wp2_with fail
            go_loopw [16] (fun vi wr => ∃ (i : Nat), i ≤ L ∧ i ≤ 60 ∧ vi = .int .i64 i ∧ Hid (Grow w7 wr)) (fun vi _ => 60 - (intOf vi).toNat)
            case atStart => exact ⟨0, by omega, by omega, rfl, Keeps.refl _ _⟩
            case round =>
              obtain ⟨i, hiL, hi60, rfl, HGI⟩ := hrel
              have e0 := ckp HE7.out HGI.out (fun h => h)
              by_cases hiin : i < L ∧ i < 60
              · have hiLi : (i : Int) < (L : Int) := by omega
                have hi60i : (i : Int) < 60 := by omega
                have hw1 := cWord_is wr g L M B (toN xs) (HC7.out.grow HGI.out) i hiin.1
                obtain ⟨⟨x, n⟩, hp1⟩ : ∃ p, p = wordP (toN xs) i := ⟨_, rfl⟩
                rw [← hp1] at hw1
                have HW1 := Lib.hid hw1
                have HP1 := Lib.hid hp1
                have HII := Lib.hid hiin
                clear hw1 hp1 hiin
                simp only at HW1
                obtain ⟨er1, her1⟩ : ∃ er1 : Nat, er1 = if 0 < n then 0 else 2 := ⟨_, rfl⟩
                rw [← her1] at HW1
                have HER1 := Lib.hid her1
                clear her1
                have hxn := wordP_le HC7.out i HII.out.1 x n HP1.out
                have hxi : (x : Int) < 1048576 := by omega
                have hni : (n : Int) ≤ 20 := by omega
                clear hxn
                go_wp2_with fail
                refine HW1.out.mono ?_
                rintro z w8 ⟨rfl, hg8⟩
                have HG8 : Hid (Grow w7 w8) := Grow.trans _ _ _ HGI.out hg8
                clear hg8 HW1 HGI e0
                have HGI := HG8
                clear HG8
                have e0 := ckp HE7.out HGI.out (fun h => h)
                go_wp2_with fail
                go_loopw [20] (fun vk wr => ∃ (k : Nat), k ≤ L ∧ k ≤ 60 ∧ vk = .int .i64 k ∧ Hid (Grow w7 wr)) (fun vk _ => 60 - (intOf vk).toNat)
                case atStart => exact ⟨0, by omega, by omega, rfl, HGI.out⟩
                case round =>
                  clear HGI e0
                  obtain ⟨k, hkL, hk60, rfl, HGI⟩ := hrel
                  have e0 := ckp HE7.out HGI.out (fun h => h)
                  by_cases hkin : k < L ∧ k < 60
                  · have hkLi : (k : Int) < (L : Int) := by omega
                    have hk60i : (k : Int) < 60 := by omega
                    have hw2 := cWord_is wr g L M B (toN xs) (HC7.out.grow HGI.out) k hkin.1
                    obtain ⟨⟨y, mk⟩, hp2⟩ : ∃ p, p = wordP (toN xs) k := ⟨_, rfl⟩
                    rw [← hp2] at hw2
                    have HW2 := Lib.hid hw2
                    have HP2 := Lib.hid hp2
                    have HKI := Lib.hid hkin
                    clear hw2 hp2 hkin
                    simp only at HW2
                    obtain ⟨er2, her2⟩ : ∃ er2 : Nat, er2 = if 0 < mk then 0 else 2 := ⟨_, rfl⟩
                    rw [← her2] at HW2
                    have HER2 := Lib.hid her2
                    clear her2
                    have hfree := free_pair HC7.out i k HII.out.1 HKI.out.1 x n y mk HP1.out HP2.out
                    have hmk := wordP_le HC7.out k HKI.out.1 y mk HP2.out
                    have HFR := Lib.hid hfree
                    have hyi : (y : Int) < 1048576 := by omega
                    have hmki : (mk : Int) ≤ 20 := by omega
                    clear hfree hmk
                    by_cases hik : i = k
                    · subst hik
                      clear hyi hmki HFR HP2 HER2
                      go_wp2_with fail
                      refine HW2.out.mono ?_
                      rintro z w8 ⟨rfl, hg8⟩
                      have HG8 : Hid (Grow w7 w8) := Grow.trans _ _ _ HGI.out hg8
                      clear hg8 HW2 hxi hni hkLi
                      go_wp2_with fail
                      go_roundw
                      case rel => exact ⟨i + 1, by have := HKI.out; omega, by have := HKI.out; omega, by go_num, HG8.out⟩
                      case measure => have := HKI.out; simp [intOf]; omega
                    have hikb : ((i : Int) == (k : Int)) = false := by rw [beq_eq_false_iff_ne]; omega
                    have hikn : ¬ (i : Int) = (k : Int) := by omega
                    by_cases hn0 : 0 < n
                    · by_cases hm0 : 0 < mk
                      · obtain rfl : er2 = 0 := by rw [HER2.out, if_pos hm0]
                        obtain rfl : er1 = 0 := by rw [HER1.out, if_pos hn0]
                        by_cases hnm : n ≤ mk
                        · have hnmd : decide (n ≤ mk) = true := decide_eq_true hnm
                          have hnmi : (n : Int) ≤ (mk : Int) := by omega
                          obtain ⟨d, hd⟩ : ∃ d, d = mk - n := ⟨_, rfl⟩
                          have hdi : (mk : Int) - (n : Int) = (d : Int) := by omega
                          have hd64 : d < 64 := by omega
                          have hdp : (d : Int) ≤ 20 := by omega
                          obtain ⟨z, hz⟩ : ∃ z, z = y / 2 ^ d := ⟨_, rfl⟩
                          have ez : (y : Int) / 2 ^ d = (z : Int) := by rw [powI4, ← Int.natCast_ediv, hz]
                          have hzx : ¬ z = x := by rw [hz, hd]; exact HFR.out (fun h => hik h) hn0 hm0 hnm
                          have hzb : ((z : Int) == (x : Int)) = false := by rw [beq_eq_false_iff_ne]; omega
                          have hzn : ¬ (z : Int) = (x : Int) := by omega
                          have hzi : (z : Int) < 1048576 := by have : z ≤ y := by rw [hz]; exact Nat.div_le_self _ _
                                                               omega
                          clear hd hz hik
                          go_wp2_with fail
                          refine HW2.out.mono ?_
                          rintro z9 w8 ⟨rfl, hg8⟩
                          have HG8 : Hid (Grow w7 w8) := Grow.trans _ _ _ HGI.out hg8
                          clear hg8 HW2
                          go_wp2_with fail
                          go_roundw
                          case rel => (repeat apply Exists.intro); exact ⟨⟨k + 1, by have := HKI.out; omega, by have := HKI.out; omega, by go_num, HG8.out⟩, rfl⟩
                          case measure => have := HKI.out; simp [intOf]; omega
                        · have hnmd : decide (n ≤ mk) = false := decide_eq_false hnm
                          have hnmi : ¬ (n : Int) ≤ (mk : Int) := by omega
                          clear hik
                          go_wp2_with fail
                          refine HW2.out.mono ?_
                          rintro z9 w8 ⟨rfl, hg8⟩
                          have HG8 : Hid (Grow w7 w8) := Grow.trans _ _ _ HGI.out hg8
                          clear hg8 HW2
                          go_wp2_with fail
                          go_roundw
                          case rel => (repeat apply Exists.intro); exact ⟨⟨k + 1, by have := HKI.out; omega, by have := HKI.out; omega, by go_num, HG8.out⟩, rfl⟩
                          case measure => have := HKI.out; simp [intOf]; omega
                      · obtain rfl : er2 = 2 := by rw [HER2.out, if_neg hm0]
                        obtain rfl : er1 = 0 := by rw [HER1.out, if_pos hn0]
                        clear hik
                        go_wp2_with fail
                        refine HW2.out.mono ?_
                        rintro z9 w8 ⟨rfl, hg8⟩
                        have HG8 : Hid (Grow w7 w8) := Grow.trans _ _ _ HGI.out hg8
                        clear hg8 HW2
                        go_wp2_with fail
                        go_roundw
                        case rel => (repeat apply Exists.intro); exact ⟨⟨k + 1, by have := HKI.out; omega, by have := HKI.out; omega, by go_num, HG8.out⟩, rfl⟩
                        case measure => have := HKI.out; simp [intOf]; omega
                    · obtain rfl : er1 = 2 := by rw [HER1.out, if_neg hn0]
                      clear hik
                      go_wp2_with fail
                      refine HW2.out.mono ?_
                      rintro z9 w8 ⟨rfl, hg8⟩
                      have HG8 : Hid (Grow w7 w8) := Grow.trans _ _ _ HGI.out hg8
                      clear hg8 HW2
                      go_wp2_with fail
                      go_roundw
                      case rel => (repeat apply Exists.intro); exact ⟨⟨k + 1, by have := HKI.out; omega, by have := HKI.out; omega, by go_num, HG8.out⟩, rfl⟩
                      case measure => have := HKI.out; simp [intOf]; omega
                  · by_cases hk2 : k < L
                    · have hkLi : (k : Int) < (L : Int) := by omega
                      have hk60i : ¬ (k : Int) < 60 := by omega
                      clear hkin
                      go_wp2_with fail
                      go_roundw
                      case rel => exact ⟨i + 1, by have := HII.out; omega, by have := HII.out; omega, by go_num, HGI.out⟩
                      case measure => have := HII.out; simp [intOf]; omega
                    · have hkLi : ¬ (k : Int) < (L : Int) := by omega
                      clear hkin hk2
                      go_wp2_with fail
                      go_roundw
                      case rel => exact ⟨i + 1, by have := HII.out; omega, by have := HII.out; omega, by go_num, HGI.out⟩
                      case measure => have := HII.out; simp [intOf]; omega
              · have hBelow := Lib.hid ((Grow.trans _ _ _ HGW7.out HGI.out).below (fun _ _ h => h) (Nat.le_refl _))
                by_cases hi2 : i < L
                · have hiLi : (i : Int) < (L : Int) := by omega
                  have hi60i : ¬ (i : Int) < 60 := by omega
                  clear hiin
                  go_wp2_with fail
                  go_ret
                  exact ⟨rfl, hBelow.out⟩
                · have hiLi : ¬ (i : Int) < (L : Int) := by omega
                  clear hiin hi2
                  go_wp2_with fail
                  go_ret
                  exact ⟨rfl, hBelow.out⟩
  · have HBD : Hid (okL most L xs = false ∨ fullK (toN xs) loose = false) := by
      cases h1 : okL most L xs
      · exact .inl rfl
      · cases h2 : fullK (toN xs) loose
        · exact .inr rfl
        · exact absurd ⟨h1, h2⟩ hgood
    clear hgood
    obtain ⟨er, her, her2, hA⟩ := newFail L xs most loose HBD.out (by have := HLB.out.1; omega)
    have HA := Lib.hid (hA w1 A0 c0 (HXS.out.grow HG1.out))
    have herb : ((er : Int) == 0) = false := by rw [beq_eq_false_iff_ne]; omega
    have hern : ¬ (er : Int) = 0 := by omega
    have hern2 : ¬ er = 0 := by omega
    have heri : (er : Int) < 100 := by omega
    clear hA her her2
    go_wp2_with fail
    refine HA.out.mono ?_
    rintro x w2 ⟨rfl, hg2⟩
    have HG2 : Hid (Grow W w2) := Grow.trans _ _ _ HG1.out hg2
    have HT := Lib.hid (newTwo w2)
    clear hg2 HA
    go_wp2_with fail
    refine HT.out.mono ?_
    rintro x w3 ⟨g1, rfl, hcw, hg3⟩
    have HS := Lib.hid (cSymbols_is w3 g1 2 _ hcw)
    have HG3 : Hid (Grow W w3) := Grow.trans _ _ _ HG2.out hg3
    have hBelow := Lib.hid (HG3.out.below (fun _ _ h => h) (Nat.le_refl _))
    clear hcw hg3 HT
    go_wp2_with fail
    refine HS.out.mono ?_
    rintro x w4 ⟨rfl, rfl⟩
    go_wp2_with fail
    go_ret
    exact ⟨rfl, hBelow.out⟩
end Go.Proofs.Ytofalbbbnhnadaa
