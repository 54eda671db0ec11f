/- PrefixReads: the law. -/
import Derived.Test.YtofalbbbnhnadaaPrP
namespace Go.Proofs.Ytofalbbbnhnadaa
open Go.RowKit
set_option linter.unusedVariables false
set_option linter.unusedSimpArgs false

def wat : Option Value → Nat
  | some (.int _ n) => n.toNat
  | _ => 0
theorem wat_int (k : IntKind) (n : Nat) : wat (some (.int k (n : Nat))) = n := rfl
theorem CodeX.up {w : World} {g m M B B' : Nat} {ls : List Nat} (h : CodeX w g m M B ls) (hB : B ≤ B') : CodeX w g m M B' ls := by
  obtain ⟨gw, srt, F, C, P, h1, h2, h3, h4, h5, h6, h7⟩ := h.at_
  exact ⟨⟨gw, srt, F, C, P, h1, h2, h3, h4, by omega, by omega, fun b hb => Nat.lt_of_lt_of_le (h7 b hb) hB⟩, h.len, h.most, h.all, h.kraft⟩
theorem wsl {w : World} {g m M B : Nat} {ls : List Nat} (h : CodeX w g m M B ls) : ∀ k, k < m → ((outK ls M).ws.getD k (0, 0)).2 = ls.getD k 0 := fun k hk => by
  rw [List.getD_eq_getElem?_getD, h.word k hk]
  by_cases h0 : 0 < ls.getD k 0
  · rw [if_pos h0]; rfl
  · rw [if_neg h0]
    show 0 = _
    omega
theorem cnt_set (cs : List Nat) (s c : Nat) : (cs.map fun c => Value.int .i64 (c : Nat)).set s (.int .i64 (c : Nat)) = (cs.set s c).map fun c => Value.int .i64 (c : Nat) := by simp [List.map_set]
/-- The counts' sum is the bits'. -/
structure Cnt (ls : List Nat) (m i : Nat) (osy cs : List Nat) : Prop where
  len : cs.length = m
  sum : (bitsL ls osy).length = psum ls cs m
  pos : ∀ k, k < m → 0 < cs.getD k 0 → 0 < ls.getD k 0
  few : osy.length ≤ i
  le : ∀ k, cs.getD k 0 ≤ i
theorem Cnt.next {ls : List Nat} {m i : Nat} {osy cs : List Nat} (h : Cnt ls m i osy cs) : Cnt ls m (i + 1) osy cs := ⟨h.len, h.sum, h.pos, by have := h.few; omega, fun k => by have := h.le k; omega⟩
theorem Cnt.put {ls : List Nat} {m i : Nat} {osy cs : List Nat} (h : Cnt ls m i osy cs) (s : Nat) (hs : s < m) (h0 : 0 < ls.getD s 0) : Cnt ls m (i + 1) (osy ++ [s]) (cs.set s (cs.getD s 0 + 1)) := by
  have hg : ∀ k, (cs.set s (cs.getD s 0 + 1)).getD k 0 = if k = s then cs.getD s 0 + 1 else cs.getD k 0 := fun k => by
    by_cases hk : k = s
    · subst hk; rw [if_pos rfl]; simp [List.getD_eq_getElem?_getD, show k < cs.length by rw [h.len]; exact hs]
    · rw [if_neg hk]; simp [List.getD_eq_getElem?_getD, List.getElem?_set_ne (fun h => hk h.symm)]
  refine ⟨by simp [h.len], ?_, fun k hk hc => ?_, by have := h.few; simp; omega, fun k => ?_⟩
  · rw [bitsL_snoc, List.length_append, symBits_len, psum_set ls cs s (by rw [h.len]; exact hs), if_pos hs, h.sum]
  · rw [hg] at hc
    by_cases hks : k = s
    · rw [hks]; exact h0
    · rw [if_neg hks] at hc; exact h.pos k hk hc
  · rw [hg]
    have := h.le k
    have := h.le s
    split <;> omega
theorem rr_put {W w w' : World} {g m M B gb gr LB cr at' : Nat} {ls : List Nat} {hi h2 : Bool} {v v' ov : Value} {l osy : List Nat} {Ar : Option Addr} {xs : List Int} (h : PB W w g m M B ls hi gb v ov l osy) (h3 : gr < B) (h4 : ∀ b, (Value.slice Ar LB cr).ownBlock = some b → b < B) (hr : Rr w gr h2 Ar LB cr xs at') (k : WrKeep w w' gb v v') : Rr w' gr h2 Ar LB cr xs at' := by
  have hS : ∀ b, b < B → ¬ (b = gb ∨ v.ownBlock = some b) := fun b hb h9 => by
    rcases h9 with h9 | h9
    · have := h.hgb; omega
    · have := h.hv b h9; omega
  exact hr.keep k.1 (hS gr h3) (fun b hb => hS b (h4 b hb))
set_option maxRecDepth 8000 in
set_option maxHeartbeats 8000000 in
theorem walkPrefixReads (W : World) (cs0 : List Value) (x0 : (List (Int)) × (Int) × (Bool) × Unit) (_h0 : Sh.Rd W (.pair (.sl 8 (.int .i64)) (.pair (.int .i64) (.pair .bool .nil))) cs0 x0) (a1 : Option Addr) (c1 : Nat) (x1 : List (Int)) (_h1 : Sh.Rd W (.sl 1 (.int .u8)) [.slice a1 x1.length c1] x1) (a2 : Option Addr) (c2 : Nat) (x2 : List (Int)) (_h2 : Sh.Rd W (.sl 8 (.int .i64)) [.slice a2 x2.length c2] x2) :
    Calls Try.prog 7 #[.agg cs0.toArray, .slice a1 x1.length c1, .slice a2 x2.length c2] W fun e w' => e = .returned (.bool true) ∧ Below W.heap.size W w' := by
  obtain ⟨A0, c0, rfl, hmw, hrd⟩ := len3 _h0
  obtain ⟨xs, most, loose, u⟩ := x0
  simp only at hmw hrd ⊢
  have HXS := Lib.hid (Nums.of_rd hrd).1
  have hcapb := (Nums.of_rd hrd).2
  have hcapn := (Nums.of_rd hrd).1.cap
  have HBS := Lib.hid (Nums.of_rd _h1).1
  have hcapb1 := (Nums.of_rd _h1).2
  have hcapn1 := (Nums.of_rd _h1).1.cap
  have HYS := Lib.hid (Nums.of_rd _h2).1
  have hcapb2 := (Nums.of_rd _h2).2
  have hcapn2 := (Nums.of_rd _h2).1.cap
  have hlb : xs.length ≤ 17592186043904 := by omega
  have hlb1 : x1.length ≤ 140737488351232 := by omega
  have hlb2 : x2.length ≤ 17592186043904 := by omega
  obtain ⟨L, hL⟩ : ∃ L, L = xs.length := ⟨_, rfl⟩
  obtain ⟨LB, hLB⟩ : ∃ LB, LB = x1.length := ⟨_, rfl⟩
  obtain ⟨L2, hL2⟩ : ∃ L2, L2 = x2.length := ⟨_, rfl⟩
  rw [← hL] at HXS hlb ⊢
  rw [← hLB] at HBS hlb1 ⊢
  rw [← hL2] at HYS hlb2 ⊢
  have HLB := Lib.hid (And.intro hlb (And.intro hlb2 (And.intro hlb1 trivial)))
  have hLi2 : (L2 : Int) ≤ 17592186043904 := by omega
  clear _h0 _h1 _h2 hmw hrd hcapb hcapn hL hL2 hLB hlb hlb1 hlb2 hcapb1 hcapn1 hcapb2 hcapn2
  have hga := heap_alloc_new W (.cells #[.slice A0 L c0, .int .i64 most, .bool loose] 24)
  have HGA := Lib.hid hga
  have HG1 : Hid (Grow W (W.alloc (.cells #[.slice A0 L c0, .int .i64 most, .bool loose] 24))) := (Keeps.refl _ W).alloc _
  clear hga
  go_enter Try.func7, Try.ntmps7
  go_upto_region 1 with fail
  obtain ⟨gl, hgl⟩ : ∃ gl, gl = W.heap.size := ⟨_, rfl⟩
  have HGL := Lib.hid hgl
  rw [← hgl] at HGA ⊢
  clear hgl
  generalize W.alloc (.cells #[.slice A0 L c0, .int .i64 most, .bool loose] 24) = w1 at *
  have HT := Lib.hid (newTwo w1)
  go_wp2_with fail
  refine HT.out.mono ?_
  rintro x w2 ⟨g1, rfl, hcw, hg2⟩
  have HS := Lib.hid (cSymbols_is w2 g1 2 _ hcw)
  have HG2 : Hid (Grow W w2) := Grow.trans _ _ _ HG1.out hg2
  have HGA2 := Lib.hid (block_keep HGA.out hg2 fun h => h)
  clear hcw hg2 HT HGA HG1
  go_wp2_with fail
  refine HS.out.mono ?_
  rintro x w3 ⟨rfl, rfl⟩
  clear HS
  have e0 := blk_cell HGA2.out 0
  have e1 := blk_cell HGA2.out 1
  have e2 := blk_cell HGA2.out 2
  simp at e0 e1 e2
  by_cases hgood : okL most L xs = true ∧ fullK (toN xs) false = true
  · have HGD := Lib.hid hgood
    clear hgood
    obtain ⟨M, rfl, hM1, hM20, hL65, hA⟩ := newGood L xs most false HGD.out.1 HGD.out.2 HXS.out.len
    have HA := Lib.hid (hA w2 A0 c0 (HXS.out.grow HG2.out))
    have HM1 := Lib.hid hM1
    have HL65 := Lib.hid hL65
    have HSUM := Lib.hid (fullK_sum HGD.out.2)
    have HXR : Hid (∀ i, 0 ≤ xs.getD i 0) := by
      obtain ⟨_, _, _, _, _, _, _, h9⟩ := okL_facts HGD.out.1 HXS.out.len
      exact fun i => (h9 i).1
    clear hA hM1 hM20 hL65
    go_wp2_with fail
    refine HA.out.mono ?_
    rintro x w3 ⟨g, rfl, hcx, hg3⟩
    have HG3 : Hid (Grow W w3) := Grow.trans _ _ _ HG2.out hg3
    have HE3 := Lib.hid (ckp e0 hg3 (fun h => h))
    have HCX3 := Lib.hid hcx
    have HGL3 : Hid (gl < w3.heap.size) := by have h1 := blk_lt HGA2.out; have h2 := hg3.size; show _ < _; omega
    have HNR := Lib.hid (newReader_any w3 true a1 LB c1 x1 (HBS.out.grow HG3.out).src (fun x hx => by have := inKind_u8 (HBS.out.rng x hx); omega) (by have := HLB.out.2.2.1; omega))
    clear hcx hg3 HA e0 e1 e2
    go_wp2_with fail
    refine HNR.out.mono ?_
    rintro x w4 ⟨gr, Ar, cr, rfl, hgr, hrr, _, hg4⟩
    obtain ⟨B4, hB4⟩ : ∃ B4, B4 = w3.heap.size := ⟨_, rfl⟩
    rw [← hB4] at HCX3 hgr HGL3
    have HCX := Lib.hid (HCX3.out.grow hg4)
    have HR4 := Lib.hid hrr
    have HG4 : Hid (Grow W w4) := Grow.trans _ _ _ HG3.out hg4
    have HE4 := Lib.hid (ckp HE3.out hg4 (fun h => h))
    have HGR : Hid ((B4 ≤ gr ∧ True) ∧ W.heap.size ≤ gr) := ⟨⟨hgr, trivial⟩, by have := HG3.out.size; omega⟩
    have HGR : Hid (B4 ≤ gr ∧ W.heap.size ≤ gr) := ⟨hgr, HGR.out.2⟩
    have HGL4 := HGL3
    have HB44 : Hid (B4 ≤ w4.heap.size) := by rw [hB4]; exact hg4.size
    clear hgr hrr hg4 HNR HCX3 HE3 HG3 hB4
    go_wp2_with fail
    go_loopw [] (fun wr => ∃ (at' : Nat), at' ≤ 8 * LB ∧ Hid (Rr wr gr true Ar LB cr x1 at') ∧ Hid (Keeps (fun k => k = gr) w4 wr)) (fun wr => 8 * LB - wat (wr.cell? ⟨gr, 3, none⟩))
    case atStart => exact ⟨0, by omega, HR4.out, Keeps.refl _ _⟩
    case round =>
      clear HR4
      obtain ⟨at', hat, HRR, HK⟩ := hrel
      have HLF := Lib.hid (left_any wr gr LB cr at' true Ar x1 HRR.out (by have := HLB.out.2.2.1; omega) hat)
      have hm3 := blk_cell HRR.out.1 3
      simp at hm3
      have HM3 := Lib.hid hm3
      clear hm3
      by_cases hend : at' = 8 * LB
      · subst hend
        rw [Nat.sub_self] at HLF
        go_wp2_with fail
        refine HLF.out.mono ?_
        rintro x w5 ⟨rfl, rfl⟩
        have HRE := Lib.hid (HRR.out.keep (Keeps.refl (fun _ => False) wr).drew (fun h => h) (fun _ _ h => h))
        have HKE : Hid (Keeps (fun k => k = gr) w4 wr.drew) := HK.out.drew
        clear HRR HK HLF HM3
        generalize wr.drew = wE at *
        have HGE : Hid (Grow W wE) := Keeps.trans HG4.out HKE.out fun i hi h9 => by have := HGR.out.2; omega
        have HE5 : Hid (wE.cell? ⟨gl, 0, none⟩ = some (.slice A0 L c0)) := ckp HE4.out HKE.out (fun h9 => by have := HGR.out.1; have := HGL4.out; simp only at h9; omega)
        obtain ⟨B, hB⟩ : ∃ B, B = wE.heap.size := ⟨_, rfl⟩
        have HCXE : Hid (CodeX wE g L M B (toN xs)) := (HCX.out.keep HKE.out (fun b hb h9 => by have := HGR.out.1; omega)).up (by rw [hB]; exact Nat.le_trans HB44.out HKE.out.size)
        have HBW : Hid (W.heap.size ≤ B) := by rw [hB]; exact HGE.out.size
        have HBE := Lib.hid hB
        have hgrb := blk_lt HRE.out.1
        have harb := fun b hb => (HRE.out.2.1.lt b hb).2
        have HRB : Hid (gr < B ∧ ∀ b, (Value.slice Ar LB cr).ownBlock = some b → b < B) := by rw [hB]; exact ⟨hgrb, harb⟩
        have HGLB : Hid (gl < B) := by rw [hB]; exact World.block_lt_of_cell? _ _ HE5.out
        have hz9 : (Value.int .i64 0).cells = #[Value.int .i64 0] := rfl
        have e0 := HE5.out
        clear hB hgrb harb
        go_wp2_with (at_make; refine wpList_make rfl (.tmp 77) (.tmp 77) 22 3 rfl Try.underlying22 Try.infoI4 hz9 L rfl rfl (by have := HLB.out.1; omega) (by have := HLB.out.1; unfold maxLen; omega) ?_)
        intro w5 ho5 hg5 hsz5
        have HNW := Lib.hid (new_any w5 true)
        obtain ⟨go, hgo⟩ : ∃ go, go = wE.heap.size := ⟨_, rfl⟩
        rw [← hgo] at ho5 ⊢
        have HO5 : Hid (w5.ownsRow B 3 1 (.slice (some ⟨go, 0, none⟩) L L) (List.replicate L 0).length ((List.replicate L 0).map fun s => .int .i64 (s : Nat))) := by
          show World.ownsRow _ _ _ _ _ _ _
          rw [List.length_replicate, List.map_replicate]
          refine owns_base ho5 fun b hb => ?_
          have h8 : go = b := by simpa [Value.ownBlock] using hb
          rw [HBE.out]; omega
        have HC5 := Lib.hid (HCXE.out.grow hg5)
        have HR5 := Lib.hid (HRE.out.keep hg5 (fun h => h) (fun _ _ h => h))
        have HG5 : Hid (Grow W w5) := Grow.trans _ _ _ HGE.out hg5
        have HE6 := Lib.hid (ckp HE5.out hg5 (fun h => h))
        have HB5 : Hid (B ≤ w5.heap.size) := by rw [HBE.out]; exact hg5.size
        clear ho5 hg5 hsz5 hgo hz9 e0 HE5 HGE HCXE HRE HKE
        go_wp2_with fail
        refine HNW.out.mono ?_
        rintro x w6 ⟨rfl, hw6, hg6⟩
        obtain ⟨gb, hgb⟩ : ∃ gb, gb = w5.heap.size := ⟨_, rfl⟩
        rw [← hgb] at hw6 ⊢
        have HP6 : Hid (PB W w6 g L M B (toN xs) true gb (.slice none 0 0) (.slice (some ⟨go, 0, none⟩) L L) [] (List.replicate L 0)) :=
          ⟨HC5.out.grow hg6, hw6, owns_keep HO5.out hg6 (fun _ _ h => h), Grow.trans _ _ _ HG5.out hg6, HBW.out, by rw [hgb]; exact HB5.out, fun b h => by simp [Value.ownBlock] at h, Nat.le_trans HB5.out hg6.size⟩
        have HR6 := Lib.hid (HR5.out.keep hg6 (fun h => h) (fun _ _ h => h))
        have HCN : Hid (Cnt (toN xs) L 0 [] (List.replicate L 0)) := ⟨by simp, by rw [psum_zero]; simp [bitsL], fun k hk h9 => by rw [List.getD_eq_getElem?_getD, List.getElem?_replicate] at h9; split at h9 <;> simp at h9, by simp, fun k => by rw [List.getD_eq_getElem?_getD, List.getElem?_replicate]; split <;> simp⟩
        clear hw6 hg6 hgb HNW HC5 HR5 HO5 HG5 HB5
        go_wp2_with fail
        go_loopw [15] (fun vi wr => ∃ (i : Nat) (v : Value) (osy cs : List Nat), i ≤ L2 ∧ vi = .int .i64 i ∧ Hid (PB W wr g L M B (toN xs) true gb v (.slice (some ⟨go, 0, none⟩) L L) osy cs) ∧ Hid (Cnt (toN xs) L i osy cs) ∧ Hid (Rr wr gr true Ar LB cr x1 (8 * LB))) (fun vi _ => L2 - (intOf vi).toNat)
        case atStart => exact ⟨0, _, [], _, by omega, rfl, HP6.out, HCN.out, HR6.out⟩
        case round =>
          clear HP6 HCN HR6 HE6
          obtain ⟨i, v, osy, cs, hi, rfl, HP, HCN, HR⟩ := hrel
          have hbl := bitsL_len (toN xs) (fun i => Nat.le_trans (HP.out.code.all i) HP.out.code.most) osy
          have hbl2 : (bitsL (toN xs) osy).length ≤ 1000000000000000 - 128 := by have := HCN.out.few; have := HLB.out.2.1; omega
          have HBL := Lib.hid hbl2
          clear hbl hbl2
          by_cases hin : i < L2
          · obtain ⟨bb, oo, rfl, hc⟩ := HYS.out.at_ (by omega)
            have HCC : Hid (∀ w', Grow W w' → w'.cell? ⟨bb, oo + i, none⟩ = some (.int .i64 (x2.getD i 0))) := fun w' h => ckp (hc i hin) h (fun h => h)
            have hcell := HCC.out wr HP.out.grow
            have hini : (i : Int) < (L2 : Int) := by omega
            obtain ⟨Y, hY⟩ : ∃ Y, Y = x2.getD i 0 := ⟨_, rfl⟩
            rw [← hY] at hcell HCC
            clear hc hY
            rcases put_cases (toN xs) L Y with hs | ⟨s, rfl, hsL, hs0⟩
            · have HPU := Lib.hid (cPut_no wr g L M B (toN xs) HP.out.code gb true v _ HP.out.wr HBL.out Y hs HP.out.hgb HP.out.hv)
              clear hs
              go_wp2_with fail
              refine HPU.out.mono ?_
              rintro x w5 ⟨rfl, v5, hw5, hk5⟩
              have HP5 := Lib.hid (HP.out.put hk5 hw5)
              have HR5 := Lib.hid (rr_put HP.out HRB.out.1 HRB.out.2 HR.out hk5)
              clear hw5 hk5 HPU HP HR hcell
              go_wp2_with fail
              go_roundw
              case rel => exact ⟨i + 1, v5, osy, cs, by omega, by go_num, HP5.out, HCN.out.next, HR5.out⟩
              case measure => simp [intOf]; omega
            · have HPU := Lib.hid (cPut_is wr g L M B (toN xs) HP.out.code gb true v _ HP.out.wr HBL.out s hsL hs0 HP.out.hgb HP.out.hv)
              have HSL := Lib.hid (And.intro hsL hs0)
              have hsLi : (s : Int) < (L : Int) := by omega
              clear hsL hs0
              go_wp2_with fail
              refine HPU.out.mono ?_
              rintro x w5 ⟨rfl, v5, hw5, hk5⟩
              rw [← bitsL_snoc] at hw5
              have HP5 := Lib.hid (HP.out.put (l' := osy ++ [s]) hk5 hw5)
              have HR5 := Lib.hid (rr_put HP.out HRB.out.1 HRB.out.2 HR.out hk5)
              clear hw5 hk5 HPU HP HR hcell
              have hcell := HCC.out w5 HP5.out.grow
              have hrow := HP5.out.row
              rw [HCN.out.len] at hrow
              have hc9 := hrow.cellAt s (by have := HSL.out.1; omega)
              have hf9 := hrow.frozenAt s
              obtain ⟨ct, hct⟩ : ∃ ct, ct = cs.getD s 0 := ⟨_, rfl⟩
              have hcs : cs[s]? = some ct := by rw [hct, List.getD_eq_getElem?_getD, List.getElem?_eq_getElem (by rw [HCN.out.len]; exact HSL.out.1)]; rfl
              rw [List.getElem?_map, hcs, Option.map_some] at hc9
              have hst := (hrow.stored s (.int .i64 (ct + 1 : Nat))).1
              rw [cnt_set] at hst
              have hcti : (ct : Int) < 17592186043999 := by have := HCN.out.le s; have := HLB.out.2.1; omega
              rw [show ((ct + 1 : Nat) : Int) = (ct : Int) + 1 by omega] at hst
              have HP6 : Hid (PB W (w5.setCell ⟨go, s, none⟩ (.int .i64 ((ct : Int) + 1))) g L M B (toN xs) true gb v5 (.slice (some ⟨go, 0, none⟩) L L) (osy ++ [s]) (cs.set s (ct + 1))) :=
                HP5.out.app (osy' := cs.set s (ct + 1)) ((Keeps.refl (fun k => (Value.slice (some ⟨go, 0, none⟩) L L).ownBlock = some k) w5).setCell (p := ⟨go, s, none⟩) (fun _ => rfl) _) (by rw [List.length_set, HCN.out.len]; exact hst)
              have HR6 : Hid (Rr (w5.setCell ⟨go, s, none⟩ (.int .i64 ((ct : Int) + 1))) gr true Ar LB cr x1 (8 * LB)) := HR5.out.keep ((Keeps.refl (fun k => k = go) w5).setCell (p := ⟨go, s, none⟩) (fun _ => rfl) (.int .i64 ((ct : Int) + 1))) (fun h9 => by have := own_ge HP5.out.row go rfl; have := HRB.out.1; omega) (fun b hb h9 => by have := own_ge HP5.out.row go rfl; have := HRB.out.2 b hb; omega)
              have HCN2 : Hid (Cnt (toN xs) L (i + 1) (osy ++ [s]) (cs.set s (ct + 1))) := by rw [hct]; exact HCN.out.put s HSL.out.1 HSL.out.2
              clear hst hct hcs hrow
              go_wp2_with fail
              go_roundw
              case rel => exact ⟨i + 1, v5, osy ++ [s], cs.set s (ct + 1), by omega, by go_num, HP6.out, HCN2.out, HR6.out⟩
              case measure => simp [intOf]; omega
          · obtain rfl : L2 = i := by omega
            have hrow := HP.out.row
            rw [HCN.out.len] at hrow
            have hnums : Nums .i64 wr (some ⟨go, 0, none⟩) L L (cs.map fun c => ((c : Nat) : Int)) := by
              refine Nums.of_own (b := B) (e := 3) (by rw [List.map_map]; exact hrow) (fun x hx => ?_)
              obtain ⟨c, hc, rfl⟩ := List.mem_map.1 hx
              obtain ⟨j, hj, rfl⟩ := List.mem_iff_getElem.1 hc
              have h1 := HCN.out.le j
              rw [List.getD_eq_getElem?_getD, List.getElem?_eq_getElem hj] at h1
              simp at h1
              have := HLB.out.2.1
              exact mk_i64 (by omega) (by omega)
            have HCO := Lib.hid (cCost_is wr g L _ HP.out.code.codeW (some ⟨go, 0, none⟩) L L _ hnums HL65.out)
            have hws := wsl HP.out.code
            have HPS := Lib.hid (HCN.out.sum)
            have HCT : Hid (∀ e w', CostPost (outK (toN xs) M).ws (cs.map fun c => ((c : Nat) : Int)) e wr w' → e = .returned (.tuple #[.int .i64 (psum (toN xs) cs L : Nat), .int .i64 0]) ∧ Grow wr w') := fun e w' h =>
              cost_put hws (by rw [(outK_facts (toN xs) M).1]; exact HP.out.code.len) HCN.out.len (by rw [← HPS.out]; have := HBL.out; omega) HCN.out.pos h
            clear hrow hnums hws hin hi
            go_wp2_with fail
            refine HCO.out.mono ?_
            intro x w7 hx
            obtain ⟨rfl, hg7⟩ := HCT.out _ _ hx
            have HP7 := Lib.hid (HP.out.grown hg7)
            have HR7 := Lib.hid (HR.out.keep hg7 (fun h => h) (fun _ _ h => h))
            have HLE := Lib.hid (len_any w7 gb true v _ HP7.out.wr)
            rw [HPS.out] at HLE
            clear hx hg7 HCO HCT HP HR
            go_wp2_with fail
            refine HLE.out.mono ?_
            rintro x w8 ⟨rfl, rfl⟩
            have HLF := Lib.hid (left_any w7 gr LB cr (8 * LB) true Ar x1 HR7.out (by have := HLB.out.2.2.1; omega) (Nat.le_refl _))
            rw [Nat.sub_self] at HLF
            have hBelow := Lib.hid (HP7.out.grow.drew.below (fun _ _ h => h) (Nat.le_refl _))
            clear HLE
            go_wp2_with fail
            refine HLF.out.mono ?_
            rintro x w9 ⟨rfl, rfl⟩
            go_wp2_with fail
            go_ret
            exact ⟨rfl, hBelow.out⟩
      · obtain ⟨lf, hlf⟩ : ∃ lf, lf = 8 * LB - at' := ⟨_, rfl⟩
        rw [← hlf] at HLF
        have hlf0 : (0 : Int) < (lf : Int) := by omega
        have hlfd : decide ((0 : Int) < (lf : Int)) = true := decide_eq_true hlf0
        have HAT := Lib.hid (And.intro hat (And.intro hend trivial))
        clear hlf hat hend
        go_wp2_with fail
        refine HLF.out.mono ?_
        rintro x w5 ⟨rfl, rfl⟩
        have HRD := Lib.hid (HRR.out.keep (Keeps.refl (fun _ => False) wr).drew (fun h => h) (fun _ _ h => h))
        have HKD : Hid (Keeps (fun k => k = gr) w4 wr.drew) := HK.out.drew
        have hcx := HCX.out.keep HKD.out (fun b hb h9 => by have := HGR.out.1; omega)
        have HGT := Lib.hid ((cGet_is wr.drew g L M B4 (toN xs) hcx HM1.out gr LB cr at' true Ar x1 HRD.out (by have := HLB.out.2.2.1; omega) HAT.out.1 HGR.out.1).mono (fun e w' h => get_full hcx.kraft hcx.most hcx.all HSUM.out h))
        clear hcx HRR HK HLF HRD
        generalize wr.drew = wd at *
        go_wp2_with fail
        refine HGT.out.mono ?_
        rintro x w5 ⟨hk5, hcase⟩
        have HK5 : Hid (Keeps (fun k => k = gr) w4 w5) := Keeps.trans HKD.out hk5 fun _ _ h => h
        rcases hcase with ⟨rfl, hr5⟩ | ⟨s, l, rfl, hsl, hs0, hl1, hroom, hr5⟩
        · have HRE := Lib.hid hr5
          have HKE := HK5
          clear hr5 hk5 HK5 HKD HGT HM3 HAT hlf0 hlfd
          obtain ⟨wE, rfl⟩ : ∃ wE : World, wE = w5 := ⟨_, rfl⟩
          have HGE : Hid (Grow W wE) := Keeps.trans HG4.out HKE.out fun i hi h9 => by have := HGR.out.2; omega
          have HE5 : Hid (wE.cell? ⟨gl, 0, none⟩ = some (.slice A0 L c0)) := ckp HE4.out HKE.out (fun h9 => by have := HGR.out.1; have := HGL4.out; simp only at h9; omega)
          obtain ⟨B, hB⟩ : ∃ B, B = wE.heap.size := ⟨_, rfl⟩
          have HCXE : Hid (CodeX wE g L M B (toN xs)) := (HCX.out.keep HKE.out (fun b hb h9 => by have := HGR.out.1; omega)).up (by rw [hB]; exact Nat.le_trans HB44.out HKE.out.size)
          have HBW : Hid (W.heap.size ≤ B) := by rw [hB]; exact HGE.out.size
          have HBE := Lib.hid hB
          have hgrb := blk_lt HRE.out.1
          have harb := fun b hb => (HRE.out.2.1.lt b hb).2
          have HRB : Hid (gr < B ∧ ∀ b, (Value.slice Ar LB cr).ownBlock = some b → b < B) := by rw [hB]; exact ⟨hgrb, harb⟩
          have HGLB : Hid (gl < B) := by rw [hB]; exact World.block_lt_of_cell? _ _ HE5.out
          have hz9 : (Value.int .i64 0).cells = #[Value.int .i64 0] := rfl
          have e0 := HE5.out
          clear hB hgrb harb
          go_wp2_with (at_make; refine wpList_make rfl (.tmp 77) (.tmp 77) 22 3 rfl Try.underlying22 Try.infoI4 hz9 L rfl rfl (by have := HLB.out.1; omega) (by have := HLB.out.1; unfold maxLen; omega) ?_)
          intro w5 ho5 hg5 hsz5
          have HNW := Lib.hid (new_any w5 true)
          obtain ⟨go, hgo⟩ : ∃ go, go = wE.heap.size := ⟨_, rfl⟩
          rw [← hgo] at ho5 ⊢
          have HO5 : Hid (w5.ownsRow B 3 1 (.slice (some ⟨go, 0, none⟩) L L) (List.replicate L 0).length ((List.replicate L 0).map fun s => .int .i64 (s : Nat))) := by
            show World.ownsRow _ _ _ _ _ _ _
            rw [List.length_replicate, List.map_replicate]
            refine owns_base ho5 fun b hb => ?_
            have h8 : go = b := by simpa [Value.ownBlock] using hb
            rw [HBE.out]; omega
          have HC5 := Lib.hid (HCXE.out.grow hg5)
          have HR5 := Lib.hid (HRE.out.keep hg5 (fun h => h) (fun _ _ h => h))
          have HG5 : Hid (Grow W w5) := Grow.trans _ _ _ HGE.out hg5
          have HE6 := Lib.hid (ckp HE5.out hg5 (fun h => h))
          have HB5 : Hid (B ≤ w5.heap.size) := by rw [HBE.out]; exact hg5.size
          clear ho5 hg5 hsz5 hgo hz9 e0 HE5 HGE HCXE HRE HKE
          go_wp2_with fail
          refine HNW.out.mono ?_
          rintro x w6 ⟨rfl, hw6, hg6⟩
          obtain ⟨gb, hgb⟩ : ∃ gb, gb = w5.heap.size := ⟨_, rfl⟩
          rw [← hgb] at hw6 ⊢
          have HP6 : Hid (PB W w6 g L M B (toN xs) true gb (.slice none 0 0) (.slice (some ⟨go, 0, none⟩) L L) [] (List.replicate L 0)) :=
            ⟨HC5.out.grow hg6, hw6, owns_keep HO5.out hg6 (fun _ _ h => h), Grow.trans _ _ _ HG5.out hg6, HBW.out, by rw [hgb]; exact HB5.out, fun b h => by simp [Value.ownBlock] at h, Nat.le_trans HB5.out hg6.size⟩
          have HR6 := Lib.hid (HR5.out.keep hg6 (fun h => h) (fun _ _ h => h))
          have HCN : Hid (Cnt (toN xs) L 0 [] (List.replicate L 0)) := ⟨by simp, by rw [psum_zero]; simp [bitsL], fun k hk h9 => by rw [List.getD_eq_getElem?_getD, List.getElem?_replicate] at h9; split at h9 <;> simp at h9, by simp, fun k => by rw [List.getD_eq_getElem?_getD, List.getElem?_replicate]; split <;> simp⟩
          clear hw6 hg6 hgb HNW HC5 HR5 HO5 HG5 HB5
          go_wp2_with fail
          go_loopw [15] (fun vi wr => ∃ (i : Nat) (v : Value) (osy cs : List Nat), i ≤ L2 ∧ vi = .int .i64 i ∧ Hid (PB W wr g L M B (toN xs) true gb v (.slice (some ⟨go, 0, none⟩) L L) osy cs) ∧ Hid (Cnt (toN xs) L i osy cs) ∧ Hid (Rr wr gr true Ar LB cr x1 (8 * LB))) (fun vi _ => L2 - (intOf vi).toNat)
          case atStart => exact ⟨0, _, [], _, by omega, rfl, HP6.out, HCN.out, HR6.out⟩
          case round =>
            clear HP6 HCN HR6 HE6
            obtain ⟨i, v, osy, cs, hi, rfl, HP, HCN, HR⟩ := hrel
            have hbl := bitsL_len (toN xs) (fun i => Nat.le_trans (HP.out.code.all i) HP.out.code.most) osy
            have hbl2 : (bitsL (toN xs) osy).length ≤ 1000000000000000 - 128 := by have := HCN.out.few; have := HLB.out.2.1; omega
            have HBL := Lib.hid hbl2
            clear hbl hbl2
            by_cases hin : i < L2
            · obtain ⟨bb, oo, rfl, hc⟩ := HYS.out.at_ (by omega)
              have HCC : Hid (∀ w', Grow W w' → w'.cell? ⟨bb, oo + i, none⟩ = some (.int .i64 (x2.getD i 0))) := fun w' h => ckp (hc i hin) h (fun h => h)
              have hcell := HCC.out wr HP.out.grow
              have hini : (i : Int) < (L2 : Int) := by omega
              obtain ⟨Y, hY⟩ : ∃ Y, Y = x2.getD i 0 := ⟨_, rfl⟩
              rw [← hY] at hcell HCC
              clear hc hY
              rcases put_cases (toN xs) L Y with hs | ⟨s, rfl, hsL, hs0⟩
              · have HPU := Lib.hid (cPut_no wr g L M B (toN xs) HP.out.code gb true v _ HP.out.wr HBL.out Y hs HP.out.hgb HP.out.hv)
                clear hs
                go_wp2_with fail
                refine HPU.out.mono ?_
                rintro x w5 ⟨rfl, v5, hw5, hk5⟩
                have HP5 := Lib.hid (HP.out.put hk5 hw5)
                have HR5 := Lib.hid (rr_put HP.out HRB.out.1 HRB.out.2 HR.out hk5)
                clear hw5 hk5 HPU HP HR hcell
                go_wp2_with fail
                go_roundw
                case rel => exact ⟨i + 1, v5, osy, cs, by omega, by go_num, HP5.out, HCN.out.next, HR5.out⟩
                case measure => simp [intOf]; omega
              · have HPU := Lib.hid (cPut_is wr g L M B (toN xs) HP.out.code gb true v _ HP.out.wr HBL.out s hsL hs0 HP.out.hgb HP.out.hv)
                have HSL := Lib.hid (And.intro hsL hs0)
                have hsLi : (s : Int) < (L : Int) := by omega
                clear hsL hs0
                go_wp2_with fail
                refine HPU.out.mono ?_
                rintro x w5 ⟨rfl, v5, hw5, hk5⟩
                rw [← bitsL_snoc] at hw5
                have HP5 := Lib.hid (HP.out.put (l' := osy ++ [s]) hk5 hw5)
                have HR5 := Lib.hid (rr_put HP.out HRB.out.1 HRB.out.2 HR.out hk5)
                clear hw5 hk5 HPU HP HR hcell
                have hcell := HCC.out w5 HP5.out.grow
                have hrow := HP5.out.row
                rw [HCN.out.len] at hrow
                have hc9 := hrow.cellAt s (by have := HSL.out.1; omega)
                have hf9 := hrow.frozenAt s
                obtain ⟨ct, hct⟩ : ∃ ct, ct = cs.getD s 0 := ⟨_, rfl⟩
                have hcs : cs[s]? = some ct := by rw [hct, List.getD_eq_getElem?_getD, List.getElem?_eq_getElem (by rw [HCN.out.len]; exact HSL.out.1)]; rfl
                rw [List.getElem?_map, hcs, Option.map_some] at hc9
                have hst := (hrow.stored s (.int .i64 (ct + 1 : Nat))).1
                rw [cnt_set] at hst
                have hcti : (ct : Int) < 17592186043999 := by have := HCN.out.le s; have := HLB.out.2.1; omega
                rw [show ((ct + 1 : Nat) : Int) = (ct : Int) + 1 by omega] at hst
                have HP6 : Hid (PB W (w5.setCell ⟨go, s, none⟩ (.int .i64 ((ct : Int) + 1))) g L M B (toN xs) true gb v5 (.slice (some ⟨go, 0, none⟩) L L) (osy ++ [s]) (cs.set s (ct + 1))) :=
                  HP5.out.app (osy' := cs.set s (ct + 1)) ((Keeps.refl (fun k => (Value.slice (some ⟨go, 0, none⟩) L L).ownBlock = some k) w5).setCell (p := ⟨go, s, none⟩) (fun _ => rfl) _) (by rw [List.length_set, HCN.out.len]; exact hst)
                have HR6 : Hid (Rr (w5.setCell ⟨go, s, none⟩ (.int .i64 ((ct : Int) + 1))) gr true Ar LB cr x1 (8 * LB)) := HR5.out.keep ((Keeps.refl (fun k => k = go) w5).setCell (p := ⟨go, s, none⟩) (fun _ => rfl) (.int .i64 ((ct : Int) + 1))) (fun h9 => by have := own_ge HP5.out.row go rfl; have := HRB.out.1; omega) (fun b hb h9 => by have := own_ge HP5.out.row go rfl; have := HRB.out.2 b hb; omega)
                have HCN2 : Hid (Cnt (toN xs) L (i + 1) (osy ++ [s]) (cs.set s (ct + 1))) := by rw [hct]; exact HCN.out.put s HSL.out.1 HSL.out.2
                clear hst hct hcs hrow
                go_wp2_with fail
                go_roundw
                case rel => exact ⟨i + 1, v5, osy ++ [s], cs.set s (ct + 1), by omega, by go_num, HP6.out, HCN2.out, HR6.out⟩
                case measure => simp [intOf]; omega
            · obtain rfl : L2 = i := by omega
              have hrow := HP.out.row
              rw [HCN.out.len] at hrow
              have hnums : Nums .i64 wr (some ⟨go, 0, none⟩) L L (cs.map fun c => ((c : Nat) : Int)) := by
                refine Nums.of_own (b := B) (e := 3) (by rw [List.map_map]; exact hrow) (fun x hx => ?_)
                obtain ⟨c, hc, rfl⟩ := List.mem_map.1 hx
                obtain ⟨j, hj, rfl⟩ := List.mem_iff_getElem.1 hc
                have h1 := HCN.out.le j
                rw [List.getD_eq_getElem?_getD, List.getElem?_eq_getElem hj] at h1
                simp at h1
                have := HLB.out.2.1
                exact mk_i64 (by omega) (by omega)
              have HCO := Lib.hid (cCost_is wr g L _ HP.out.code.codeW (some ⟨go, 0, none⟩) L L _ hnums HL65.out)
              have hws := wsl HP.out.code
              have HPS := Lib.hid (HCN.out.sum)
              have HCT : Hid (∀ e w', CostPost (outK (toN xs) M).ws (cs.map fun c => ((c : Nat) : Int)) e wr w' → e = .returned (.tuple #[.int .i64 (psum (toN xs) cs L : Nat), .int .i64 0]) ∧ Grow wr w') := fun e w' h =>
                cost_put hws (by rw [(outK_facts (toN xs) M).1]; exact HP.out.code.len) HCN.out.len (by rw [← HPS.out]; have := HBL.out; omega) HCN.out.pos h
              clear hrow hnums hws hin hi
              go_wp2_with fail
              refine HCO.out.mono ?_
              intro x w7 hx
              obtain ⟨rfl, hg7⟩ := HCT.out _ _ hx
              have HP7 := Lib.hid (HP.out.grown hg7)
              have HR7 := Lib.hid (HR.out.keep hg7 (fun h => h) (fun _ _ h => h))
              have HLE := Lib.hid (len_any w7 gb true v _ HP7.out.wr)
              rw [HPS.out] at HLE
              clear hx hg7 HCO HCT HP HR
              go_wp2_with fail
              refine HLE.out.mono ?_
              rintro x w8 ⟨rfl, rfl⟩
              have HLF := Lib.hid (left_any w7 gr LB cr (8 * LB) true Ar x1 HR7.out (by have := HLB.out.2.2.1; omega) (Nat.le_refl _))
              rw [Nat.sub_self] at HLF
              have hBelow := Lib.hid (HP7.out.grow.drew.below (fun _ _ h => h) (Nat.le_refl _))
              clear HLE
              go_wp2_with fail
              refine HLF.out.mono ?_
              rintro x w9 ⟨rfl, rfl⟩
              go_wp2_with fail
              go_ret
              exact ⟨rfl, hBelow.out⟩
        · have HR5 := Lib.hid hr5
          have hxs : xs.getD s 0 = (((toN xs).getD s 0 : Nat) : Int) := by
            rw [toN_get xs s (HXR.out s)]
          obtain ⟨n, hn⟩ : ∃ n, n = (toN xs).getD s 0 := ⟨_, rfl⟩
          rw [← hn] at hs0 hxs
          have hsL : s < L := by rw [toN_len, HXS.out.len] at hsl; exact hsl
          have HE5 : Hid (w5.cell? ⟨gl, 0, none⟩ = some (.slice A0 L c0)) := ckp HE4.out HK5.out (fun h9 => by have := HGR.out.1; have := HGL4.out; simp only at h9; omega)
          have HG5 : Hid (Grow W w5) := Keeps.trans HG4.out HK5.out fun i hi h9 => by have := HGR.out.2; omega
          obtain ⟨bA, oA, rfl, hc⟩ := (HXS.out.grow HG5.out).at_ (by omega)
          have hcell := hc s hsL
          rw [hxs] at hcell
          have e0 := HE5.out
          have hnb : ((n : Int) == 0) = false := by rw [beq_eq_false_iff_ne]; omega
          have hsLi : (s : Int) < (L : Int) := by omega
          have hsLn : ¬ (L : Int) ≤ (s : Int) := by omega
          have HHH := Lib.hid (And.intro hl1 (And.intro hroom trivial))
          have HMM := blk_cell hr5.1 3
          simp at HMM
          have HM5 := Lib.hid HMM
          clear hr5 hk5 HKD HGT hxs hn hsl hc HE5 hlf0 hlfd hs0 hsL HMM hl1 hroom
          go_wp2_with fail
          go_roundw
          case rel => exact ⟨at' + l, HHH.out.2.1, HR5.out, HK5.out⟩
          case measure => rw [HM3.out, HM5.out, wat_int, show ((at' : Int) + (l : Int)) = ((at' + l : Nat) : Int) by omega, wat_int]; have h1 := HHH.out; have h2 := HAT.out; omega
  · have HBD : Hid (okL most L xs = false ∨ fullK (toN xs) false = false) := by
      cases h1 : okL most L xs
      · exact .inl rfl
      · cases h2 : fullK (toN xs) false
        · exact .inr rfl
        · exact absurd ⟨h1, h2⟩ hgood
    clear hgood
    obtain ⟨er, her, her2, hA⟩ := newFail L xs most false HBD.out (by have := HLB.out.1; omega)
    have HA := Lib.hid (hA w2 A0 c0 (HXS.out.grow HG2.out))
    have herb : ((er : Int) == 0) = false := by rw [beq_eq_false_iff_ne]; omega
    have hern : ¬ (er : Int) = 0 := by omega
    have hern2 : ¬ er = 0 := by omega
    have heri : (er : Int) < 100 := by omega
    clear hA her her2
    go_wp2_with fail
    refine HA.out.mono ?_
    rintro x w3 ⟨rfl, hg3⟩
    have HG3 : Hid (Grow W w3) := Grow.trans _ _ _ HG2.out hg3
    have hBelow := Lib.hid (HG3.out.below (fun _ _ h => h) (Nat.le_refl _))
    clear hg3 HA
    go_wp2_with fail
    go_ret
    exact ⟨rfl, hBelow.out⟩
end Go.Proofs.Ytofalbbbnhnadaa
