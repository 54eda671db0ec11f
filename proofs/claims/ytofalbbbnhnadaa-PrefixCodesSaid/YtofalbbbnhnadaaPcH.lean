/- prefix: Get. -/
import Derived.Test.YtofalbbbnhnadaaPcG
namespace Go.Proofs.Ytofalbbbnhnadaa
open Go.RowKit
set_option linter.unusedVariables false
set_option linter.unusedSimpArgs false

theorem get_end4 (w : World) (g m c at' : Nat) (hi : Bool) (A : Option Addr) (xs : List Int) (n : Nat) (h : Rr w g hi A m c xs at') (hm : m ≤ 140737488355328) (ha : at' ≤ 8 * m) (hn : n ≤ 64) (hl : 8 * m < at' + n) :
    Calls Try.prog 33 #[.pointer (some ⟨g, 0, none⟩), .int .i64 n] w fun e w' => e = .returned (.tuple #[.int .u64 0, .int .i64 10]) ∧ w' = w.drew := by
  have t1 : (decide ((n : Int) < 0)) = false := by simp
  have t2 : (decide ((64 : Int) < n)) = false := by simp; omega
  have t3 : (decide (((8 * m - at' : Nat) : Int) < n)) = true := by simp; omega
  go_enter Try.func33, Try.ntmps33
  go_wp2_with fail
  go_step3
  go_wp2_with (first
    | (go_at_call 37; refine (rnone_made _ g m c at' hi A xs h).mono ?_; rintro e w1 ⟨rfl, rfl⟩)
    | (go_at_call 27; refine (left_any _ g m c at' hi A xs h hm (by omega)).mono ?_; rintro e w1 ⟨rfl, rfl⟩))
  rw [Exit.noGoto_ret]
  go_ret2
  exact ⟨rfl, rfl⟩
/-- A bit of the reader. -/
def bt (hi : Bool) (xs : List Int) (j : Nat) : Nat := ((unpk hi xs).getD j 0).toNat
theorem bt_le (hi : Bool) (xs : List Int) (j : Nat) : bt hi xs j ≤ 1 := by
  unfold bt
  rcases isBits_getD (unpk_isBits hi xs) j with h | h <;> rw [h] <;> decide
theorem bt_num (hi : Bool) (xs : List Int) (j : Nat) (h : j < 8 * xs.length) : numOf hi (((unpk hi xs).drop j).take 1) = (bt hi xs j : Nat) := by
  have h1 : ((unpk hi xs).drop j).take 1 = [(unpk hi xs).getD j 0] := by
    have hl : j < (unpk hi xs).length := by rw [unpk_length]; exact h
    rw [List.drop_eq_getElem_cons hl, List.take_succ_cons, List.take_zero, List.getD_eq_getElem?_getD, List.getElem?_eq_getElem hl]
    rfl
  rw [h1, numOf_one]
  unfold bt
  rcases isBits_getD (unpk_isBits hi xs) j with h | h <;> rw [h] <;> rfl
/-- The number of l bits from a. -/
def vN (hi : Bool) (xs : List Int) (a : Nat) : Nat → Nat
  | 0 => 0
  | l + 1 => 2 * vN hi xs a l + bt hi xs (a + l)
theorem vN_lt (hi : Bool) (xs : List Int) (a : Nat) : ∀ l, vN hi xs a l < 2 ^ l
  | 0 => by simp [vN]
  | l + 1 => by
    have h1 := vN_lt hi xs a l
    have h2 := bt_le hi xs (a + l)
    rw [Nat.pow_succ]
    show 2 * vN hi xs a l + bt hi xs (a + l) < _
    omega
/-- A word stands here. -/
def hitK (ls : List Nat) (v l : Nat) : Prop := Ff ls l ≤ v ∧ v < Ff ls l + Cc ls l
/-- No word to the length l stands here, but one goes on. -/
def openK (ls : List Nat) (M : Nat) (v : Nat → Nat) (l : Nat) : Prop := ∀ j, 1 ≤ j → j < l → ¬ hitK ls (v j) j ∧ ∃ k, j < k ∧ k ≤ M ∧ liveK ls (v j) j k
def GetPost (ls : List Nat) (M : Nat) (w : World) (gr mr cr at0 : Nat) (hi : Bool) (Ar : Option Addr) (xs : List Int) (e : Ending) (w' : World) : Prop :=
  ∃ (s er l : Nat), e = .returned (.tuple #[.int .i64 s, .int .i64 er]) ∧ 1 ≤ l ∧ l ≤ M ∧ openK ls M (vN hi xs at0) l ∧ Keeps (fun k => k = gr) w w' ∧
    (s = 0 ∧ er = 10 ∧ at0 + (l - 1) = 8 * mr ∧ Rr w' gr hi Ar mr cr xs (8 * mr) ∨
     at0 + l ≤ 8 * mr ∧ Rr w' gr hi Ar mr cr xs (at0 + l) ∧
      (er = 0 ∧ hitK ls (vN hi xs at0 l) l ∧ (idx ls l ls.length)[vN hi xs at0 l - Ff ls l]? = some s ∨
       s = 0 ∧ er = 11 ∧ ¬ hitK ls (vN hi xs at0 l) l ∧ ∀ k, l < k → k ≤ M → ¬ liveK ls (vN hi xs at0 l) l k))
set_option maxRecDepth 8000 in
set_option maxHeartbeats 4000000 in
theorem cGet_is (w : World) (g m M B : Nat) (ls : List Nat) (h : CodeX w g m M B ls) (hM1 : 1 ≤ M) (gr mr cr at0 : Nat) (hi : Bool) (Ar : Option Addr) (xs : List Int) (hr : Rr w gr hi Ar mr cr xs at0) (hmr : mr ≤ 140737488355328) (hat : at0 ≤ 8 * mr) (hgB : B ≤ gr) :
    Calls Try.prog 18 #[.pointer (some ⟨g, 0, none⟩), .pointer (some ⟨gr, 0, none⟩)] w fun e w' => GetPost ls M w gr mr cr at0 hi Ar xs e w' := by
  have HN := Lib.hid (cNone_is w g m _ h.codeW)
  have HX := Lib.hid h
  have hM20 := h.most
  have HR := Lib.hid hr
  obtain ⟨POST, hPOST⟩ : ∃ POST : Ending → World → Prop, POST = fun e w' => GetPost ls M w gr mr cr at0 hi Ar xs e w' := ⟨_, rfl⟩
  have HPO := Lib.hid hPOST
  show Calls _ _ _ _ fun e w' => (fun e w' => GetPost ls M w gr mr cr at0 hi Ar xs e w') e w'
  rw [← hPOST]
  have HB := Lib.hid (And.intro hM1 (And.intro hM20 (And.intro hmr (And.intro hat hgB))))
  have hMi : (M : Int) ≤ 20 := by omega
  have hxl := hr.len
  have HXL := Lib.hid hxl
  clear h hr hPOST hM1 hM20 hmr hat hgB hxl
  go_enter Try.func18, Try.ntmps18
  go_wp2_with fail
  refine HN.out.mono ?_
  rintro x w1 ⟨rfl, rfl⟩
  clear HN
  go_wp2_with fail
  go_loopw [6, 7] (fun vv vl wr => ∃ (l : Nat), 1 ≤ l ∧ l ≤ M ∧ vv = .int .u32 (vN hi xs at0 (l - 1) : Nat) ∧ vl = .int .i64 l ∧ Hid (Rr wr gr hi Ar mr cr xs (at0 + (l - 1)) ∧ at0 + (l - 1) ≤ 8 * mr) ∧ Hid (Keeps (fun k => k = gr) w wr) ∧ Hid (openK ls M (vN hi xs at0) l)) (fun _ vl _ => M + 1 - (intOf vl).toNat)
  case atStart => exact ⟨1, by omega, HB.out.1, rfl, rfl, ⟨HR.out, HB.out.2.2.2.1⟩, Keeps.refl _ _, fun j h1 h2 => by omega⟩
  case round =>
    obtain ⟨l, hl1, hlM, rfl, rfl, HRR, HK, HO⟩ := hrel
    have hcx := HX.out.keep HK.out (fun b hb h9 => by have := HB.out.2.2.2.2; omega)
    have d68 : wr.cell? ⟨g, 68, none⟩ = some (.int .i64 (M : Nat)) := by
      obtain ⟨gw, srt, F, C, P, hc, _⟩ := hcx.at_
      exact hc.mostc
    obtain ⟨j, rfl⟩ : ∃ j, l = j + 1 := ⟨l - 1, by omega⟩
    rw [Nat.add_sub_cancel] at HRR ⊢
    have hlMi : ((j + 1 : Nat) : Int) ≤ (M : Int) := by omega
    obtain ⟨lk, hlk⟩ : ∃ lk, lk = j + 1 := ⟨_, rfl⟩
    rw [← hlk] at hlMi HO ⊢
    obtain ⟨v, hv⟩ : ∃ v, v = vN hi xs at0 j := ⟨_, rfl⟩
    have hvl := vN_lt hi xs at0 j
    rw [← hv] at hvl ⊢
    have hpw : 2 ^ j ≤ 2 ^ 19 := Nat.pow_le_pow_right (by omega) (by have := HB.out.2.1; omega)
    have hvi : (v : Int) < 1048576 := by omega
    have HLK := Lib.hid (And.intro hlk (And.intro hv (And.intro hvl (And.intro hl1 hlM))))
    clear hcx hlk hv hvl hpw hl1 hlM
    by_cases hend : at0 + j = 8 * mr
    · have HGE := Lib.hid (get_end4 wr gr mr cr (at0 + j) hi Ar xs 1 HRR.out.1 HB.out.2.2.1 HRR.out.2 (by decide) (by omega))
      have HEND := Lib.hid hend
      clear hend
      go_wp2_with fail
      refine HGE.out.mono ?_
      rintro x w2 ⟨rfl, rfl⟩
      go_wp2_with fail
      refine (show POST (.returned (.tuple #[.int .i64 ((0 : Nat) : Int), .int .i64 ((10 : Nat) : Int)])) wr.drew from ?_)
      rw [HPO.out]
      have e1 := HLK.out
      refine ⟨0, 10, lk, rfl, by omega, by omega, HO.out, HK.out.drew, .inl ⟨rfl, rfl, by have := HEND.out; omega, ?_⟩⟩
      have h9 := HRR.out.1.keep (Keeps.refl (fun _ => False) wr).drew (fun h => h) (fun _ _ h => h)
      rw [HEND.out] at h9
      exact h9
    · have hlt : at0 + j < 8 * mr := by have := HRR.out.2; omega
      have hgy := get_yes wr gr mr cr (at0 + j) hi Ar xs 1 HRR.out.1 HB.out.2.2.1 (by decide) (by omega)
      rw [bt_num hi xs (at0 + j) (by rw [HXL.out]; exact hlt)] at hgy
      have HGY := Lib.hid hgy
      have hb1 := bt_le hi xs (at0 + j)
      obtain ⟨b, hb⟩ : ∃ b, b = bt hi xs (at0 + j) := ⟨_, rfl⟩
      rw [← hb] at hb1 HGY
      have hbi : (b : Int) ≤ 1 := by omega
      obtain ⟨y, hy⟩ : ∃ y, y = vN hi xs at0 lk := ⟨_, rfl⟩
      have hyv : y = 2 * v + b := by rw [hy, HLK.out.1, HLK.out.2.1, hb]; rfl
      have hor := or_bit32 v b hb1 (by have := HLK.out.2.2.1; omega)
      rw [← hyv] at hor
      have hyl := vN_lt hi xs at0 lk
      rw [← hy] at hyl
      have hpw : 2 ^ lk ≤ 2 ^ 20 := Nat.pow_le_pow_right (by omega) (by have := HB.out.2.1; have := HLK.out; omega)
      have hyi : (y : Int) < 1048576 := by omega
      have HY := Lib.hid (And.intro hy (And.intro hyl hlt))
      clear hb hb1 hgy hy hyv hyl hpw hend hlt
      go_wp2_with fail
      refine HGY.out.mono ?_
      rintro x w2 ⟨rfl, hr2, hk2⟩
      have HR2 : Hid (Rr w2 gr hi Ar mr cr xs (at0 + lk)) := by have e1 := HLK.out.1; rw [e1]; exact hr2
      have HK2 : Hid (Keeps (fun k => k = gr) w w2) := Keeps.trans HK.out hk2 fun _ _ h => h
      have HX2 := Lib.hid (HX.out.keep HK2.out (fun b hb h9 => by have := HB.out.2.2.2.2; omega))
      clear hr2 hk2 HGY HRR HK d68
      obtain ⟨gw, srt, F, C, P, hc, -, hrow, htab, -, -, -⟩ := HX2.out.at_
      obtain ⟨t1, t2, t3⟩ := htab lk (by have := HLK.out; omega) (by have := HLK.out; omega)
      have hk22 : lk < 22 := by have := HLK.out; have := HB.out.2.1; omega
      have c1 := hc.first lk hk22
      have c2 := hc.count lk hk22
      have c3 := hc.place lk hk22
      have c4 := hc.sorted
      rw [t1] at c1
      rw [t2] at c3
      rw [t3] at c2
      have hk22i : (lk : Int) < 22 := by omega
      have hlki : (lk : Int) ≤ 20 := by omega
      obtain ⟨e1, e2⟩ := Ff_eq HX.out.kraft lk (by have := HLK.out; omega) (by have := HLK.out; have := HB.out.2.1; omega)
      have hnn := Nn_le HX.out.kraft lk (by have := HLK.out; have := HB.out.2.1; omega)
      have hpw : 2 ^ lk ≤ 2 ^ 20 := Nat.pow_le_pow_right (by omega) (by have := HLK.out; have := HB.out.2.1; omega)
      obtain ⟨FF, hFF⟩ : ∃ FF, FF = Ff ls lk := ⟨_, rfl⟩
      obtain ⟨CC, hCC⟩ : ∃ CC, CC = Cc ls lk := ⟨_, rfl⟩
      rw [← hFF] at c1 e2
      rw [← hCC] at c2 e2
      have hFi : (FF : Int) ≤ 1048576 := by omega
      have hCi : (CC : Int) ≤ 1048576 := by omega
      have HFC := Lib.hid (And.intro hFF hCC)
      have HHIT : Hid (hitK ls (vN hi xs at0 lk) lk ↔ FF ≤ y ∧ y < FF + CC) := by show _ ↔ _; unfold hitK; rw [← hFF, ← hCC, HY.out.1]
      clear htab t1 t2 t3 e1 e2 hnn hpw hFF hCC
      by_cases hhit : FF ≤ y ∧ y < FF + CC
      · obtain ⟨q, hq⟩ : ∃ q, q = y - FF := ⟨_, rfl⟩
        have hqi : (y : Int) - (FF : Int) = (q : Int) := by omega
        have hqC : (q : Int) < (CC : Int) := by omega
        have hqc2 : q < (idx ls lk ls.length).length := by rw [idx_len]; show q < Cc ls lk; rw [← HFC.out.2]; omega
        obtain ⟨s, hs⟩ : ∃ s, (idx ls lk ls.length)[q]? = some s := ⟨(idx ls lk ls.length)[q], List.getElem?_eq_getElem hqc2⟩
        have hsg := srt_get ls (n := lk) (M := M) (by have := HLK.out; omega) (by have := HLK.out; omega) hs
        have hPl : Pp ls lk + q < (outK ls M).srt.length := by
          by_cases h9 : Pp ls lk + q < (outK ls M).srt.length
          · exact h9
          · rw [List.getElem?_eq_none (by omega)] at hsg; cases hsg
        have hSl : (outK ls M).srt.length ≤ 20 * 65536 ∨ True := .inr trivial
        obtain ⟨gs, cs, rfl⟩ : ∃ gs cs, srt = .slice (some ⟨gs, 0, none⟩) (outK ls M).srt.length cs := by
          rcases hrow.2 with ⟨hv, h0⟩ | ⟨gs, cap, cur, hv, _⟩
          · omega
          · exact ⟨gs, cap, hv⟩
        have cq := hrow.cellAt (Pp ls lk + q) (by omega)
        rw [List.getElem?_map, hsg, Option.map_some] at cq
        have hmx : (outK ls M).srt.length ≤ maxLen := by
          rcases hrow.2 with ⟨hv, h0⟩ | ⟨gs2, cap, cur, hv, hg, hh, hnc, hcm, _⟩
          · omega
          · omega
        generalize (outK ls M).srt.length = SL at *
        obtain ⟨PP, hPP⟩ : ∃ PP, PP = Pp ls lk := ⟨_, rfl⟩
        rw [← hPP] at c3 cq hPl
        have hPli : (PP : Int) + (q : Int) < (SL : Int) := by omega
        have hmxi : (SL : Int) ≤ 9223372036854775807 := by unfold maxLen at hmx; omega
        have HH2 := Lib.hid (HHIT.out.2 hhit)
        have HS : Hid ((idx ls lk ls.length)[vN hi xs at0 lk - Ff ls lk]? = some s) := by show _ = _; rw [← HY.out.1, ← HFC.out.1, ← hq]; exact hs
        have HMX := Lib.hid (And.intro hmxi trivial)
        clear hhit hq hqc2 hs hsg hSl hmx hPP hc hrow hPl hmxi
        go_wp2_with fail
        have hmxi := HMX.out.1
        go_quiet (fail)
        go_wp2_with fail
        refine (show POST (.returned (.tuple #[.int .i64 (s : Nat), .int .i64 ((0 : Nat) : Int)])) (w2.drewN _) from ?_)
        rw [HPO.out]
        have e1 := HLK.out
        exact ⟨s, 0, lk, rfl, by omega, by omega, HO.out, HK2.out.drewN _, .inr ⟨by have := HY.out.2.2; omega, HR2.out.keep ((Keeps.refl (fun _ => False) w2).drewN _) (fun h => h) (fun _ _ h => h), .inl ⟨rfl, HH2.out, HS.out⟩⟩⟩
      · have HD := Lib.hid (cDead_is w2 g m M B ls HX2.out y lk (by omega) (by have := HLK.out; omega) (by have := HLK.out; omega))
        have HNH : Hid (¬ hitK ls (vN hi xs at0 lk) lk) := fun h9 => hhit (HHIT.out.1 h9)
        clear hc hrow
        by_cases hlow : FF ≤ y
        · obtain ⟨q, hq⟩ : ∃ q, q = y - FF := ⟨_, rfl⟩
          have hqi : (y : Int) - (FF : Int) = (q : Int) := by omega
          have hqC : ¬ (q : Int) < (CC : Int) := by omega
          have hqd : decide (q < CC) = false := decide_eq_false (by omega)
          have hqd2 : decide ((q : Int) < (CC : Int)) = false := decide_eq_false hqC
          have hqb : (q : Int) ≤ 1048576 := by omega
          clear hq hlow
          go_wp2_with fail
          refine HD.out.mono ?_
          intro x w3 hdp
          obtain ⟨bb, rfl, hg3, hbb⟩ := hdp
          have HR3 := Lib.hid (HR2.out.keep hg3 (fun h => h) (fun _ _ h => h))
          have HK3 : Hid (Keeps (fun k => k = gr) w w3) := Keeps.trans HK2.out (gk hg3) fun _ _ h => h
          have HBB := Lib.hid hbb
          clear hg3 hbb HD HR2 HK2 HX2 c1 c2 c3 c4 hhit
          cases bb
          · have HLV : Hid (∃ k, lk < k ∧ k ≤ M ∧ liveK ls (vN hi xs at0 lk) lk k) := by
              rcases HBB.out with ⟨_, h9⟩ | ⟨h9, _⟩
              · rw [← HY.out.1]; exact h9
              · cases h9
            have HLM : Hid (lk + 1 ≤ M) := by obtain ⟨k, h1, h2, _⟩ := HLV.out; show _ ≤ _; omega
            have HO2 : Hid (openK ls M (vN hi xs at0) (lk + 1)) := by
              intro i h1 h2
              by_cases hi2 : i = lk
              · subst hi2; exact ⟨HNH.out, HLV.out⟩
              · exact HO.out i h1 (by omega)
            go_wp2_with fail
            go_roundw
            case rel => exact ⟨lk + 1, by omega, HLM.out, by rw [Nat.add_sub_cancel, HY.out.1], by go_num, ⟨by rw [Nat.add_sub_cancel]; exact HR3.out, by have := HY.out.2.2; have := HLK.out.1; omega⟩, HK3.out, HO2.out⟩
            case measure => have := HLK.out; simp [intOf]; omega
          · have HDD : Hid (∀ k, lk < k → k ≤ M → ¬ liveK ls (vN hi xs at0 lk) lk k) := by
              rcases HBB.out with ⟨h9, _⟩ | ⟨_, h9⟩
              · cases h9
              · rw [← HY.out.1]; exact h9
            go_wp2_with fail
            refine (show POST (.returned (.tuple #[.int .i64 ((0 : Nat) : Int), .int .i64 ((11 : Nat) : Int)])) w3 from ?_)
            rw [HPO.out]
            have e1 := HLK.out
            exact ⟨0, 11, lk, rfl, by omega, by omega, HO.out, HK3.out, .inr ⟨by have := HY.out.2.2; omega, HR3.out, .inr ⟨rfl, rfl, HNH.out, HDD.out⟩⟩⟩
        · have hneg : (y : Int) - (FF : Int) < 0 := by omega
          have hneg2 : ¬ 0 ≤ (y : Int) - (FF : Int) := by omega
          have hnd : decide ((0 : Int) ≤ (y : Int) - (FF : Int)) = false := decide_eq_false hneg2
          have hnd2 : decide (FF ≤ y) = false := decide_eq_false (by omega)
          clear hlow
          go_wp2_with fail
          refine HD.out.mono ?_
          intro x w3 hdp
          obtain ⟨bb, rfl, hg3, hbb⟩ := hdp
          have HR3 := Lib.hid (HR2.out.keep hg3 (fun h => h) (fun _ _ h => h))
          have HK3 : Hid (Keeps (fun k => k = gr) w w3) := Keeps.trans HK2.out (gk hg3) fun _ _ h => h
          have HBB := Lib.hid hbb
          clear hg3 hbb HD HR2 HK2 HX2 c1 c2 c3 c4 hhit
          cases bb
          · have HLV : Hid (∃ k, lk < k ∧ k ≤ M ∧ liveK ls (vN hi xs at0 lk) lk k) := by
              rcases HBB.out with ⟨_, h9⟩ | ⟨h9, _⟩
              · rw [← HY.out.1]; exact h9
              · cases h9
            have HLM : Hid (lk + 1 ≤ M) := by obtain ⟨k, h1, h2, _⟩ := HLV.out; show _ ≤ _; omega
            have HO2 : Hid (openK ls M (vN hi xs at0) (lk + 1)) := by
              intro i h1 h2
              by_cases hi2 : i = lk
              · subst hi2; exact ⟨HNH.out, HLV.out⟩
              · exact HO.out i h1 (by omega)
            go_wp2_with fail
            go_roundw
            case rel => exact ⟨lk + 1, by omega, HLM.out, by rw [Nat.add_sub_cancel, HY.out.1], by go_num, ⟨by rw [Nat.add_sub_cancel]; exact HR3.out, by have := HY.out.2.2; have := HLK.out.1; omega⟩, HK3.out, HO2.out⟩
            case measure => have := HLK.out; simp [intOf]; omega
          · have HDD : Hid (∀ k, lk < k → k ≤ M → ¬ liveK ls (vN hi xs at0 lk) lk k) := by
              rcases HBB.out with ⟨h9, _⟩ | ⟨_, h9⟩
              · cases h9
              · rw [← HY.out.1]; exact h9
            go_wp2_with fail
            refine (show POST (.returned (.tuple #[.int .i64 ((0 : Nat) : Int), .int .i64 ((11 : Nat) : Int)])) w3 from ?_)
            rw [HPO.out]
            have e1 := HLK.out
            exact ⟨0, 11, lk, rfl, by omega, by omega, HO.out, HK3.out, .inr ⟨by have := HY.out.2.2; omega, HR3.out, .inr ⟨rfl, rfl, HNH.out, HDD.out⟩⟩⟩
end Go.Proofs.Ytofalbbbnhnadaa
