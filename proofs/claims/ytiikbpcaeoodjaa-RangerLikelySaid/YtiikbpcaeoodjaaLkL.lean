/- The law RangerLikely: the walk. -/
import Derived.Test.YtiikbpcaeoodjaaEnM
import Derived.Test.YtiikbpcaeoodjaaLkP
namespace Go.Proofs.Ytiikbpcaeoodjaa
open Go.RowKit
set_option linter.unusedVariables false
set_option linter.unusedSimpArgs false

structure LkInv (x i : Nat) (e : Enc) (p cnt : Nat) : Prop where
  ch : e.ch = [p]
  ok : e.Ok
  len : e.out.length + e.waiting = cnt + 1
  chk : lkChk x (3000 - i) i p e.width cnt = true
  good : (i = 0 ∧ cnt = 0) ∨ lkGood x i p cnt = true
theorem lk_new (x : Nat) (hx : x ≤ 1) : LkInv x 0 (Enc.new 1) 1024 0 := by
  refine ⟨rfl, Enc.new_ok 1, rfl, ?_, .inl ⟨rfl, rfl⟩⟩
  rcases (show x = 0 ∨ x = 1 by omega) with rfl | rfl
  · exact lk0
  · exact lk1
theorem lk_aft (x p : Nat) : aft p x = lkP x p := by
  unfold aft lkP
  cases x with
  | zero => rfl
  | succ n => rfl
theorem settle_lt (e : Enc) (h : e.width < 16777216) (hw : 1 ≤ e.waiting) : e.settle.ch = e.ch ∧ e.settle.width = e.width * 256 ∧ e.settle.out.length + e.settle.waiting = e.out.length + e.waiting + 1 := by
  have hs : e.settle = ({ e with width := e.width * 256 } : Enc).shift := by rw [Enc.settle, if_pos h]
  rw [hs]
  exact ⟨Enc.shift_ch _, Enc.shift_width _, Enc.shift_len _ hw⟩
theorem settle_ge (e : Enc) (h : ¬ e.width < 16777216) : e.settle = e := by rw [Enc.settle, if_neg h]
/-- The encoder ahead of what widens its range. -/
theorem put_form (x p low width kept waiting : Nat) (out : List Nat) (hx : x ≤ 1) : ∃ low', (⟨[p], low, width, kept, waiting, out⟩ : Enc).put 0 x = (⟨[lkP x p], low', lkW x p width, kept, waiting, out⟩ : Enc).settle := by
  rcases (show x = 0 ∨ x = 1 by omega) with rfl | rfl
  · exact ⟨low, rfl⟩
  · exact ⟨_, rfl⟩
theorem lk_step (x i : Nat) (e : Enc) (p cnt : Nat) (h : LkInv x i e p cnt) (hi : i < 3000) (hx : x ≤ 1) : ∃ p' cnt', LkInv x (i + 1) (e.put 0 x) p' cnt' := by
  have hok := Enc.put_ok e h.ok 0 x (by rw [h.ch]; exact Nat.zero_lt_one)
  have hc := h.chk
  rw [show 3000 - i = 3000 - (i + 1) + 1 by omega, lkChk] at hc
  obtain ⟨ch, low, width, kept, waiting, out⟩ := e
  have hch : ch = [p] := h.ch
  subst hch
  have hlen : out.length + waiting = cnt + 1 := h.len
  have hw1 : 1 ≤ waiting := h.ok.waiting
  obtain ⟨low', hf⟩ := put_form x p low width kept waiting out hx
  rw [hf] at hok ⊢
  simp only at hc
  cases hb : Nat.blt (lkW x p width) 16777216 with
  | true =>
    rw [hb] at hc
    simp only [cond_true, Bool.and_eq_true] at hc
    have hlt : lkW x p width < 16777216 := Nat.blt_eq.mp hb
    obtain ⟨s1, s2, s3⟩ := settle_lt (⟨[lkP x p], low', lkW x p width, kept, waiting, out⟩ : Enc) hlt hw1
    exact ⟨lkP x p, cnt + 1, s1, hok, by rw [s3]; simp only; omega, by rw [s2]; exact hc.2, .inr hc.1⟩
  | false =>
    rw [hb] at hc
    simp only [cond_false, Bool.and_eq_true] at hc
    have hge : ¬ lkW x p width < 16777216 := fun h9 => by rw [Nat.blt_eq.mpr h9] at hb; cases hb
    rw [settle_ge (⟨[lkP x p], low', lkW x p width, kept, waiting, out⟩ : Enc) hge] at hok ⊢
    exact ⟨lkP x p, cnt, rfl, hok, hlen, hc.2, .inr hc.1⟩
theorem good_bound {x i p cnt : Nat} (h : lkGood x i p cnt = true) : cnt + 1 ≤ 21 + i / 128 ∧ (if x = 0 then 1024 < p else p ≤ 1024) := by
  unfold lkGood at h
  simp only [Bool.and_eq_true] at h
  refine ⟨Nat.ble_eq.mp h.1, ?_⟩
  cases x with
  | zero => exact Nat.blt_eq.mp h.2
  | succ n => rw [if_neg (by omega)]; exact Nat.ble_eq.mp h.2
theorem lk_bytes (x i : Nat) (e : Enc) (p cnt : Nat) (h : LkInv x i e p cnt) : e.bytes.length ≤ 25 + i / 128 := by
  have h5 := shifts_ok e h.ok 5
  rw [← bytes_eq]
  have hl := h.len
  have h9 : cnt + 1 ≤ 21 + i / 128 := by
    rcases h.good with ⟨h1, h2⟩ | hg
    · omega
    · exact (good_bound hg).1
  omega

set_option maxRecDepth 8000 in
set_option maxHeartbeats 4000000 in
theorem walkRangerLikely (W : World) (x0 : Int) (_h0 : (Lit.int .i64 x0).wf = true) (x1 : Bool) :
    Calls Try.prog 3 #[.int .i64 x0, .bool x1] W fun e w' => e = .returned (.bool true) ∧ Below W.heap.size W w' := by
  have hx := inKind_i64 (inKind_wf _h0)
  clear _h0
  have HNW := Lib.hid (new_is W 1 (by omega))
  obtain ⟨n, hn, hn3⟩ : ∃ n : Nat, (wrap64 (x0.tmod 3000 + 3000)).tmod 3000 = (n : Int) ∧ n < 3000 := by
    have h1 := Int.tmod_lt_of_pos x0 (show (0 : Int) < 3000 by omega)
    have h2 := Int.lt_tmod_of_pos x0 (show (0 : Int) < 3000 by omega)
    generalize x0.tmod 3000 = y at *
    have hw : wrap64 (y + 3000) = y + 3000 := by unfold wrap64; omega
    rw [hw, Int.tmod_eq_emod_of_nonneg (by omega)]
    exact ⟨((y + 3000) % 3000).toNat, by omega, by omega⟩
  clear hx
  cases x1
  · go_enter Try.func3, Try.ntmps3
    go_wp2_with fail
    refine HNW.out.mono ?_
    rintro e w1 ⟨g, gc, rfl, hg, hgc, hE, hG⟩
    have HE0 := Lib.hid hE
    have HG0 := Lib.hid hG
    clear hE hG HNW
    clear hn
    go_wp2_with fail
    go_loopw [9, 10] (fun vi _ wr => ∃ (i : Nat) (vo : Value) (e : Enc) (p cnt : Nat), vi = .int .i64 i ∧ i ≤ n ∧ Hid (EncAt wr g gc 1 vo e) ∧ Hid (LkInv 0 i e p cnt) ∧ Hid (∀ b, vo.ownBlock = some b → W.heap.size ≤ b) ∧ Hid (Grow W wr)) (fun vi _ _ => n - (intOf vi).toNat)
    case atStart => exact ⟨0, _, _, 1024, 0, rfl, by omega, HE0.out, lk_new 0 (by omega), fun b hb => by simp [Value.ownBlock] at hb, HG0.out⟩
    case round =>
      clear HE0 HG0
      obtain ⟨i, vo, e, p, cnt, rfl, hi, HE, HL, HF, HG⟩ := hrel
      have hcl : e.ch.length = 1 := by rw [HL.out.ch]; rfl
      have HCL := Lib.hid hcl
      clear hcl
      have hlen : e.out.length + e.waiting ≤ 1000000 := by
        have h1 := HL.out.len
        have h9 : cnt + 1 ≤ 21 + i / 128 := by
          rcases HL.out.good with ⟨h1, h2⟩ | hg
          · omega
          · exact (good_bound hg).1
        omega
      have HLEN := Lib.hid hlen
      clear hlen
      by_cases hin : i < n
      · obtain ⟨p', cnt', hl2⟩ := lk_step 0 i e p cnt HL.out (by omega) (by omega)
        have HL2 := Lib.hid hl2
        have hgd := (good_bound (by rcases hl2.good with ⟨h, _⟩ | h; exact absurd h (by omega); exact h)).2
        have hch2 := hl2.ch
        have hok2 := hl2.ok
        have hpr := hok2.ch p' (by rw [hch2]; exact List.mem_singleton.2 rfl)
        have HC := Lib.hid (bit_is wr g gc 1 vo e HE.out HL.out.ok 0 0 (by rw [HCL.out]; omega) (by rw [HCL.out]; omega) (by omega) (by have := HLEN.out; omega))
        have HCH := Lib.hid hch2
        generalize e.put 0 0 = E at *
        clear hl2 hch2 hok2
        go_wp2_with fail
        refine HC.out.mono ?_
        rintro x w2 ⟨rfl, vo2, h2, hk2, hm2⟩
        have H2 := Lib.hid h2
        have HF2 : Hid (∀ b, vo2.ownBlock = some b → W.heap.size ≤ b) := fun b hb => by
          rcases hm2 with h9 | ⟨j, h9, hj⟩
          · rw [h9] at hb; exact HF.out b hb
          · rw [h9] at hb; injection hb with hb; have := HG.out.size; omega
        have HG2 : Hid (Grow W w2) := Keeps.trans HG.out hk2 fun j hj h => by
          rcases h with h | h | h
          · omega
          · omega
          · have := HF.out j h; omega
        clear h2 hk2 hm2 HC
        have HCC := Lib.hid (chances_is w2 g gc 1 vo2 E H2.out (by rw [HCH.out]; intro q hq; rw [List.mem_singleton.1 hq]; exact hpr) (by rw [HCH.out]; simp))
        go_wp2_with fail
        refine HCC.out.mono ?_
        rw [HCH.out]
        rintro x w3 ⟨A3, c3, rfl, ho3, hg3⟩
        have hcell : ∃ b3, A3 = some ⟨b3, 0, none⟩ ∧ w3.cell? ⟨b3, 0, none⟩ = some (.int .i64 (p' : Nat)) := by
          rcases ho3.2 with ⟨hv, h0⟩ | ⟨g9, cap, cur, hv, _, hh, _⟩
          · simp at h0
          · injection hv with hv
            subst hv
            have h9 := ho3.cellAt 0 (by simp)
            exact ⟨g9, rfl, by simpa [toI] using h9⟩
        obtain ⟨b3, rfl, hc3⟩ := hcell
        have H3 := Lib.hid (H2.out.keep hg3 (fun h => h) (fun h => h) (fun _ _ h => h))
        have HG3 : Hid (Grow W w3) := Keeps.trans HG2.out hg3 fun _ _ h => h
        clear ho3 hg3 HCC
        have hp31 : 31 ≤ p' := hpr.1
        have hp20 : p' ≤ 2017 := hpr.2
        have hgd2 : 1024 < p' := by simpa using hgd
        have t1 : decide ((p' : Int) < 31) = false := by simp; omega
        have t2 : decide ((2017 : Int) < (p' : Int)) = false := by simp; omega
        have t3 : decide ((1024 : Int) < (p' : Int)) = true := by simp; omega
        clear hgd hpr hp31 hp20 hgd2
        simp only [List.length_singleton]
        go_wp2_with fail
        go_roundw
        case rel => exact ⟨i + 1, vo2, E, p', cnt', by go_num, by omega, H3.out, HL2.out, HF2.out, HG3.out⟩
        case measure => simp [intOf]; omega
      · obtain rfl : n = i := by omega
        have HB := Lib.hid (bytes_is wr g gc 1 vo e HE.out HL.out.ok (by have := HLEN.out; omega))
        have hbl := lk_bytes 0 n e p cnt HL.out
        generalize e.bytes.length = bl at *
        go_wp2_with fail
        refine HB.out.mono ?_
        rintro x w2 ⟨A2, c2, rfl, ho2, hg2⟩
        have HG2 : Hid (Grow W w2) := Keeps.trans HG.out hg2 fun _ _ h => h
        have hbi : (bl : Int) ≤ 25 + (n : Int) / 128 := by omega
        have hbd : decide ((bl : Int) ≤ 25 + (n : Int) / 128) = true := decide_eq_true hbi
        clear ho2 hg2 HB hbl
        go_wp2_with fail
        go_ret
        exact ⟨rfl, Keeps.below HG2.out (fun _ _ h => h) (Nat.le_refl _)⟩
  · go_enter Try.func3, Try.ntmps3
    go_wp2_with fail
    refine HNW.out.mono ?_
    rintro e w1 ⟨g, gc, rfl, hg, hgc, hE, hG⟩
    have HE0 := Lib.hid hE
    have HG0 := Lib.hid hG
    clear hE hG HNW
    clear hn
    go_wp2_with fail
    go_loopw [9, 10] (fun vi _ wr => ∃ (i : Nat) (vo : Value) (e : Enc) (p cnt : Nat), vi = .int .i64 i ∧ i ≤ n ∧ Hid (EncAt wr g gc 1 vo e) ∧ Hid (LkInv 1 i e p cnt) ∧ Hid (∀ b, vo.ownBlock = some b → W.heap.size ≤ b) ∧ Hid (Grow W wr)) (fun vi _ _ => n - (intOf vi).toNat)
    case atStart => exact ⟨0, _, _, 1024, 0, rfl, by omega, HE0.out, lk_new 1 (by omega), fun b hb => by simp [Value.ownBlock] at hb, HG0.out⟩
    case round =>
      clear HE0 HG0
      obtain ⟨i, vo, e, p, cnt, rfl, hi, HE, HL, HF, HG⟩ := hrel
      have hcl : e.ch.length = 1 := by rw [HL.out.ch]; rfl
      have HCL := Lib.hid hcl
      clear hcl
      have hlen : e.out.length + e.waiting ≤ 1000000 := by
        have h1 := HL.out.len
        have h9 : cnt + 1 ≤ 21 + i / 128 := by
          rcases HL.out.good with ⟨h1, h2⟩ | hg
          · omega
          · exact (good_bound hg).1
        omega
      have HLEN := Lib.hid hlen
      clear hlen
      by_cases hin : i < n
      · obtain ⟨p', cnt', hl2⟩ := lk_step 1 i e p cnt HL.out (by omega) (by omega)
        have HL2 := Lib.hid hl2
        have hgd := (good_bound (by rcases hl2.good with ⟨h, _⟩ | h; exact absurd h (by omega); exact h)).2
        have hch2 := hl2.ch
        have hok2 := hl2.ok
        have hpr := hok2.ch p' (by rw [hch2]; exact List.mem_singleton.2 rfl)
        have HC := Lib.hid (bit_is wr g gc 1 vo e HE.out HL.out.ok 0 1 (by rw [HCL.out]; omega) (by rw [HCL.out]; omega) (by omega) (by have := HLEN.out; omega))
        have HCH := Lib.hid hch2
        generalize e.put 0 1 = E at *
        clear hl2 hch2 hok2
        go_wp2_with fail
        refine HC.out.mono ?_
        rintro x w2 ⟨rfl, vo2, h2, hk2, hm2⟩
        have H2 := Lib.hid h2
        have HF2 : Hid (∀ b, vo2.ownBlock = some b → W.heap.size ≤ b) := fun b hb => by
          rcases hm2 with h9 | ⟨j, h9, hj⟩
          · rw [h9] at hb; exact HF.out b hb
          · rw [h9] at hb; injection hb with hb; have := HG.out.size; omega
        have HG2 : Hid (Grow W w2) := Keeps.trans HG.out hk2 fun j hj h => by
          rcases h with h | h | h
          · omega
          · omega
          · have := HF.out j h; omega
        clear h2 hk2 hm2 HC
        have HCC := Lib.hid (chances_is w2 g gc 1 vo2 E H2.out (by rw [HCH.out]; intro q hq; rw [List.mem_singleton.1 hq]; exact hpr) (by rw [HCH.out]; simp))
        go_wp2_with fail
        refine HCC.out.mono ?_
        rw [HCH.out]
        rintro x w3 ⟨A3, c3, rfl, ho3, hg3⟩
        have hcell : ∃ b3, A3 = some ⟨b3, 0, none⟩ ∧ w3.cell? ⟨b3, 0, none⟩ = some (.int .i64 (p' : Nat)) := by
          rcases ho3.2 with ⟨hv, h0⟩ | ⟨g9, cap, cur, hv, _, hh, _⟩
          · simp at h0
          · injection hv with hv
            subst hv
            have h9 := ho3.cellAt 0 (by simp)
            exact ⟨g9, rfl, by simpa [toI] using h9⟩
        obtain ⟨b3, rfl, hc3⟩ := hcell
        have H3 := Lib.hid (H2.out.keep hg3 (fun h => h) (fun h => h) (fun _ _ h => h))
        have HG3 : Hid (Grow W w3) := Keeps.trans HG2.out hg3 fun _ _ h => h
        clear ho3 hg3 HCC
        have hp31 : 31 ≤ p' := hpr.1
        have hp20 : p' ≤ 2017 := hpr.2
        have hgd2 : p' ≤ 1024 := by simpa using hgd
        have t1 : decide ((p' : Int) < 31) = false := by simp; omega
        have t2 : decide ((2017 : Int) < (p' : Int)) = false := by simp; omega
        have t3 : decide ((1024 : Int) < (p' : Int)) = false := by simp; omega
        clear hgd hpr hp31 hp20 hgd2
        simp only [List.length_singleton]
        go_wp2_with fail
        go_roundw
        case rel => exact ⟨i + 1, vo2, E, p', cnt', by go_num, by omega, H3.out, HL2.out, HF2.out, HG3.out⟩
        case measure => simp [intOf]; omega
      · obtain rfl : n = i := by omega
        have HB := Lib.hid (bytes_is wr g gc 1 vo e HE.out HL.out.ok (by have := HLEN.out; omega))
        have hbl := lk_bytes 1 n e p cnt HL.out
        generalize e.bytes.length = bl at *
        go_wp2_with fail
        refine HB.out.mono ?_
        rintro x w2 ⟨A2, c2, rfl, ho2, hg2⟩
        have HG2 : Hid (Grow W w2) := Keeps.trans HG.out hg2 fun _ _ h => h
        have hbi : (bl : Int) ≤ 25 + (n : Int) / 128 := by omega
        have hbd : decide ((bl : Int) ≤ 25 + (n : Int) / 128) = true := decide_eq_true hbi
        clear ho2 hg2 HB hbl
        go_wp2_with fail
        go_ret
        exact ⟨rfl, Keeps.below HG2.out (fun _ _ h => h) (Nat.le_refl _)⟩
end Go.Proofs.Ytiikbpcaeoodjaa
