/- The decoder: Direct. -/
import Derived.Test.YtiikbpcaeoodjaaDcB
namespace Go.Proofs.Ytiikbpcaeoodjaa
open Go.RowKit
set_option linter.unusedVariables false
set_option linter.unusedSimpArgs false

namespace Dec
/-- A bit without a chance. -/
def hbit (d : Dec) : Nat := if d.width / 2 ≤ d.code then 1 else 0
def half (d : Dec) : Dec := ({ d with width := d.width / 2, code := d.code - d.width / 2 * d.hbit } : Dec).settle
def dirD (d : Dec) : Nat → Dec
  | 0 => d
  | n + 1 => if d.half.over then d.half else d.half.dirD n
def dirV (d : Dec) (v : Nat) : Nat → Nat
  | 0 => v
  | n + 1 => if d.half.over then 0 else d.half.dirV (2 * v + d.hbit) n
theorem dhalf_ok (d : Dec) (h : d.Ok) (ho : d.over = false) : d.half.Ok ∧ d.half.rest.length ≤ d.rest.length ∧ d.half.ch = d.ch := by
  have h1 := h.top ho
  have h2 := h.width
  have h3 := h.code
  obtain ⟨a, b⟩ := settle_ok ({ d with width := d.width / 2, code := d.code - d.width / 2 * d.hbit } : Dec) h.ch (by simp only; omega) (by simp only; omega) (by simp only; omega) h.rest
  exact ⟨a, b, settle_ch _⟩
theorem hbit_le (d : Dec) : d.hbit ≤ 1 := by unfold hbit; split <;> omega
theorem dirD_ok : ∀ (n : Nat) (d : Dec), d.Ok → d.over = false → (d.dirD n).Ok ∧ (d.dirD n).rest.length ≤ d.rest.length ∧ (d.dirD n).ch = d.ch
  | 0, d, h, _ => ⟨h, Nat.le_refl _, rfl⟩
  | n + 1, d, h, ho => by
    obtain ⟨a, b, c⟩ := dhalf_ok d h ho
    unfold dirD
    split
    · exact ⟨a, b, c⟩
    · rename_i hov
      obtain ⟨a1, b1, c1⟩ := dirD_ok n d.half a (by simpa using hov)
      exact ⟨a1, Nat.le_trans b1 b, c1.trans c⟩
end Dec

set_option maxRecDepth 8000 in
theorem dDirect_bad (w : World) (g gc cc : Nat) (RB : Nat → Prop) (A : Option Addr) (c : Nat) (d : Dec) (h : DecAt w g gc cc RB A c d) (n : Int) (hb : n < 0 ∨ 31 < n) :
    Calls Try.prog 32 #[.pointer (some ⟨g, 0, none⟩), .int .i64 n] w fun e' w' => e' = .returned (.tuple #[.int .i64 0, .int .i64 2]) ∧ w = w' := by
  have HN := Lib.hid (dNone_is w g gc cc RB A c d h)
  clear h
  go_enter Try.func32, Try.ntmps32
  go_wp2_with fail
  refine HN.out.mono ?_
  rintro x w1 ⟨rfl, rfl⟩
  by_cases h1 : n < 0
  · go_wp2_with fail
    go_ret2
    exact ⟨rfl, rfl⟩
  have h2 : 31 < n := by omega
  go_wp2_with fail
  go_ret2
  exact ⟨rfl, rfl⟩
set_option maxRecDepth 8000 in
theorem dDirect_over (w : World) (g gc cc : Nat) (RB : Nat → Prop) (A : Option Addr) (c : Nat) (d : Dec) (h : DecAt w g gc cc RB A c d) (ho : d.over = true) (n : Nat) (hn : n ≤ 31) :
    Calls Try.prog 32 #[.pointer (some ⟨g, 0, none⟩), .int .i64 n] w fun e' w' => e' = .returned (.tuple #[.int .i64 0, .int .i64 10]) ∧ w = w' := by
  have HN := Lib.hid (dNone_is w g gc cc RB A c d h)
  have d5 := blk_cell h.blk 5
  simp at d5
  rw [ho] at d5
  have t1 : decide ((n : Int) < 0) = false := by simp
  have t2 : decide ((31 : Int) < (n : Int)) = false := by simp; omega
  clear h ho
  go_enter Try.func32, Try.ntmps32
  go_wp2_with fail
  refine HN.out.mono ?_
  rintro x w1 ⟨rfl, rfl⟩
  go_wp2_with fail
  go_ret2
  exact ⟨rfl, rfl⟩

set_option maxRecDepth 8000 in
set_option maxHeartbeats 4000000 in
theorem dDirect_is (w : World) (g gc cc : Nat) (RB : Nat → Prop) (A : Option Addr) (c : Nat) (d : Dec) (h : DecAt w g gc cc RB A c d) (hok : d.Ok) (ho : d.over = false) (n : Nat) (hn : n ≤ 31) :
    Calls Try.prog 32 #[.pointer (some ⟨g, 0, none⟩), .int .i64 n] w fun e' w' => e' = .returned (.tuple #[.int .i64 (if (d.dirD n).over then 0 else d.dirV 0 n : Nat), .int .i64 (if (d.dirD n).over then 10 else 0 : Nat)]) ∧ DecTo2 w g gc cc RB (d.dirD n) w' := by
  have HN := Lib.hid (dNone_is w g gc cc RB A c d h)
  have d5 := blk_cell h.blk 5
  simp at d5
  rw [ho] at d5
  have t1 : decide ((n : Int) < 0) = false := by simp
  have t2 : decide ((31 : Int) < (n : Int)) = false := by simp; omega
  obtain ⟨D, hD⟩ : ∃ D, D = d.dirD n := ⟨_, rfl⟩
  obtain ⟨V, hV⟩ : ∃ V, V = d.dirV 0 n := ⟨_, rfl⟩
  rw [← hD, ← hV]
  obtain ⟨V1, hV1⟩ : ∃ V1 : Nat, V1 = if D.over then 0 else V := ⟨_, rfl⟩
  obtain ⟨E1, hE1⟩ : ∃ E1 : Nat, E1 = if D.over then 10 else 0 := ⟨_, rfl⟩
  rw [← hV1, ← hE1]
  have HD := Lib.hid hD
  have HV := Lib.hid hV
  have HV1 := Lib.hid hV1
  have HE1 := Lib.hid hE1
  have H := Lib.hid h
  have HOK := Lib.hid hok
  have HO := Lib.hid ho
  clear h hok ho hD hV hV1 hE1
  go_enter Try.func32, Try.ntmps32
  go_wp2_with fail
  refine HN.out.mono ?_
  rintro x w1 ⟨rfl, rfl⟩
  go_wp2_with fail
  clear t1 t2 d5
  go_loopw [6, 23] (fun vv vi wr => ∃ (i v : Nat) (A' : Option Addr) (c' : Nat) (d1 : Dec), i ≤ n ∧ vv = .int .i64 v ∧ vi = .int .i64 i ∧ Hid (DecAt wr g gc cc RB A' c' d1) ∧ Hid (d1.Ok ∧ d1.over = false ∧ d1.dirD (n - i) = D ∧ d1.dirV v (n - i) = V ∧ v < 2 ^ i) ∧ Hid (Keeps (fun k => k = g) w wr)) (fun _ vi _ => n - (intOf vi).toNat)
  case atStart => exact ⟨0, 0, A, c, d, by omega, rfl, rfl, H.out, ⟨HOK.out, HO.out, HD.out.symm, HV.out.symm, by decide⟩, Keeps.refl _ _⟩
  case round =>
    obtain ⟨i, v, A', c', d1, hi, rfl, rfl, H1, HX, HK⟩ := hrel
    by_cases hin : i < n
    · obtain ⟨hok1, ho1, hd1, hv1, hvb⟩ := HX.out
      obtain ⟨m, hm⟩ : ∃ m, n - i = m + 1 := ⟨n - i - 1, by omega⟩
      have hm2 : n - (i + 1) = m := by omega
      rw [hm] at hd1 hv1
      have hpw : 2 ^ (i + 1) ≤ 2 ^ 31 := Nat.pow_le_pow_right (by omega) (by omega)
      have hvi : (v : Int) < 1073741824 := by rw [Nat.pow_succ] at hpw; omega
      have HVB : Hid (v < 2 ^ i) := hvb
      obtain ⟨hko, hkr, hkc⟩ := Dec.dhalf_ok d1 hok1 ho1
      have hw1 := hok1.width
      have ht1 := hok1.top ho1
      have hc1 := hok1.code
      have hr1 := hok1.rest
      obtain ⟨S1, hS1⟩ : ∃ S1, S1 = d1.half := ⟨_, rfl⟩
      obtain ⟨b, hb⟩ : ∃ b, b = d1.hbit := ⟨_, rfl⟩
      have HD1 : Hid ((if S1.over then S1 else S1.dirD m) = D) := by show _ = _; rw [← hd1, hS1]; rfl
      have HV2 : Hid ((if S1.over then 0 else S1.dirV (2 * v + b) m) = V) := by show _ = _; rw [← hv1, hS1, hb]; rfl
      have HSK : Hid (S1.Ok) := by rw [hS1]; exact hko
      obtain ⟨ch, width, code, rest, over⟩ := d1
      simp only at ho1 hw1 ht1 hc1 hr1
      subst ho1
      obtain ⟨q, hq⟩ : ∃ q, q = width / 2 := ⟨_, rfl⟩
      have eq1 : (width : Int) / 2 = (q : Int) := by omega
      have HSE : Hid (S1 = (⟨ch, q, code - q * b, rest, false⟩ : Dec).settle) := by show _ = _; rw [hS1, hb, hq]; rfl
      have hbq : b = if q ≤ code then 1 else 0 := by rw [hb, hq]; rfl
      have hqi : (q : Int) < 4294967296 := by omega
      have HF := Lib.hid (And.intro hw1 (And.intro ht1 (And.intro hc1 (And.intro hq hr1))))
      have HM := Lib.hid hm2
      have d2 := blk_cell H1.out.blk 2
      have f2 := blk_frozen H1.out.blk 2
      simp at d2
      have HE2 : Hid (DecAt (wr.setCell ⟨g, 2, none⟩ (.int .u32 (q : Nat))) g gc cc RB A' c' ⟨ch, q, code, rest, false⟩) :=
        H1.out.re (d' := ⟨ch, q, code, rest, false⟩) ((Keeps.refl (fun k => k = g) wr).setCell (p := ⟨g, 2, none⟩) (fun _ => rfl) (.int .u32 (q : Nat))) (blk_set H1.out.blk 2 (.int .u32 (q : Nat))) rfl rfl
      have HK2 : Hid (Keeps (fun k => k = g) w (wr.setCell ⟨g, 2, none⟩ (.int .u32 (q : Nat)))) := HK.out.setCell (p := ⟨g, 2, none⟩) (fun _ => rfl) _
      clear hok1 hd1 hv1 hvb hm hm2 hpw hko hkr hkc hw1 ht1 hc1 hr1 hS1 hb hq HX
      go_wp2_with fail
      clear d2 f2 H1 HK
      generalize wr.setCell ⟨g, 2, none⟩ (.int .u32 (q : Nat)) = wq at *
      refine wp_region_seq (by kernel_rfl) (by kernel_rfl) ?_
      have HE3 := Lib.hid HE2.out.drew
      have HK3 : Hid (Keeps (fun k => k = g) w wq.drew) := HK2.out.drew
      clear HE2 HK2
      generalize wq.drew = wd at *
      have d2 := blk_cell HE3.out.blk 2
      have d3 := blk_cell HE3.out.blk 3
      simp at d2 d3
      clear eq1
      by_cases hge : q ≤ code
      · obtain rfl : b = 1 := by rw [hbq, if_pos hge]
        clear hbq
        have hdq : decide (q ≤ code) = true := decide_eq_true hge
        have hor : bits .or .i64 ((v : Int) * 2) 1 = ((2 * v + 1 : Nat) : Int) := or_low v 1 (by omega) (by omega)
        have HSUB : Hid (((code : Int) - (q : Int)) % 4294967296 = ((code - q : Nat) : Int)) := by have := HF.out.2.2.1; show _ = _; omega
        rw [Nat.mul_one] at HSE
        go_wp2_with fail
        refine ⟨by kernel_rfl, ?_⟩
        go_wp2_with fail
        refine wp_region_seq (by kernel_rfl) (by kernel_rfl) ?_
        have HE3b := Lib.hid HE3.out.drew
        have HK3b : Hid (Keeps (fun k => k = g) w wd.drew) := HK3.out.drew
        clear HE3 HK3 d2 d3
        generalize wd.drew = we at *
        have d2 := blk_cell HE3b.out.blk 2
        have d3 := blk_cell HE3b.out.blk 3
        have f3 := blk_frozen HE3b.out.blk 3
        simp at d2 d3
        go_wp2_with fail
        refine ⟨by kernel_rfl, ?_⟩
        simp only [HSUB.out]
        have HE4 : Hid (DecAt (we.setCell ⟨g, 3, none⟩ (.int .u32 ((code - q : Nat) : Int))) g gc cc RB A' c' ⟨ch, q, code - q, rest, false⟩) :=
          HE3b.out.re (d' := ⟨ch, q, code - q, rest, false⟩) ((Keeps.refl (fun k => k = g) we).setCell (p := ⟨g, 3, none⟩) (fun _ => rfl) (.int .u32 ((code - q : Nat) : Int))) (blk_set HE3b.out.blk 3 (.int .u32 ((code - q : Nat) : Int))) rfl rfl
        have HK4 : Hid (Keeps (fun k => k = g) w (we.setCell ⟨g, 3, none⟩ (.int .u32 ((code - q : Nat) : Int)))) := HK3b.out.setCell (p := ⟨g, 3, none⟩) (fun _ => rfl) _
        clear d2 d3 f3 HE3b HK3b hqi hge hdq
        have HSET := Lib.hid (dSettle_is _ g gc cc RB A' c' _ HE4.out rfl (by obtain ⟨h1, h2, h3, h4, h5⟩ := HF.out; simp only; omega) (by obtain ⟨h1, h2, h3, h4, h5⟩ := HF.out; simp only; omega) (by obtain ⟨h1, h2, h3, h4, h5⟩ := HF.out; simp only; omega) HF.out.2.2.2.2)
        rw [← HSE.out] at HSET
        go_wp2_with fail
        refine HSET.out.mono ?_
        rintro x w5 ⟨rfl, A5, c5, h5, hk5⟩
        have HE5 := Lib.hid h5
        have HK5 : Hid (Keeps (fun k => k = g) w w5) := Keeps.trans HK4.out hk5 fun _ _ h => h
        clear h5 hk5 HSET HE4 HK4
        cases hso : S1.over
        · have HD2 : Hid (S1.dirD m = D) := by have h := HD1.out; rw [hso] at h; exact h
          have HV3 : Hid (S1.dirV (2 * v + 1) m = V) := by have h := HV2.out; rw [hso] at h; exact h
          have HSO := Lib.hid hso
          go_wp2_with fail
          go_roundw
          case rel => exact ⟨i + 1, 2 * v + 1, A5, c5, S1, by omega, by go_num, by go_num, HE5.out, ⟨HSK.out, HSO.out, by rw [HM.out]; exact HD2.out, by rw [HM.out]; exact HV3.out, by have := HVB.out; rw [Nat.pow_succ]; omega⟩, HK5.out⟩
          case measure => simp [intOf]; omega
        · have HD2 : Hid (S1 = D) := by have h := HD1.out; rw [hso] at h; exact h
          have HSO := Lib.hid hso
          go_wp2_with fail
          go_ret2
          exact ⟨by rw [HV1.out, HE1.out, ← HD2.out, HSO.out]; rfl, A5, c5, by rw [← HD2.out]; exact HE5.out, HK5.out.mono fun _ _ h => .inl h⟩
      · obtain rfl : b = 0 := by rw [hbq, if_neg hge]
        clear hbq
        have hdq : decide (q ≤ code) = false := decide_eq_false hge
        rw [Nat.mul_zero, Nat.sub_zero] at HSE
        go_wp2_with fail
        refine ⟨by kernel_rfl, ?_⟩
        have HE4 := HE3
        have HK4 := HK3
        clear HE3 HK3 d2 d3 hqi hge hdq
        have HSET := Lib.hid (dSettle_is _ g gc cc RB A' c' _ HE4.out rfl (by obtain ⟨h1, h2, h3, h4, h5⟩ := HF.out; simp only; omega) (by obtain ⟨h1, h2, h3, h4, h5⟩ := HF.out; simp only; omega) (by obtain ⟨h1, h2, h3, h4, h5⟩ := HF.out; simp only; omega) HF.out.2.2.2.2)
        rw [← HSE.out] at HSET
        go_wp2_with fail
        refine HSET.out.mono ?_
        rintro x w5 ⟨rfl, A5, c5, h5, hk5⟩
        have HE5 := Lib.hid h5
        have HK5 : Hid (Keeps (fun k => k = g) w w5) := Keeps.trans HK4.out hk5 fun _ _ h => h
        clear h5 hk5 HSET HE4 HK4
        cases hso : S1.over
        · have HD2 : Hid (S1.dirD m = D) := by have h := HD1.out; rw [hso] at h; exact h
          have HV3 : Hid (S1.dirV (2 * v + 0) m = V) := by have h := HV2.out; rw [hso] at h; exact h
          have HSO := Lib.hid hso
          go_wp2_with fail
          go_roundw
          case rel => exact ⟨i + 1, 2 * v + 0, A5, c5, S1, by omega, by go_num, by go_num, HE5.out, ⟨HSK.out, HSO.out, by rw [HM.out]; exact HD2.out, by rw [HM.out]; exact HV3.out, by have := HVB.out; rw [Nat.pow_succ]; omega⟩, HK5.out⟩
          case measure => simp [intOf]; omega
        · have HD2 : Hid (S1 = D) := by have h := HD1.out; rw [hso] at h; exact h
          have HSO := Lib.hid hso
          go_wp2_with fail
          go_ret2
          exact ⟨by rw [HV1.out, HE1.out, ← HD2.out, HSO.out]; rfl, A5, c5, by rw [← HD2.out]; exact HE5.out, HK5.out.mono fun _ _ h => .inl h⟩
    · obtain rfl : n = i := by omega
      have hd : D = d1 := by
        have h1 := HX.out.2.2.1
        rw [Nat.sub_self] at h1
        exact h1.symm
      have hv : V = v := by
        have h1 := HX.out.2.2.2.1
        rw [Nat.sub_self] at h1
        exact h1.symm
      have ho := HX.out.2.1
      rw [← hd] at ho
      have HO9 := Lib.hid ho
      have HVV := Lib.hid hv
      have HDD := Lib.hid hd
      clear HD HV hd hv ho
      go_wp2_with fail
      go_ret2
      exact ⟨by rw [HV1.out, HE1.out, HO9.out, HVV.out]; rfl, A', c', by rw [HDD.out]; exact H1.out, HK.out.mono fun _ _ h => .inl h⟩
end Go.Proofs.Ytiikbpcaeoodjaa
