/- The encoder: Direct. -/
import Derived.Test.YtiikbpcaeoodjaaEnM
namespace Go.Proofs.Ytiikbpcaeoodjaa
open Go.RowKit
set_option linter.unusedVariables false
set_option linter.unusedSimpArgs false

namespace Enc
theorem half_ok (e : Enc) (h : e.Ok) (b : Nat) (hb : b ≤ 1) : (({ e with width := e.width / 2, low := e.low + e.width / 2 * b } : Enc).settle).Ok ∧
    (({ e with width := e.width / 2, low := e.low + e.width / 2 * b } : Enc).settle).ch = e.ch ∧
    (({ e with width := e.width / 2, low := e.low + e.width / 2 * b } : Enc).settle).out.length + (({ e with width := e.width / 2, low := e.low + e.width / 2 * b } : Enc).settle).waiting ≤ e.out.length + e.waiting + 1 := by
  have h1 := h.top
  have h2 := h.sum
  have h3 := h.width
  have h4 : e.width / 2 * b ≤ e.width / 2 := by
    rcases (show b = 0 ∨ b = 1 by omega) with rfl | rfl <;> omega
  refine ⟨settle_ok _ h.ch (by simp only; omega) (by simp only; omega) (by simp only; omega) h.kept h.waiting h.out, settle_ch _, settle_len _ h.waiting⟩
theorem direct_step (e : Enc) (v n : Nat) : e.direct v (n + 1) = (({ e with width := e.width / 2, low := e.low + e.width / 2 * (v / 2 ^ n % 2) } : Enc).settle).direct v n := rfl
theorem direct_ok (v : Nat) : ∀ (n : Nat) (e : Enc), e.Ok → (e.direct v n).Ok ∧ (e.direct v n).ch = e.ch ∧ (e.direct v n).out.length + (e.direct v n).waiting ≤ e.out.length + e.waiting + n
  | 0, e, h => ⟨h, rfl, Nat.le_refl _⟩
  | n + 1, e, h => by
    obtain ⟨h1, h2, h3⟩ := half_ok e h (v / 2 ^ n % 2) (by have := Nat.mod_lt (v / 2 ^ n) (show 2 > 0 by omega); omega)
    obtain ⟨h4, h5, h6⟩ := direct_ok v n _ h1
    rw [direct_step]
    exact ⟨h4, h5.trans h2, by omega⟩
end Enc
theorem and1_i64 (x : Int) (h0 : 0 ≤ x) (h1 : x < 4611686018427387904) : bits .and .i64 x 1 = x % 2 :=
  bits_mask .i64 62 (by decide) (fun m a b => by rw [IntKind.wrap_i64]; omega) 1 (by decide) x h0 (by omega)

set_option maxRecDepth 8000 in
theorem direct_bad (w : World) (g gc cc : Nat) (vo : Value) (e : Enc) (h : EncAt w g gc cc vo e) (v n : Int) (hb : n < 0 ∨ 31 < n ∨ v < 0 ∨ (0 ≤ n ∧ n ≤ 31 ∧ 0 ≤ v ∧ v / 2 ^ n.toNat ≠ 0)) :
    Calls Try.prog 18 #[.pointer (some ⟨g, 0, none⟩), .int .i64 v, .int .i64 n] w fun e' w' => e' = .returned (.int .i64 2) ∧ w = w' := by
  have HN := Lib.hid (none_is w g gc cc vo e h)
  clear h
  go_enter Try.func18, Try.ntmps18
  go_wp2_with fail
  refine HN.out.mono ?_
  rintro x w1 ⟨rfl, rfl⟩
  by_cases h1 : n < 0
  · go_wp2_with fail
    go_ret
    exact ⟨rfl, rfl⟩
  by_cases h2 : 31 < n
  · go_wp2_with fail
    go_ret
    exact ⟨rfl, rfl⟩
  by_cases h3 : v < 0
  · go_wp2_with fail
    go_ret
    exact ⟨rfl, rfl⟩
  obtain ⟨m, rfl⟩ : ∃ m : Nat, n = (m : Int) := ⟨n.toNat, by omega⟩
  have h4 : v / 2 ^ m ≠ 0 := by
    rcases hb with h | h | h | ⟨_, _, _, h⟩
    · omega
    · omega
    · omega
    · simpa using h
  have h5 : (v / 2 ^ m != 0) = true := by simpa using h4
  clear hb h4
  go_wp2_with fail
  go_ret
  exact ⟨rfl, rfl⟩

set_option maxRecDepth 8000 in
set_option maxHeartbeats 4000000 in
theorem direct_is (w : World) (g gc cc : Nat) (vo : Value) (e : Enc) (h : EncAt w g gc cc vo e) (hok : e.Ok) (v n : Nat) (hn : n ≤ 31) (hv : v / 2 ^ n = 0) (hb : e.out.length + e.waiting ≤ 99999999999900) :
    Calls Try.prog 18 #[.pointer (some ⟨g, 0, none⟩), .int .i64 v, .int .i64 n] w fun e' w' => e' = .returned (.int .i64 0) ∧ EncTo2 w g gc cc vo (e.direct v n) w' := by
  have HN := Lib.hid (none_is w g gc cc vo e h)
  have H := Lib.hid h
  have HOK := Lib.hid hok
  have HB := Lib.hid hb
  have hv2 : v < 2147483648 := by
    have h1 : v < 2 ^ n := by
      rcases Nat.lt_or_ge v (2 ^ n) with h | h
      · exact h
      · have := Nat.div_pos h (Nat.two_pow_pos n); omega
    have h2 : 2 ^ n ≤ 2 ^ 31 := Nat.pow_le_pow_right (by omega) hn
    omega
  have HV2 := Lib.hid hv2
  have hvi : (v : Int) / 2 ^ n = 0 := by
    have h1 : ((v / 2 ^ n : Nat) : Int) = ((v : Int) / ((2 ^ n : Nat) : Int)) := Int.natCast_ediv v (2 ^ n)
    rw [hv] at h1
    rw [Int.natCast_pow] at h1
    exact h1.symm
  have t1 : decide ((n : Int) < 0) = false := by simp
  have t2 : decide ((31 : Int) < (n : Int)) = false := by simp; omega
  have t3 : decide ((v : Int) < 0) = false := by simp
  obtain ⟨E, hE⟩ : ∃ E, E = e.direct v n := ⟨_, rfl⟩
  have HE := Lib.hid hE
  rw [← hE]
  clear h hok hb hE hv hv2
  go_enter Try.func18, Try.ntmps18
  go_wp2_with fail
  refine HN.out.mono ?_
  rintro x w1 ⟨rfl, rfl⟩
  go_wp2_with fail
  clear t1 t2 t3 hvi
  go_loopw [29] (fun vi wr => ∃ (i : Nat) (vo' : Value) (e1 : Enc), i ≤ n ∧ vi = .int .i64 i ∧ Hid (EncAt wr g gc cc vo' e1) ∧ Hid (e1.Ok ∧ e1.ch = e.ch ∧ e1.direct v (n - i) = E ∧ e1.out.length + e1.waiting ≤ e.out.length + e.waiting + i) ∧ Hid (Keeps (fun k => k = g ∨ vo.ownBlock = some k) w wr) ∧ Hid (Moved w vo vo')) (fun vi _ => n - (intOf vi).toNat)
  case atStart => exact ⟨0, vo, e, by omega, rfl, H.out, ⟨HOK.out, rfl, HE.out.symm, by omega⟩, Keeps.refl _ _, Moved.refl _ _⟩
  case round =>
    obtain ⟨i, vo', e1, hi, rfl, H1, HX, HK, HM⟩ := hrel
    by_cases hin : i < n
    · obtain ⟨hok1, hch1, hd1, hl1⟩ := HX.out
      obtain ⟨m, hm⟩ : ∃ m, m = n - 1 - i := ⟨_, rfl⟩
      have hm1 : n - i = m + 1 := by omega
      have hm2 : n - (i + 1) = m := by omega
      have em : (n : Int) - 1 - (i : Int) = (m : Int) := by omega
      rw [hm1, Enc.direct_step] at hd1
      obtain ⟨b, hbb⟩ : ∃ b, b = v / 2 ^ m % 2 := ⟨_, rfl⟩
      have hb1 : b ≤ 1 := by have := Nat.mod_lt (v / 2 ^ m) (show 2 > 0 by omega); omega
      rw [← hbb] at hd1
      obtain ⟨hok2, hch2, hl2⟩ := Enc.half_ok e1 hok1 b hb1
      have hs1 := hok1.sum
      have hw1 := hok1.width
      have ht1 := hok1.top
      have hk1 := hok1.kept
      have hwt1 := hok1.waiting
      have ebit : bits .and .i64 ((v : Int) / 2 ^ m) 1 = (b : Int) := by
        obtain ⟨y, hy⟩ : ∃ y, y = v / 2 ^ m := ⟨_, rfl⟩
        have h1 : (v : Int) / 2 ^ m = (y : Int) := by rw [hy, Int.natCast_ediv, Int.natCast_pow]; rfl
        have hyv : y ≤ v := by rw [hy]; exact Nat.div_le_self _ _
        have h3 := HV2.out
        rw [h1, and1_i64 _ (by omega) (by omega), hbb, ← hy]
        omega
      obtain ⟨ch, low, width, kept, waiting, out⟩ := e1
      simp only at hd1 hch1 hl1 hok2 hch2 hl2 hs1 hw1 ht1 hk1 hwt1
      obtain ⟨B, hB⟩ : ∃ B, B = width / 2 * b := ⟨_, rfl⟩
      have hBle : B ≤ width / 2 := by
        rw [hB]
        rcases (show b = 0 ∨ b = 1 by omega) with h | h <;> rw [h] <;> omega
      rw [← hB] at hd1 hok2 hch2 hl2
      obtain ⟨q, hq⟩ : ∃ q, q = width / 2 := ⟨_, rfl⟩
      have eq1 : (width : Int) / 2 = (q : Int) := by omega
      have eqb : (q : Int) * (b : Int) = (B : Int) := by rw [hB, hq, Int.natCast_mul]
      rw [← hq] at hd1 hok2 hch2 hl2 hBle
      have ew1 : IntKind.u64.wrap (b : Int) = (b : Int) := by rw [IntKind.wrap_u64]; omega
      have ew2 : IntKind.u64.wrap ((q : Int) * (b : Int)) = (B : Int) := by rw [eqb, IntKind.wrap_u64]; omega
      have ew3 : IntKind.u64.wrap ((low : Int) + (B : Int)) = (low : Int) + (B : Int) := by rw [IntKind.wrap_u64]; omega
      have hqi : (q : Int) < 4294967296 := by omega
      have hBi : (B : Int) < 4294967296 := by omega
      have hlB : (low : Int) + (B : Int) < 8589934592 := by omega
      have HF := Lib.hid (And.intro hs1 (And.intro hw1 (And.intro ht1 (And.intro hk1 (And.intro hwt1 (And.intro hBle hq))))))
      have HD := Lib.hid (And.intro hd1 (And.intro hok2 (And.intro hch2 (And.intro hl2 (And.intro hch1 hl1)))))
      have HM2 := Lib.hid hm2
      have d2 := blk_cell H1.out.blk 2
      have d3 := blk_cell H1.out.blk 3
      have f2 := blk_frozen H1.out.blk 2
      have f3 := blk_frozen H1.out.blk 3
      simp at d2 d3
      clear hs1 hw1 ht1 hk1 hwt1 hBle hq hd1 hok2 hch2 hl2 hch1 hl1 hok1 HX hm hm1 hm2 hbb hB hb1 eqb
      have HE2 : Hid (EncAt (wr.setCell ⟨g, 3, none⟩ (.int .u32 (q : Nat))) g gc cc vo' ⟨ch, low, q, kept, waiting, out⟩) :=
        enc_re H1.out ((Keeps.refl (fun k => k = g) wr).setCell (p := ⟨g, 3, none⟩) (fun _ => rfl) (.int .u32 (q : Nat))) (blk_set H1.out.blk 3 (.int .u32 (q : Nat))) rfl rfl
      have HK2 : Hid (Keeps (fun k => k = g ∨ vo.ownBlock = some k) w (wr.setCell ⟨g, 3, none⟩ (.int .u32 (q : Nat)))) := HK.out.setCell (p := ⟨g, 3, none⟩) (fun _ => .inl rfl) _
      go_wp2_with fail
      clear d2 d3 f2 f3 HK H1
      generalize wr.setCell ⟨g, 3, none⟩ (.int .u32 (q : Nat)) = wq at *
      refine wp_region_seq (by kernel_rfl) (by kernel_rfl) ?_
      have HE3 := Lib.hid HE2.out.drew
      have HK3 : Hid (Keeps (fun k => k = g ∨ vo.ownBlock = some k) w wq.drew) := HK2.out.drew
      clear HE2 HK2
      generalize wq.drew = wd at *
      have d2 := blk_cell HE3.out.blk 2
      have d3 := blk_cell HE3.out.blk 3
      have f2 := blk_frozen HE3.out.blk 2
      simp at d2 d3
      go_wp2_with fail
      refine ⟨by kernel_rfl, ?_⟩
      have HE4 : Hid (EncAt (wd.setCell ⟨g, 2, none⟩ (.int .u64 ((low : Int) + (B : Int)))) g gc cc vo' ⟨ch, low + B, q, kept, waiting, out⟩) :=
        enc_re HE3.out ((Keeps.refl (fun k => k = g) wd).setCell (p := ⟨g, 2, none⟩) (fun _ => rfl) (.int .u64 ((low : Int) + (B : Int)))) (by have h9 := blk_set HE3.out.blk 2 (.int .u64 ((low : Int) + (B : Int))); rw [show ((low : Int) + (B : Int)) = ((low + B : Nat) : Int) by omega] at h9 ⊢; exact h9) rfl rfl
      have HK4 : Hid (Keeps (fun k => k = g ∨ vo.ownBlock = some k) w (wd.setCell ⟨g, 2, none⟩ (.int .u64 ((low : Int) + (B : Int))))) := HK3.out.setCell (p := ⟨g, 2, none⟩) (fun _ => .inl rfl) _
      have HS := Lib.hid (settle_is _ g gc cc vo' _ HE4.out (by obtain ⟨h1, h2, h3, h4, h5, h6, h7⟩ := HF.out; simp only; omega) (by obtain ⟨h1, h2, h3, h4, h5, h6, h7⟩ := HF.out; simp only; omega) (by obtain ⟨h1, h2, h3, h4, h5, h6, h7⟩ := HF.out; simp only; omega) HF.out.2.2.2.1 HF.out.2.2.2.2.1 (by have h1 := HD.out.2.2.2.2.2; have h2 := HB.out; simp only; omega))
      go_wp2_with fail
      refine HS.out.mono ?_
      rintro x w4 ⟨rfl, vo4, h4, hk4, hm4⟩
      have H4 := Lib.hid h4
      have HK5 : Hid (Keeps (fun k => k = g ∨ vo.ownBlock = some k) w w4) := Keeps.trans HK4.out hk4 fun i hi h => by
        rcases h with h | h
        · exact .inl h
        · rcases HM.out with h9 | ⟨j, h9, hj⟩
          · rw [h9] at h; exact .inr h
          · rw [h9] at h; injection h with h; omega
      have HM5 : Hid (Moved w vo vo4) := HM.out.trans hm4 HK4.out.size
      clear h4 hk4 hm4 HS HE4 HK4 HE3 HK3 d2 d3 f2
      go_wp2_with fail
      go_roundw
      case rel => exact ⟨i + 1, vo4, _, by omega, by go_num, H4.out, ⟨HD.out.2.1, HD.out.2.2.1.trans HD.out.2.2.2.2.1, by rw [HM2.out]; exact HD.out.1, by have h1 := HD.out.2.2.2.1; have h2 := HD.out.2.2.2.2.2; omega⟩, HK5.out, HM5.out⟩
      case measure => simp [intOf]; omega
    · obtain rfl : n = i := by omega
      have hE : E = e1 := by
        have h1 := HX.out.2.2.1
        rw [Nat.sub_self] at h1
        exact h1.symm
      subst hE
      clear HX HE
      go_wp2_with fail
      go_ret
      exact ⟨rfl, vo', H1.out, HK.out.mono (fun _ _ h => h.elim .inl fun h => .inr (.inr h)), HM.out⟩
end Go.Proofs.Ytiikbpcaeoodjaa
