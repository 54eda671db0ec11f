/- The document's encoder: Bit, Direct, May, Tree. -/
import Derived.Test.YtiikbpcaeoodjaaRfC
namespace Go.Proofs.Ytiikbpcaeoodjaa
open Go.RowKit
set_option linter.unusedVariables false
set_option linter.unusedSimpArgs false

set_option maxRecDepth 8000 in
theorem refBit_bad (w : World) (g : Nat) (vc vo : Value) (e : Enc) (h : RefAt w g vc vo e) (i bit : Int) (hb : i < 0 ∨ (e.ch.length : Int) ≤ i ∨ bit < 0 ∨ 1 < bit) :
    Calls Try.prog 17 #[.pointer (some ⟨g, 0, none⟩), .int .i64 i, .int .i64 bit] w fun e' w' => e' = .returned (.int .i64 2) ∧ w = w' := by
  obtain ⟨A, c, hv⟩ := rowf h.chs
  have d0 := blk_cell h.blk 0
  simp at d0
  rw [hv] at d0
  clear hv h
  generalize e.ch.length = n at *
  by_cases h1 : i < 0
  · go_enter Try.func17, Try.ntmps17
    go_wp2_with fail
    go_ret
    exact ⟨rfl, rfl⟩
  by_cases h1 : (n : Int) ≤ i
  · go_enter Try.func17, Try.ntmps17
    go_wp2_with fail
    go_ret
    exact ⟨rfl, rfl⟩
  by_cases h1 : bit < 0
  · go_enter Try.func17, Try.ntmps17
    go_wp2_with fail
    go_ret
    exact ⟨rfl, rfl⟩
  have h4 : 1 < bit := by omega
  go_enter Try.func17, Try.ntmps17
  go_wp2_with fail
  go_ret
  exact ⟨rfl, rfl⟩
set_option maxRecDepth 8000 in
theorem refBit_is (w : World) (g : Nat) (vc vo : Value) (e : Enc) (h : RefAt w g vc vo e) (hok : e.Ok) (i bit : Nat) (hi : i < e.ch.length) (hn : e.ch.length ≤ 65536) (hbit : bit ≤ 1) (hb : e.out.length + e.waiting ≤ 99999999999999) :
    Calls Try.prog 17 #[.pointer (some ⟨g, 0, none⟩), .int .i64 i, .int .i64 bit] w fun e' w' => e' = .returned (.int .i64 0) ∧ RefTo2 w g vc vo (e.put i bit) w' := by
  have HC := Lib.hid (refPut_is w g vc vo e h hok i bit hi hn hbit hb)
  obtain ⟨A, c, hv⟩ := rowf h.chs
  have d0 := blk_cell h.blk 0
  simp at d0
  rw [hv] at d0
  clear hv h
  generalize e.ch.length = n at *
  generalize e.put i bit = E at *
  clear hok hb hn
  have hb2 : ¬ (1 : Int) < (bit : Int) := by omega
  have hb3 : ¬ (n : Int) ≤ (i : Int) := by omega
  go_enter Try.func17, Try.ntmps17
  go_wp2_with fail
  refine HC.out.mono ?_
  rintro x w1 ⟨rfl, hE⟩
  have HE := Lib.hid hE
  clear hE
  go_wp2_with fail
  go_ret
  exact ⟨rfl, HE.out⟩

theorem pow2_le (v m : Nat) (h : v / 2 ^ m ≠ 0) : 2 ^ m ≤ v := by
  rcases Nat.lt_or_ge v (2 ^ m) with h1 | h1
  · rw [Nat.div_eq_of_lt h1] at h; exact absurd rfl h
  · exact h1
theorem pow2_lt (v m : Nat) (h : v / 2 ^ m = 0) : v < 2 ^ m := by
  rcases Nat.lt_or_ge v (2 ^ m) with h1 | h1
  · exact h1
  · have := Nat.div_pos h1 (Nat.two_pow_pos m); omega
theorem powI (m : Nat) : ((2 : Int) ^ m) = ((2 ^ m : Nat) : Int) := by rw [Int.natCast_pow]; rfl
theorem wrap_pow (m : Nat) (h : m ≤ 31) : IntKind.i64.wrap (2 ^ m) = 2 ^ m := by
  have h1 : 2 ^ m ≤ 2 ^ 31 := Nat.pow_le_pow_right (by omega) h
  rw [powI]
  generalize 2 ^ m = z at *
  rw [IntKind.wrap_i64]
  omega

set_option maxRecDepth 8000 in
theorem refDirect_bad (w : World) (g : Nat) (v n : Int) (hb : n < 0 ∨ 31 < n ∨ v < 0 ∨ (0 ≤ n ∧ n ≤ 31 ∧ 0 ≤ v ∧ v / 2 ^ n.toNat ≠ 0)) :
    Calls Try.prog 19 #[.pointer (some ⟨g, 0, none⟩), .int .i64 v, .int .i64 n] w fun e' w' => e' = .returned (.int .i64 2) ∧ w = w' := by
  by_cases h1 : n < 0
  · clear hb
    go_enter Try.func19, Try.ntmps19
    go_wp2_with fail
    go_ret
    exact ⟨rfl, rfl⟩
  by_cases h1 : 31 < n
  · clear hb
    go_enter Try.func19, Try.ntmps19
    go_wp2_with fail
    go_ret
    exact ⟨rfl, rfl⟩
  by_cases h1 : v < 0
  · clear hb
    go_enter Try.func19, Try.ntmps19
    go_wp2_with fail
    go_ret
    exact ⟨rfl, rfl⟩
  obtain ⟨m, rfl⟩ : ∃ m : Nat, n = (m : Int) := ⟨n.toNat, by omega⟩
  obtain ⟨u, rfl⟩ : ∃ u : Nat, v = (u : Int) := ⟨v.toNat, by omega⟩
  have h4 : (2 : Int) ^ m ≤ (u : Int) := by
    have h5 : (u : Int) / 2 ^ m ≠ 0 := by
      rcases hb with h | h | h | ⟨_, _, _, h⟩
      · omega
      · omega
      · omega
      · simpa using h
    have h6 : u / 2 ^ m ≠ 0 := fun h7 => h5 (by rw [powI, ← Int.natCast_ediv, h7]; rfl)
    have := pow2_le u m h6
    rw [powI]
    omega
  have ew := wrap_pow m (by omega)
  have hm64 : m < 64 := by omega
  clear hb
  go_enter Try.func19, Try.ntmps19
  go_wp2_with fail
  go_ret
  exact ⟨rfl, rfl⟩

set_option maxRecDepth 8000 in
set_option maxHeartbeats 4000000 in
theorem refDirect_is (w : World) (g : Nat) (vc vo : Value) (e : Enc) (h : RefAt w g vc vo e) (hok : e.Ok) (v n : Nat) (hn : n ≤ 31) (hv : v / 2 ^ n = 0) (hb : e.out.length + e.waiting ≤ 99999999999900) :
    Calls Try.prog 19 #[.pointer (some ⟨g, 0, none⟩), .int .i64 v, .int .i64 n] w fun e' w' => e' = .returned (.int .i64 0) ∧ RefTo2 w g vc vo (e.direct v n) w' := by
  have H := Lib.hid h
  have HOK := Lib.hid hok
  have HB := Lib.hid hb
  have ew := wrap_pow n hn
  have t4 : decide ((2 : Int) ^ n ≤ (v : Int)) = false := by have := pow2_lt v n hv; rw [powI]; exact decide_eq_false (by omega)
  have hm64 : n < 64 := by omega
  have HV2 : Hid (v < 2147483648) := by
    have h1 := pow2_lt v n hv
    have h2 : 2 ^ n ≤ 2 ^ 31 := Nat.pow_le_pow_right (by omega) hn
    show _ < _
    omega
  have t1 : decide ((n : Int) < 0) = false := by simp
  have t2 : decide ((31 : Int) < (n : Int)) = false := by simp; omega
  have t3 : decide ((v : Int) < 0) = false := by simp
  obtain ⟨E, hE⟩ : ∃ E, E = e.direct v n := ⟨_, rfl⟩
  have HE := Lib.hid hE
  rw [← hE]
  clear h hok hb hE hv
  go_enter Try.func19, Try.ntmps19
  go_wp2_with fail
  clear t1 t2 t3 t4 ew
  go_loopw [7] (fun vi wr => ∃ (k : Nat) (vo' : Value) (e1 : Enc), k ≤ n ∧ vi = .int .i64 ((k : Int) - 1) ∧ Hid (RefAt wr g vc vo' e1) ∧ Hid (e1.Ok ∧ e1.ch = e.ch ∧ e1.direct v k = E ∧ e1.out.length + e1.waiting + k ≤ e.out.length + e.waiting + n) ∧ Hid (Keeps (fun k => k = g ∨ vo.ownBlock = some k) w wr) ∧ Hid (Moved w vo vo')) (fun vi _ => (intOf vi + 1).toNat)
  case atStart => exact ⟨n, vo, e, Nat.le_refl _, rfl, H.out, ⟨HOK.out, rfl, HE.out.symm, by omega⟩, Keeps.refl _ _, Moved.refl _ _⟩
  case round =>
    obtain ⟨k, vo', e1, hi, rfl, H1, HX, HK, HM⟩ := hrel
    by_cases hin : k = 0
    · subst hin
      have hE : E = e1 := HX.out.2.2.1.symm
      subst hE
      clear HX HE
      go_wp2_with fail
      go_ret
      exact ⟨rfl, vo', H1.out, HK.out.mono (fun _ _ h => h.elim .inl fun h => .inr (.inr h)), HM.out⟩
    · obtain ⟨m, rfl⟩ : ∃ m, k = m + 1 := ⟨k - 1, by omega⟩
      clear hin
      rw [show ((m + 1 : Nat) : Int) - 1 = (m : Int) by omega]
      have hm64b : m < 64 := by omega
      obtain ⟨hok1, hch1, hd1, hl1⟩ := HX.out
      rw [Enc.direct_step] at hd1
      obtain ⟨b, hbb⟩ : ∃ b, b = v / 2 ^ m % 2 := ⟨_, rfl⟩
      have hb1 : b ≤ 1 := by have := Nat.mod_lt (v / 2 ^ m) (show 2 > 0 by omega); omega
      rw [← hbb] at hd1
      obtain ⟨hok2, hch2, hl2⟩ := Enc.half_ok e1 hok1 b hb1
      have hs1 := hok1.sum
      have hw1 := hok1.width
      have ht1 := hok1.top
      have hk1 := hok1.kept
      have hwt1 := hok1.waiting
      obtain ⟨y, hy⟩ : ∃ y, y = v / 2 ^ m := ⟨_, rfl⟩
      have ey : (v : Int) / 2 ^ m = (y : Int) := by
        rw [powI, ← Int.natCast_ediv, hy]
      have hyv : y ≤ v := by rw [hy]; exact Nat.div_le_self _ _
      have hy2 : (y : Int) < 2147483648 := by have := HV2.out; omega
      have HYB : Hid (y % 2 = b) := by show _ = _; rw [hbb, hy]
      obtain ⟨ch, low, width, kept, waiting, out⟩ := e1
      simp only at hd1 hch1 hl1 hok2 hch2 hl2 hs1 hw1 ht1 hk1 hwt1
      obtain ⟨q, hq⟩ : ∃ q, q = width / 2 := ⟨_, rfl⟩
      have eq1 : (width : Int) / 2 = (q : Int) := by omega
      rw [← hq] at hd1 hok2 hch2 hl2
      have hqi : (q : Int) < 4294967296 := by omega
      have hlB : (low : Int) + (q : Int) < 8589934592 := by omega
      have HF := Lib.hid (And.intro hs1 (And.intro hw1 (And.intro ht1 (And.intro hk1 (And.intro hwt1 (And.intro hq hq))))))
      have d2 := blk_cell H1.out.blk 2
      have f2 := blk_frozen H1.out.blk 2
      simp at d2
      have HE2 : Hid (RefAt (wr.setCell ⟨g, 2, none⟩ (.int .u64 (q : Nat))) g vc vo' ⟨ch, low, q, kept, waiting, out⟩) :=
        ref_re H1.out ((Keeps.refl (fun k => k = g) wr).setCell (p := ⟨g, 2, none⟩) (fun _ => rfl) (.int .u64 (q : Nat))) (blk_set H1.out.blk 2 (.int .u64 (q : Nat))) rfl rfl
      have HK2 : Hid (Keeps (fun k => k = g ∨ vo.ownBlock = some k) w (wr.setCell ⟨g, 2, none⟩ (.int .u64 (q : Nat)))) := HK.out.setCell (p := ⟨g, 2, none⟩) (fun _ => .inl rfl) _
      have HD := Lib.hid (And.intro hd1 (And.intro hok2 (And.intro hch2 (And.intro hl2 (And.intro hch1 hl1)))))
      clear hs1 hw1 ht1 hk1 hwt1 hq hd1 hok2 hch2 hl2 hch1 hl1 hok1 HX hbb hy hyv
      by_cases hb0 : b = 0
      · subst hb0
        have ebit : (y : Int) % 2 = 0 := by have := HYB.out; omega
        rw [Nat.mul_zero, Nat.add_zero] at HD
        have HE4 := HE2
        have HK4 := HK2
        clear HE2 HK2
        have HS := Lib.hid (refSettle_is _ g vc vo' _ HE4.out (by obtain ⟨h1, h2, h3, h4, h5, h6, h7⟩ := HF.out; simp only; omega) (by obtain ⟨h1, h2, h3, h4, h5, h6, h7⟩ := HF.out; simp only; omega) (by obtain ⟨h1, h2, h3, h4, h5, h6, h7⟩ := HF.out; simp only; omega) HF.out.2.2.2.1 HF.out.2.2.2.2.1 (by have h1 := HD.out.2.2.2.2.2; have h2 := HB.out; simp only; omega))
        go_wp2_with fail
        refine HS.out.mono ?_
        rintro x w4 ⟨rfl, vo4, h4, hk4, hm4⟩
        have H4 := Lib.hid h4
        have HK5 : Hid (Keeps (fun k => k = g ∨ vo.ownBlock = some k) w w4) := Keeps.trans HK4.out hk4 fun i hi h => by
          rcases h with h | h
          · exact .inl h
          · rcases HM.out with h9 | ⟨j, h9, hj⟩
            · rw [h9] at h; exact .inr h
            · rw [h9] at h; injection h with h; omega
        have HM5 : Hid (Moved w vo vo4) := HM.out.trans hm4 HK4.out.size
        clear h4 hk4 hm4 HS HE4 HK4
        go_wp2_with fail
        go_roundw
        case rel => exact ⟨m, vo4, _, by omega, by go_num, H4.out, ⟨HD.out.2.1, HD.out.2.2.1.trans HD.out.2.2.2.2.1, HD.out.1, by have h1 := HD.out.2.2.2.1; have h2 := HD.out.2.2.2.2.2; omega⟩, HK5.out, HM5.out⟩
        case measure => simp [intOf]
      · obtain rfl : b = 1 := by omega
        have ebit : (y : Int) % 2 = 1 := by have := HYB.out; omega
        clear hb0 hb1
        rw [Nat.mul_one] at HD
        go_wp2_with fail
        clear d2 f2 HK H1
        generalize wr.setCell ⟨g, 2, none⟩ (.int .u64 (q : Nat)) = wq at *
        refine wp_region_seq (by kernel_rfl) (by kernel_rfl) ?_
        have HE3 := Lib.hid HE2.out.drew
        have HK3 : Hid (Keeps (fun k => k = g ∨ vo.ownBlock = some k) w wq.drew) := HK2.out.drew
        clear HE2 HK2
        generalize wq.drew = wd at *
        have d1 := blk_cell HE3.out.blk 1
        have d2 := blk_cell HE3.out.blk 2
        have f1 := blk_frozen HE3.out.blk 1
        simp at d1 d2
        go_wp2_with fail
        refine ⟨by kernel_rfl, ?_⟩
        have HE4 : Hid (RefAt (wd.setCell ⟨g, 1, none⟩ (.int .u64 ((low : Int) + (q : Int)))) g vc vo' ⟨ch, low + q, q, kept, waiting, out⟩) :=
          ref_re HE3.out ((Keeps.refl (fun k => k = g) wd).setCell (p := ⟨g, 1, none⟩) (fun _ => rfl) (.int .u64 ((low : Int) + (q : Int)))) (by have h9 := blk_set HE3.out.blk 1 (.int .u64 ((low : Int) + (q : Int))); rw [show ((low : Int) + (q : Int)) = ((low + q : Nat) : Int) by omega] at h9 ⊢; exact h9) rfl rfl
        have HK4 : Hid (Keeps (fun k => k = g ∨ vo.ownBlock = some k) w (wd.setCell ⟨g, 1, none⟩ (.int .u64 ((low : Int) + (q : Int))))) := HK3.out.setCell (p := ⟨g, 1, none⟩) (fun _ => .inl rfl) _
        have HS := Lib.hid (refSettle_is _ g vc vo' _ HE4.out (by obtain ⟨h1, h2, h3, h4, h5, h6, h7⟩ := HF.out; simp only; omega) (by obtain ⟨h1, h2, h3, h4, h5, h6, h7⟩ := HF.out; simp only; omega) (by obtain ⟨h1, h2, h3, h4, h5, h6, h7⟩ := HF.out; simp only; omega) HF.out.2.2.2.1 HF.out.2.2.2.2.1 (by have h1 := HD.out.2.2.2.2.2; have h2 := HB.out; simp only; omega))
        go_wp2_with fail
        refine HS.out.mono ?_
        rintro x w4 ⟨rfl, vo4, h4, hk4, hm4⟩
        have H4 := Lib.hid h4
        have HK5 : Hid (Keeps (fun k => k = g ∨ vo.ownBlock = some k) w w4) := Keeps.trans HK4.out hk4 fun i hi h => by
          rcases h with h | h
          · exact .inl h
          · rcases HM.out with h9 | ⟨j, h9, hj⟩
            · rw [h9] at h; exact .inr h
            · rw [h9] at h; injection h with h; omega
        have HM5 : Hid (Moved w vo vo4) := HM.out.trans hm4 HK4.out.size
        clear h4 hk4 hm4 HS HE4 HK4
        go_wp2_with fail
        go_roundw
        case rel => exact ⟨m, vo4, _, by omega, by go_num, H4.out, ⟨HD.out.2.1, HD.out.2.2.1.trans HD.out.2.2.2.2.1, HD.out.1, by have h1 := HD.out.2.2.2.1; have h2 := HD.out.2.2.2.2.2; omega⟩, HK5.out, HM5.out⟩
        case measure => simp [intOf]

set_option maxRecDepth 8000 in
theorem refMay_is (w : World) (len : Nat) (base n : Int) (hlen : len ≤ 65536) (hb : inKind .i64 base) (hn : inKind .i64 n) :
    Calls Try.prog 51 #[.int .i64 base, .int .i64 n, .int .i64 (len : Nat)] w fun e' w' => e' = .returned (.bool (mayT base n len)) ∧ w = w' := by
  have hb := inKind_i64 hb
  have hn := inKind_i64 hn
  by_cases h1 : base < 0
  · have hM : mayT base n len = false := by cases h : mayT base n len; rfl; have := (mayT_iff.1 h); omega
    rw [hM]
    clear hM
    go_enter Try.func51, Try.ntmps51
    go_wp2_with fail
    go_ret
    exact ⟨rfl, rfl⟩
  by_cases h1 : n < 0
  · have hM : mayT base n len = false := by cases h : mayT base n len; rfl; have := (mayT_iff.1 h); omega
    rw [hM]
    clear hM
    go_enter Try.func51, Try.ntmps51
    go_wp2_with fail
    go_ret
    exact ⟨rfl, rfl⟩
  by_cases h1 : 16 < n
  · have hM : mayT base n len = false := by cases h : mayT base n len; rfl; have := (mayT_iff.1 h); omega
    rw [hM]
    clear hM
    go_enter Try.func51, Try.ntmps51
    go_wp2_with fail
    go_ret
    exact ⟨rfl, rfl⟩
  obtain ⟨m, rfl⟩ : ∃ m : Nat, n = (m : Int) := ⟨n.toNat, by omega⟩
  have hm : m ≤ 16 := by omega
  obtain ⟨z, hz⟩ : ∃ z : Nat, z = 2 ^ m := ⟨_, rfl⟩
  have hM : mayT base m len = decide ((z : Int) ≤ len ∧ base ≤ (len : Int) - z) := by
    rw [Bool.eq_iff_iff, mayT_iff, decide_eq_true_iff]
    simp only [Int.toNat_natCast]
    rw [powI, ← hz]
    omega
  have hz2 : z ≤ 65536 := by
    have h2 : 2 ^ m ≤ 2 ^ 16 := Nat.pow_le_pow_right (by omega) hm
    omega
  have ep : (2 : Int) ^ m = (z : Int) := by rw [powI, hz]
  have hb0 : 0 ≤ base := by omega
  have hm2 : (m : Int) ≤ 16 := by omega
  have hz3 : (z : Int) ≤ 65536 := by omega
  have hl3 : (len : Int) ≤ 65536 := by omega
  rw [hM]
  clear hM hb hn hm hz hz2 hlen
  have ez : IntKind.i64.wrap (z : Int) = (z : Int) := by rw [IntKind.wrap_i64]; omega
  by_cases h9 : (z : Int) ≤ (len : Int)
  · rw [show decide ((z : Int) ≤ len ∧ base ≤ (len : Int) - z) = decide (base ≤ (len : Int) - z) by simp [h9]]
    go_enter Try.func51, Try.ntmps51
    go_wp2_with fail
    go_ret
    exact ⟨rfl, rfl⟩
  · rw [show decide ((z : Int) ≤ len ∧ base ≤ (len : Int) - z) = false by simp [h9]]
    go_enter Try.func51, Try.ntmps51
    go_wp2_with fail
    go_ret
    exact ⟨rfl, rfl⟩

set_option maxRecDepth 8000 in
theorem refTree_bad (w : World) (g : Nat) (vc vo : Value) (e : Enc) (h : RefAt w g vc vo e) (hlen : e.ch.length ≤ 65536) (base v n : Int) (high : Bool) (hbk : inKind .i64 base) (hnk : inKind .i64 n)
    (hb : mayT base n e.ch.length = false ∨ v < 0 ∨ (0 ≤ n ∧ n ≤ 16 ∧ 0 ≤ v ∧ v / 2 ^ n.toNat ≠ 0)) :
    Calls Try.prog 21 #[.pointer (some ⟨g, 0, none⟩), .int .i64 base, .int .i64 v, .int .i64 n, .bool high] w fun e' w' => e' = .returned (.int .i64 2) ∧ w = w' := by
  have HT := Lib.hid (refMay_is w e.ch.length base n hlen hbk hnk)
  obtain ⟨A, c, hv⟩ := rowf h.chs
  have d0 := blk_cell h.blk 0
  simp at d0
  rw [hv] at d0
  clear hv h
  generalize hM : mayT base n e.ch.length = M at *
  have hMX : M = true → 0 ≤ n ∧ n ≤ 16 := fun h9 => by rw [h9] at hM; have := mayT_iff.1 hM; omega
  generalize e.ch.length = len at *
  clear hlen hbk hnk hM
  cases M
  · clear hb hMX
    go_enter Try.func21, Try.ntmps21
    go_wp2_with fail
    refine HT.out.mono ?_
    rintro x w1 ⟨rfl, rfl⟩
    go_wp2_with fail
    go_ret
    exact ⟨rfl, rfl⟩
  obtain ⟨hn0, hn1⟩ := hMX rfl
  clear hMX
  by_cases h3 : v < 0
  · clear hb
    go_enter Try.func21, Try.ntmps21
    go_wp2_with fail
    refine HT.out.mono ?_
    rintro x w1 ⟨rfl, rfl⟩
    go_wp2_with fail
    go_ret
    exact ⟨rfl, rfl⟩
  obtain ⟨m, rfl⟩ : ∃ m : Nat, n = (m : Int) := ⟨n.toNat, by omega⟩
  obtain ⟨u, rfl⟩ : ∃ u : Nat, v = (u : Int) := ⟨v.toNat, by omega⟩
  have h4 : (2 : Int) ^ m ≤ (u : Int) := by
    have h5 : (u : Int) / 2 ^ m ≠ 0 := by
      rcases hb with h | h | ⟨_, _, _, h⟩
      · exact absurd h (by simp)
      · omega
      · simpa using h
    have h6 : u / 2 ^ m ≠ 0 := fun h7 => h5 (by rw [powI, ← Int.natCast_ediv, h7]; rfl)
    have := pow2_le u m h6
    rw [powI]
    omega
  have ew := wrap_pow m (by omega)
  have hm64 : m < 64 := by omega
  clear hb h3
  go_enter Try.func21, Try.ntmps21
  go_wp2_with fail
  refine HT.out.mono ?_
  rintro x w1 ⟨rfl, rfl⟩
  go_wp2_with fail
  go_ret
  exact ⟨rfl, rfl⟩

set_option maxRecDepth 8000 in
set_option maxHeartbeats 4000000 in
theorem refTree_high (w : World) (g : Nat) (vc vo : Value) (e : Enc) (h : RefAt w g vc vo e) (hok : e.Ok) (hlen : e.ch.length ≤ 65536) (base v n : Nat) (hn : n ≤ 16) (hbn : base + 2 ^ n ≤ e.ch.length) (hv : v / 2 ^ n = 0) (hb : e.out.length + e.waiting ≤ 99999999999900) :
    Calls Try.prog 21 #[.pointer (some ⟨g, 0, none⟩), .int .i64 base, .int .i64 v, .int .i64 n, .bool true] w fun e' w' => e' = .returned (.int .i64 0) ∧ RefTo2 w g vc vo (e.walk base 1 (bitsT true v n)) w' := by
  have HT := Lib.hid (refMay_is w e.ch.length base n hlen (mk_i64 (by omega) (by have := Nat.two_pow_pos n; omega)) (mk_i64 (by omega) (by omega)))
  rw [mayT_iff.2 ⟨by omega, by omega, by omega, by simp only [Int.toNat_natCast]; rw [powI]; omega⟩] at HT
  obtain ⟨A, c, hvs⟩ := rowf h.chs
  have d0 := blk_cell h.blk 0
  simp at d0
  rw [hvs] at d0
  clear hvs
  obtain ⟨len, hle⟩ : ∃ len, len = e.ch.length := ⟨_, rfl⟩
  rw [← hle] at hbn hlen HT d0
  have HLE := Lib.hid hle
  have H := Lib.hid h
  have HOK := Lib.hid hok
  have HB := Lib.hid hb
  have HLEN := Lib.hid (And.intro hbn hlen)
  have ew := wrap_pow n (by omega)
  have t4 : decide ((2 : Int) ^ n ≤ (v : Int)) = false := by have := pow2_lt v n hv; rw [powI]; exact decide_eq_false (by omega)
  have hm64 : n < 64 := by omega
  have HV2 : Hid (v < 65536) := small_v hn hv
  have t3 : decide ((v : Int) < 0) = false := by simp
  have hvi : (v : Int) < 65536 := by have := HV2.out; omega
  obtain ⟨E, hE⟩ : ∃ E, E = e.walk base 1 (bitsT true v n) := ⟨_, rfl⟩
  have HE := Lib.hid hE
  rw [← hE]
  clear h hok hb hE hv hle hbn hlen
  go_enter Try.func21, Try.ntmps21
  go_wp2_with fail
  refine HT.out.mono ?_
  rintro x w1 ⟨rfl, rfl⟩
  go_wp2_with fail
  clear t3 t4 ew d0 HT
  go_loopw [11, 12] (fun vm vi wr => ∃ (i m : Nat) (vo' : Value) (e1 : Enc), i ≤ n ∧ vm = .int .i64 m ∧ vi = .int .i64 i ∧ Hid (RefAt wr g vc vo' e1) ∧ Hid (e1.Ok ∧ e1.ch.length = len ∧ e1.walk base m ((bitsT true v n).drop i) = E ∧ m < 2 ^ (i + 1) ∧ e1.out.length + e1.waiting ≤ e.out.length + e.waiting + i) ∧ Hid (Keeps (fun k => k = g ∨ vc.ownBlock = some k ∨ vo.ownBlock = some k) w wr) ∧ Hid (Moved w vo vo')) (fun _ vi _ => n - (intOf vi).toNat)
  case atStart => exact ⟨0, 1, vo, e, by omega, rfl, rfl, H.out, ⟨HOK.out, HLE.out.symm, by rw [List.drop_zero]; exact HE.out.symm, by decide, by omega⟩, Keeps.refl _ _, Moved.refl _ _⟩
  case round =>
    obtain ⟨i, m, vo', e1, hi, rfl, rfl, H1, HX, HK, HM⟩ := hrel
    by_cases hin : i < n
    · obtain ⟨hok1, hch1, hd1, hm1, hl1⟩ := HX.out
      have hpw : 2 ^ (i + 1) ≤ 2 ^ n := Nat.pow_le_pow_right (by omega) (by omega)
      have hp16 : 2 ^ n ≤ 2 ^ 16 := Nat.pow_le_pow_right (by omega) hn
      have hlb := HLEN.out
      obtain ⟨k, hkk⟩ : ∃ k, k = n - 1 - i := ⟨_, rfl⟩
      have ek : (n : Int) - 1 - (i : Int) = (k : Int) := by omega
      have hk64 : k < 64 := by omega
      have hgx : (bitsT true v n).getD i 0 = v / 2 ^ k % 2 := by rw [bitsT_get true v n i hin, if_pos rfl, hkk]
      have hdrop : (bitsT true v n).drop i = (bitsT true v n).getD i 0 :: (bitsT true v n).drop (i + 1) := by
        rw [List.drop_eq_getElem_cons (by rw [bitsT_len]; exact hin)]
        simp [List.getD_eq_getElem?_getD, show i < (bitsT true v n).length by rw [bitsT_len]; exact hin]
      rw [hdrop, hgx] at hd1
      obtain ⟨y, hy⟩ : ∃ y, y = v / 2 ^ k := ⟨_, rfl⟩
      have ey : (v : Int) / 2 ^ k = (y : Int) := by rw [powI, ← Int.natCast_ediv, hy]
      have hyv : y ≤ v := by rw [hy]; exact Nat.div_le_self _ _
      have hy2 : (y : Int) < 65536 := by have := HV2.out; omega
      rw [← hy] at hd1
      obtain ⟨x, hx⟩ : ∃ x, x = y % 2 := ⟨_, rfl⟩
      have ex : (y : Int) % 2 = (x : Int) := by omega
      have hx1 : x ≤ 1 := by omega
      rw [← hx] at hd1
      have hbm : base + m < len := by omega
      have HC := Lib.hid (refPut_is wr g vc vo' e1 H1.out hok1 (base + m) x (by rw [hch1]; exact hbm) (by rw [hch1]; omega) hx1 (by have := HB.out; omega))
      have HOK2 := Lib.hid (Enc.put_ok e1 hok1 (base + m) x (by rw [hch1]; exact hbm))
      have HL2 := Lib.hid (Enc.put_len e1 hok1 (base + m) x)
      have HC2 := Lib.hid ((Enc.put_chlen e1 (base + m) x).trans hch1)
      have HD2 : Hid ((e1.put (base + m) x).walk base (2 * m + x) ((bitsT true v n).drop (i + 1)) = E) := hd1
      have HM2 : Hid (2 * m + x < 2 ^ (i + 1 + 1)) := by show _ < _; rw [Nat.pow_succ]; omega
      have HL1 := Lib.hid hl1
      rw [show (((base + m : Nat)) : Int) = (base : Int) + (m : Int) by omega] at HC
      have hmi : (m : Int) < 1000000 := by omega
      have hxi : (x : Int) ≤ 1 := by omega
      generalize e1.put (base + m) x = E2 at *
      have hbz : (base : Int) + (m : Int) < 1000000 := by omega
      clear hx hdrop hd1 hlb hp16 hpw hok1 hch1 hm1 hl1 HX hx1 hbm hgx hy hyv
      clear hkk
      go_wp2_with fail
      refine HC.out.mono ?_
      rintro y9 w4 ⟨rfl, vo4, h4, hk4, hm4⟩
      have H4 := Lib.hid h4
      have HK5 : Hid (Keeps (fun k => k = g ∨ vc.ownBlock = some k ∨ vo.ownBlock = some k) w w4) := Keeps.trans HK.out hk4 fun i hi h => by
        rcases h with h | h | h
        · exact .inl h
        · exact .inr (.inl h)
        · rcases HM.out with h9 | ⟨j, h9, hj⟩
          · rw [h9] at h; exact .inr (.inr h)
          · rw [h9] at h; injection h with h; omega
      have HM5 : Hid (Moved w vo vo4) := HM.out.trans hm4 HK.out.size
      clear h4 hk4 hm4 HC
      go_wp2_with fail
      go_roundw
      case rel => exact ⟨i + 1, 2 * m + x, vo4, E2, by omega, by go_num, by go_num, H4.out, ⟨HOK2.out, HC2.out, HD2.out, HM2.out, by have h1 := HL1.out; have h2 := HL2.out; omega⟩, HK5.out, HM5.out⟩
      case measure => simp [intOf]; omega
    · obtain rfl : n = i := by omega
      have hE : E = e1 := by
        have h1 := HX.out.2.2.1
        rw [List.drop_eq_nil_of_le (by rw [bitsT_len]; exact Nat.le_refl _)] at h1
        exact h1.symm
      subst hE
      clear HX HE
      go_wp2_with fail
      go_ret
      exact ⟨rfl, vo', H1.out, HK.out, HM.out⟩

set_option maxRecDepth 8000 in
set_option maxHeartbeats 4000000 in
theorem refTree_low (w : World) (g : Nat) (vc vo : Value) (e : Enc) (h : RefAt w g vc vo e) (hok : e.Ok) (hlen : e.ch.length ≤ 65536) (base v n : Nat) (hn : n ≤ 16) (hbn : base + 2 ^ n ≤ e.ch.length) (hv : v / 2 ^ n = 0) (hb : e.out.length + e.waiting ≤ 99999999999900) :
    Calls Try.prog 21 #[.pointer (some ⟨g, 0, none⟩), .int .i64 base, .int .i64 v, .int .i64 n, .bool false] w fun e' w' => e' = .returned (.int .i64 0) ∧ RefTo2 w g vc vo (e.walk base 1 (bitsT false v n)) w' := by
  have HT := Lib.hid (refMay_is w e.ch.length base n hlen (mk_i64 (by omega) (by have := Nat.two_pow_pos n; omega)) (mk_i64 (by omega) (by omega)))
  rw [mayT_iff.2 ⟨by omega, by omega, by omega, by simp only [Int.toNat_natCast]; rw [powI]; omega⟩] at HT
  obtain ⟨A, c, hvs⟩ := rowf h.chs
  have d0 := blk_cell h.blk 0
  simp at d0
  rw [hvs] at d0
  clear hvs
  obtain ⟨len, hle⟩ : ∃ len, len = e.ch.length := ⟨_, rfl⟩
  rw [← hle] at hbn hlen HT d0
  have HLE := Lib.hid hle
  have H := Lib.hid h
  have HOK := Lib.hid hok
  have HB := Lib.hid hb
  have HLEN := Lib.hid (And.intro hbn hlen)
  have ew := wrap_pow n (by omega)
  have t4 : decide ((2 : Int) ^ n ≤ (v : Int)) = false := by have := pow2_lt v n hv; rw [powI]; exact decide_eq_false (by omega)
  have hm64 : n < 64 := by omega
  have HV2 : Hid (v < 65536) := small_v hn hv
  have t3 : decide ((v : Int) < 0) = false := by simp
  have hvi : (v : Int) < 65536 := by have := HV2.out; omega
  obtain ⟨E, hE⟩ : ∃ E, E = e.walk base 1 (bitsT false v n) := ⟨_, rfl⟩
  have HE := Lib.hid hE
  rw [← hE]
  clear h hok hb hE hv hle hbn hlen
  go_enter Try.func21, Try.ntmps21
  go_wp2_with fail
  refine HT.out.mono ?_
  rintro x w1 ⟨rfl, rfl⟩
  go_wp2_with fail
  clear t3 t4 ew d0 HT
  go_loopw [11, 12] (fun vm vi wr => ∃ (i m : Nat) (vo' : Value) (e1 : Enc), i ≤ n ∧ vm = .int .i64 m ∧ vi = .int .i64 i ∧ Hid (RefAt wr g vc vo' e1) ∧ Hid (e1.Ok ∧ e1.ch.length = len ∧ e1.walk base m ((bitsT false v n).drop i) = E ∧ m < 2 ^ (i + 1) ∧ e1.out.length + e1.waiting ≤ e.out.length + e.waiting + i) ∧ Hid (Keeps (fun k => k = g ∨ vc.ownBlock = some k ∨ vo.ownBlock = some k) w wr) ∧ Hid (Moved w vo vo')) (fun _ vi _ => n - (intOf vi).toNat)
  case atStart => exact ⟨0, 1, vo, e, by omega, rfl, rfl, H.out, ⟨HOK.out, HLE.out.symm, by rw [List.drop_zero]; exact HE.out.symm, by decide, by omega⟩, Keeps.refl _ _, Moved.refl _ _⟩
  case round =>
    obtain ⟨i, m, vo', e1, hi, rfl, rfl, H1, HX, HK, HM⟩ := hrel
    by_cases hin : i < n
    · obtain ⟨hok1, hch1, hd1, hm1, hl1⟩ := HX.out
      have hpw : 2 ^ (i + 1) ≤ 2 ^ n := Nat.pow_le_pow_right (by omega) (by omega)
      have hp16 : 2 ^ n ≤ 2 ^ 16 := Nat.pow_le_pow_right (by omega) hn
      have hlb := HLEN.out
      obtain ⟨k, hkk⟩ : ∃ k, k = i := ⟨_, rfl⟩
      have ek : (i : Int) = (k : Int) := by omega
      have hk64 : k < 64 := by omega
      have hgx : (bitsT false v n).getD i 0 = v / 2 ^ k % 2 := by rw [bitsT_get false v n i hin, if_neg (by decide), hkk]
      have hdrop : (bitsT false v n).drop i = (bitsT false v n).getD i 0 :: (bitsT false v n).drop (i + 1) := by
        rw [List.drop_eq_getElem_cons (by rw [bitsT_len]; exact hin)]
        simp [List.getD_eq_getElem?_getD, show i < (bitsT false v n).length by rw [bitsT_len]; exact hin]
      rw [hdrop, hgx] at hd1
      obtain ⟨y, hy⟩ : ∃ y, y = v / 2 ^ k := ⟨_, rfl⟩
      have ey : (v : Int) / 2 ^ k = (y : Int) := by rw [powI, ← Int.natCast_ediv, hy]
      have hyv : y ≤ v := by rw [hy]; exact Nat.div_le_self _ _
      have hy2 : (y : Int) < 65536 := by have := HV2.out; omega
      rw [← hy] at hd1
      obtain ⟨x, hx⟩ : ∃ x, x = y % 2 := ⟨_, rfl⟩
      have ex : (y : Int) % 2 = (x : Int) := by omega
      have hx1 : x ≤ 1 := by omega
      rw [← hx] at hd1
      have hbm : base + m < len := by omega
      have HC := Lib.hid (refPut_is wr g vc vo' e1 H1.out hok1 (base + m) x (by rw [hch1]; exact hbm) (by rw [hch1]; omega) hx1 (by have := HB.out; omega))
      have HOK2 := Lib.hid (Enc.put_ok e1 hok1 (base + m) x (by rw [hch1]; exact hbm))
      have HL2 := Lib.hid (Enc.put_len e1 hok1 (base + m) x)
      have HC2 := Lib.hid ((Enc.put_chlen e1 (base + m) x).trans hch1)
      have HD2 : Hid ((e1.put (base + m) x).walk base (2 * m + x) ((bitsT false v n).drop (i + 1)) = E) := hd1
      have HM2 : Hid (2 * m + x < 2 ^ (i + 1 + 1)) := by show _ < _; rw [Nat.pow_succ]; omega
      have HL1 := Lib.hid hl1
      rw [show (((base + m : Nat)) : Int) = (base : Int) + (m : Int) by omega] at HC
      have hmi : (m : Int) < 1000000 := by omega
      have hxi : (x : Int) ≤ 1 := by omega
      generalize e1.put (base + m) x = E2 at *
      have hbz : (base : Int) + (m : Int) < 1000000 := by omega
      clear hx hdrop hd1 hlb hp16 hpw hok1 hch1 hm1 hl1 HX hx1 hbm hgx hy hyv
      have hkk2 := hkk.symm
      clear hkk
      subst hkk2
      clear ek
      go_wp2_with fail
      refine HC.out.mono ?_
      rintro y9 w4 ⟨rfl, vo4, h4, hk4, hm4⟩
      have H4 := Lib.hid h4
      have HK5 : Hid (Keeps (fun k => k = g ∨ vc.ownBlock = some k ∨ vo.ownBlock = some k) w w4) := Keeps.trans HK.out hk4 fun i hi h => by
        rcases h with h | h | h
        · exact .inl h
        · exact .inr (.inl h)
        · rcases HM.out with h9 | ⟨j, h9, hj⟩
          · rw [h9] at h; exact .inr (.inr h)
          · rw [h9] at h; injection h with h; omega
      have HM5 : Hid (Moved w vo vo4) := HM.out.trans hm4 HK.out.size
      clear h4 hk4 hm4 HC
      go_wp2_with fail
      go_roundw
      case rel => exact ⟨i + 1, 2 * m + x, vo4, E2, by omega, by go_num, by go_num, H4.out, ⟨HOK2.out, HC2.out, HD2.out, HM2.out, by have h1 := HL1.out; have h2 := HL2.out; omega⟩, HK5.out, HM5.out⟩
      case measure => simp [intOf]; omega
    · obtain rfl : n = i := by omega
      have hE : E = e1 := by
        have h1 := HX.out.2.2.1
        rw [List.drop_eq_nil_of_le (by rw [bitsT_len]; exact Nat.le_refl _)] at h1
        exact h1.symm
      subst hE
      clear HX HE
      go_wp2_with fail
      go_ret
      exact ⟨rfl, vo', H1.out, HK.out, HM.out⟩
end Go.Proofs.Ytiikbpcaeoodjaa
