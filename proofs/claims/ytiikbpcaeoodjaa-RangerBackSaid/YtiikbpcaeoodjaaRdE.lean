/- The document's decoder: Tree. -/
import Derived.Test.YtiikbpcaeoodjaaRdD
namespace Go.Proofs.Ytiikbpcaeoodjaa
open Go.RowKit
set_option linter.unusedVariables false
set_option linter.unusedSimpArgs false

set_option maxRecDepth 8000 in
theorem rTree_bad (w : World) (g : Nat) (vc : Value) (BB : Nat → Prop) (A : Option Addr) (mm c : Nat) (xs : List Int) (q : Nat) (d : Dec) (h : RDecAt w g vc BB A mm c xs q d) (hlen : d.ch.length ≤ 65536) (base n : Int) (high : Bool) (hbk : inKind .i64 base) (hnk : inKind .i64 n) (hb : mayT base n d.ch.length = false) :
    Calls Try.prog 35 #[.pointer (some ⟨g, 0, none⟩), .int .i64 base, .int .i64 n, .bool high] w fun e' w' => e' = .returned (.tuple #[.int .i64 0, .int .i64 2]) ∧ w = w' := by
  have HT := Lib.hid (refMay_is w d.ch.length base n hlen hbk hnk)
  rw [hb] at HT
  obtain ⟨A', c', rfl⟩ := h.len0
  have d0 := blk_cell h.blk 0
  simp at d0
  generalize d.ch.length = len at *
  clear h hlen hbk hnk hb
  go_enter Try.func35, Try.ntmps35
  go_wp2_with fail
  refine HT.out.mono ?_
  rintro x w1 ⟨rfl, rfl⟩
  go_wp2_with fail
  go_ret2
  exact ⟨rfl, rfl⟩
set_option maxRecDepth 8000 in
theorem rTree_over (w : World) (g : Nat) (vc : Value) (BB : Nat → Prop) (A : Option Addr) (mm c : Nat) (xs : List Int) (q : Nat) (d : Dec) (h : RDecAt w g vc BB A mm c xs q d) (ho : d.over = true) (hlen : d.ch.length ≤ 65536) (base n : Nat) (high : Bool) (hn : n ≤ 16) (hbn : base + 2 ^ n ≤ d.ch.length) :
    Calls Try.prog 35 #[.pointer (some ⟨g, 0, none⟩), .int .i64 base, .int .i64 n, .bool high] w fun e' w' => e' = .returned (.tuple #[.int .i64 0, .int .i64 10]) ∧ w = w' := by
  have HT := Lib.hid (refMay_is w d.ch.length base n hlen (mk_i64 (by omega) (by have := Nat.two_pow_pos n; omega)) (mk_i64 (by omega) (by omega)))
  rw [mayT_iff.2 ⟨by omega, by omega, by omega, by simp only [Int.toNat_natCast]; rw [powI]; omega⟩] at HT
  have HV : Hid (∀ v : Int, Calls Try.prog 56 #[.pointer (some ⟨g, 0, none⟩), .int .i64 v] w fun e' w' => e' = .returned (.tuple #[.int .i64 0, .int .i64 10]) ∧ w = w') := fun v => rTold_over w g vc BB A mm c xs q d h ho v
  have HG := Lib.hid (rGet_over w g vc BB A mm c xs q d h ho ((base : Int) + 1))
  obtain ⟨A', c', rfl⟩ := h.len0
  have d0 := blk_cell h.blk 0
  have d5 := blk_cell h.blk 5
  simp at d0 d5
  rw [ho] at d5
  have hbi : (base : Int) < 65536 := by have := Nat.two_pow_pos n; omega
  have ew := wrap_pow n (by omega)
  have hm64 : n < 64 := by omega
  generalize d.ch.length = len at *
  clear h hlen hbn ho
  go_enter Try.func35, Try.ntmps35
  go_wp2_with fail
  refine HT.out.mono ?_
  rintro x w1 ⟨rfl, rfl⟩
  go_wp2_with fail
  go_loopw [10, 11, 12] (fun vm vv vi wr => vm = .int .i64 1 ∧ vv = .int .i64 0 ∧ vi = .int .i64 0 ∧ wr = w) (fun _ _ _ _ => 0)
  case atStart => exact ⟨rfl, rfl, rfl, rfl⟩
  case round =>
    obtain ⟨rfl, rfl, rfl, rfl⟩ := hrel
    by_cases h0 : n = 0
    · subst h0
      cases high
      all_goals
        go_wp2_with fail
        refine (HV.out _).mono ?_
        rintro x w1 ⟨rfl, rfl⟩
        go_wp2_with fail
        go_ret2
        exact ⟨rfl, rfl⟩
    · have h3 : (0 : Int) < (n : Int) := by omega
      have EW := Lib.hid ew
      have HBI := Lib.hid (And.intro hbi trivial)
      clear h0 d0 ew hn hbi
      have h3d : decide ((0 : Int) < (n : Int)) = true := decide_eq_true h3
      clear h3
      go_upto_region 8 with fail
      have hbi := HBI.out.1
      have ew := EW.out
      go_wp2_with fail
      refine HG.out.mono ?_
      rintro x w1 ⟨rfl, rfl⟩
      cases high
      all_goals
        go_wp2_with fail
        refine (HV.out _).mono ?_
        rintro x w1 ⟨rfl, rfl⟩
        go_wp2_with fail
        go_ret2
        exact ⟨rfl, rfl⟩
/-- What a tree's number is. -/
def valT (high : Bool) (l : List Nat) : Nat := if high then valH l else valL l
theorem valT_t (l : List Nat) : valT true l = valH l := rfl
theorem valT_f (l : List Nat) : valT false l = valL l := rfl
set_option maxRecDepth 8000 in
set_option maxHeartbeats 4000000 in
theorem rTree_is (w : World) (g : Nat) (vc : Value) (BB : Nat → Prop) (A : Option Addr) (mm c : Nat) (xs : List Int) (q : Nat) (d : Dec) (h : RDecAt w g vc BB A mm c xs q d) (hok : d.Ok) (ho : d.over = false) (hlen : d.ch.length ≤ 65536) (base n : Nat) (high : Bool) (hn : n ≤ 16) (hbn : base + 2 ^ n ≤ d.ch.length) (hm : mm ≤ 140737488355328) :
    Calls Try.prog 35 #[.pointer (some ⟨g, 0, none⟩), .int .i64 base, .int .i64 n, .bool high] w fun e' w' => e' = .returned (.tuple #[.int .i64 (if (d.walkD base 1 n).over then 0 else valT high (d.walkL base 1 n) : Nat), .int .i64 (if (d.walkD base 1 n).over then 10 else 0 : Nat)]) ∧ RDecTo2 w g vc BB A mm c xs (d.walkD base 1 n) w' := by
  have HT := Lib.hid (refMay_is w d.ch.length base n hlen (mk_i64 (by omega) (by have := Nat.two_pow_pos n; omega)) (mk_i64 (by omega) (by omega)))
  rw [mayT_iff.2 ⟨by omega, by omega, by omega, by simp only [Int.toNat_natCast]; rw [powI]; omega⟩] at HT
  obtain ⟨A', c', hv⟩ := h.len0
  have d0 := blk_cell h.blk 0
  simp at d0
  rw [hv] at d0
  clear hv
  obtain ⟨len, hle⟩ : ∃ len, len = d.ch.length := ⟨_, rfl⟩
  rw [← hle] at hbn hlen HT d0
  obtain ⟨D, hD⟩ : ∃ D, D = d.walkD base 1 n := ⟨_, rfl⟩
  obtain ⟨L, hL⟩ : ∃ L, L = d.walkL base 1 n := ⟨_, rfl⟩
  rw [← hD, ← hL]
  obtain ⟨V1, hV1⟩ : ∃ V1 : Nat, V1 = if D.over then 0 else valT high L := ⟨_, rfl⟩
  obtain ⟨E1, hE1⟩ : ∃ E1 : Nat, E1 = if D.over then 10 else 0 := ⟨_, rfl⟩
  rw [← hV1, ← hE1]
  have HD := Lib.hid hD
  have HL := Lib.hid hL
  have HV1 := Lib.hid hV1
  have HE1 := Lib.hid hE1
  have H := Lib.hid h
  have HOK := Lib.hid (And.intro hok (And.intro ho hle.symm))
  have HLEN := Lib.hid (And.intro hbn (And.intro hlen hm))
  have hbi : (base : Int) ≤ 65536 := by have := Nat.two_pow_pos n; omega
  have ew := wrap_pow n (by omega)
  have hm64 : n < 64 := by omega
  have hp2i : (2 : Int) ^ n ≤ 65536 := by rw [powI]; have : 2 ^ n ≤ 2 ^ 16 := Nat.pow_le_pow_right (by omega) hn; omega
  have hp2z : (1 : Int) ≤ 2 ^ n := by rw [powI]; have := Nat.two_pow_pos n; omega
  clear h hok ho hle hlen hbn hD hL hV1 hE1 hm
  go_enter Try.func35, Try.ntmps35
  go_wp2_with fail
  refine HT.out.mono ?_
  rintro x w1 ⟨rfl, rfl⟩
  go_wp2_with fail
  clear d0 HT
  go_loopw [10, 11, 12] (fun vm vv vi wr => ∃ (i m v q1 : Nat) (l : List Nat) (d1 : Dec), i ≤ n ∧ vm = .int .i64 m ∧ vv = .int .i64 v ∧ vi = .int .i64 i ∧ Hid (RDecAt wr g vc BB A mm c xs q1 d1) ∧ Hid (d1.Ok ∧ d1.over = false ∧ d1.ch.length = len ∧ d1.walkD base m (n - i) = D ∧ l ++ d1.walkL base m (n - i) = L ∧ l.length = i ∧ (∀ x ∈ l, x ≤ 1) ∧ m = 2 ^ i + valH l ∧ v = valL l) ∧ Hid (Keeps (fun k => k = g ∨ vc.ownBlock = some k) w wr)) (fun _ _ vi _ => n - (intOf vi).toNat)
  case atStart => exact ⟨0, 1, 0, q, [], d, by omega, rfl, rfl, rfl, H.out, ⟨HOK.out.1, HOK.out.2.1, HOK.out.2.2, HD.out.symm, HL.out.symm, rfl, by simp, rfl, rfl⟩, Keeps.refl _ _⟩
  case round =>
    obtain ⟨i, m, v, q1, l, d1, hi, rfl, rfl, rfl, H1, HX, HK⟩ := hrel
    obtain ⟨hok1, ho1, hch1, hd1, hl1, hll, hlx, hmv, hvv⟩ := HX.out
    have hvh := valH_lt i l hll hlx
    have hvl := valL_lt l hlx
    rw [hll] at hvl
    by_cases hin : i < n
    · obtain ⟨k, hk⟩ : ∃ k, n - i = k + 1 := ⟨n - i - 1, by omega⟩
      have hk2 : n - (i + 1) = k := by omega
      rw [hk] at hd1 hl1
      have hpw : 2 ^ (i + 1) ≤ 2 ^ n := Nat.pow_le_pow_right (by omega) (by omega)
      have hp16 : 2 ^ n ≤ 2 ^ 16 := Nat.pow_le_pow_right (by omega) hn
      rw [Nat.pow_succ] at hpw
      have hlb := HLEN.out
      have hbm : base + m < len := by omega
      have HC := Lib.hid (rGet_is wr g vc BB A mm c xs q1 d1 H1.out hok1 ho1 (base + m) (by omega) (by omega) hlb.2.2)
      obtain ⟨G, hG⟩ : ∃ G, G = d1.get (base + m) := ⟨_, rfl⟩
      obtain ⟨T, hT⟩ : ∃ T, T = d1.told (base + m) := ⟨_, rfl⟩
      have hgok := Dec.get_ok d1 hok1 (base + m) (by omega)
      have hT1 : T ≤ 1 := by rw [hT]; exact Dec.told_le _ _
      have HD1 : Hid ((if G.over then G else G.walkD base (2 * m + T) k) = D) := by show _ = _; rw [← hd1, hG, hT]; rfl
      have HL1 : Hid (l ++ T :: G.walkL base (2 * m + T) k = L) := by show _ = _; rw [← hl1, hG, hT]; rfl
      rw [← hG, ← hT] at HC
      rw [← hG] at hgok
      have HGK := Lib.hid (And.intro hgok.1 (hgok.2.2.trans hch1))
      rw [show (((base + m : Nat)) : Int) = (base : Int) + (m : Int) by omega] at HC
      have hmi : (m : Int) < 1000000 := by omega
      obtain ⟨m2, hm2⟩ : ∃ m2, m2 = 2 * m + T := ⟨_, rfl⟩
      rw [← hm2] at HD1 HL1
      obtain ⟨s2, hs2⟩ : ∃ s2, s2 = T * 2 ^ i := ⟨_, rfl⟩
      have hs2b : s2 ≤ 2 ^ i := by rw [hs2]; rcases (show T = 0 ∨ T = 1 by omega) with h | h <;> rw [h] <;> omega
      have hsw : IntKind.i64.wrap ((T : Int) * 2 ^ i) = (s2 : Int) := by
        rw [powI, ← Int.natCast_mul, ← hs2, IntKind.wrap_i64]
        omega
      have HNX : Hid ((l ++ [T]).length = i + 1 ∧ (∀ x ∈ l ++ [T], x ≤ 1) ∧ m2 = 2 ^ (i + 1) + valH (l ++ [T]) ∧ v + s2 = valL (l ++ [T])) := by
        refine ⟨by simp [hll], ?_, ?_, ?_⟩
        · intro x hx
          rcases List.mem_append.1 hx with h | h
          · exact hlx x h
          · rw [List.mem_singleton.1 h]; exact hT1
        · rw [valH_snoc, hm2, hmv, Nat.pow_succ]; omega
        · rw [valL_snoc, hll, ← hs2, hvv]
      have hbz : (base : Int) + (m : Int) < 1000000 := by omega
      have hTi : (T : Int) ≤ 1 := by omega
      have hvi : (v : Int) < 65536 := by omega
      have hsi : (s2 : Int) ≤ 65536 := by omega
      have hm2i : (m2 : Int) = 2 * (m : Int) + (T : Int) := by omega
      have hi64 : i < 64 := by omega
      have HM2I := Lib.hid hm2i
      have HKK := Lib.hid hk2
      clear hok1 ho1 hch1 hd1 hl1 hmv hvv hk hk2 hpw hp16 hlb hbm hG hT hgok hm2 hT1 hll hlx hvh hvl hs2 hs2b HX hm2i
      go_wp2_with fail
      refine HC.out.mono ?_
      rintro x w3 ⟨rfl, q3, h3, hk3⟩
      have HE3 := Lib.hid h3
      have HK3 : Hid (Keeps (fun k => k = g ∨ vc.ownBlock = some k) w w3) := Keeps.trans HK.out hk3 fun _ _ h => h
      have d5 := blk_cell h3.blk 5
      simp at d5
      clear h3 hk3 HC H1 HK
      cases hso : G.over
      · have HD2 : Hid (G.walkD base m2 k = D) := by have h := HD1.out; rw [hso] at h; exact h
        have HSO := Lib.hid hso
        rw [hso] at d5
        clear hso HD1
        go_wp2_with fail
        go_roundw
        case rel => exact ⟨i + 1, m2, v + s2, q3, l ++ [T], G, by omega, by have := HM2I.out; go_num, by go_num, by go_num, HE3.out, ⟨HGK.out.1, HSO.out, HGK.out.2, by rw [HKK.out]; exact HD2.out, by rw [HKK.out, List.append_assoc]; exact HL1.out, HNX.out.1, HNX.out.2.1, HNX.out.2.2.1, HNX.out.2.2.2⟩, HK3.out⟩
        case measure => simp [intOf]; omega
      · have HD2 : Hid (G = D) := by have h := HD1.out; rw [hso] at h; exact h
        have HVE : Hid (V1 = 0 ∧ E1 = 10) := by show _ ∧ _; rw [HV1.out, HE1.out, ← HD2.out, hso]; exact ⟨rfl, rfl⟩
        have HV : Hid (∀ v : Int, Calls Try.prog 56 #[.pointer (some ⟨g, 0, none⟩), .int .i64 v] w3 fun e' w' => e' = .returned (.tuple #[.int .i64 0, .int .i64 10]) ∧ w3 = w') := fun v => rTold_over w3 g vc BB A mm c xs q3 G HE3.out hso v
        rw [hso] at d5
        clear hso HD1 HV1 HE1
        cases high
        all_goals
          go_wp2_with fail
          refine (HV.out _).mono ?_
          rintro x w9 ⟨rfl, rfl⟩
          go_wp2_with fail
          go_ret2
          exact ⟨by rw [HVE.out.1, HVE.out.2]; rfl, q3, by rw [← HD2.out]; exact HE3.out, HK3.out⟩
    · obtain rfl : n = i := by omega
      rw [Nat.sub_self] at hd1 hl1
      obtain rfl : d1 = D := hd1
      obtain rfl : l = L := by rw [← hl1]; simp [Dec.walkL]
      have HVE : Hid (V1 = valT high l ∧ E1 = 0) := by show _ ∧ _; rw [HV1.out, HE1.out, ho1]; exact ⟨rfl, rfl⟩
      have hsub : (m : Int) - 2 ^ n = (valH l : Int) := by rw [hmv, powI]; omega
      have hmi : (m : Int) < 1000000 := by have hp16 : 2 ^ n ≤ 2 ^ 16 := Nat.pow_le_pow_right (by omega) hn; omega
      have hvhi : (valH l : Int) < 65536 := by have hp16 : 2 ^ n ≤ 2 ^ 16 := Nat.pow_le_pow_right (by omega) hn; omega
      have HV : Hid (∀ v : Int, Calls Try.prog 56 #[.pointer (some ⟨g, 0, none⟩), .int .i64 v] wr fun e' w' => e' = .returned (.tuple #[.int .i64 v, .int .i64 0]) ∧ wr = w') := fun v => rTold_no wr g vc BB A mm c xs q1 d1 H1.out ho1 v
      have hvh2 : (valH l : Int) = (valT true l : Nat) := rfl
      have HVV : Hid ((v : Int) = (valT false l : Nat)) := by show _ = _; rw [hvv]; rfl
      clear HV1 HE1 HD HL HX hok1 hch1 hl1 hll hlx hmv hvv hvh hvl ho1
      cases high
      · go_wp2_with fail
        refine (HV.out _).mono ?_
        rintro x w9 ⟨rfl, rfl⟩
        go_wp2_with fail
        go_ret2
        exact ⟨by rw [HVE.out.1, HVE.out.2, HVV.out]; rfl, q1, H1.out, HK.out⟩
      · clear hvh2
        go_wp2_with fail
        refine (HV.out _).mono ?_
        rintro x w9 ⟨rfl, rfl⟩
        go_wp2_with fail
        go_ret2
        exact ⟨by rw [HVE.out.1, HVE.out.2]; rfl, q1, H1.out, HK.out⟩
end Go.Proofs.Ytiikbpcaeoodjaa
