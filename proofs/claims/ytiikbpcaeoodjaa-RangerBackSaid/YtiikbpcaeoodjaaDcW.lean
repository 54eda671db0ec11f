/- The decoder: a number's bits by a tree. -/
import Derived.Test.YtiikbpcaeoodjaaDcD
namespace Go.Proofs.Ytiikbpcaeoodjaa
open Go.RowKit
set_option linter.unusedVariables false
set_option linter.unusedSimpArgs false

namespace Dec
def walkD (d : Dec) (base m : Nat) : Nat → Dec
  | 0 => d
  | n + 1 => if (d.get (base + m)).over then d.get (base + m) else (d.get (base + m)).walkD base (2 * m + d.told (base + m)) n
def walkL (d : Dec) (base m : Nat) : Nat → List Nat
  | 0 => []
  | n + 1 => d.told (base + m) :: (d.get (base + m)).walkL base (2 * m + d.told (base + m)) n
theorem walkL_len (base : Nat) : ∀ (n : Nat) (d : Dec) (m : Nat), (d.walkL base m n).length = n
  | 0, _, _ => rfl
  | n + 1, d, m => by simp [walkL, walkL_len base n]
theorem told_le (d : Dec) (i : Nat) : d.told i ≤ 1 := by unfold told; split; omega; exact bitOf_le _ _ _
theorem walkL_le (base : Nat) : ∀ (n : Nat) (d : Dec) (m : Nat), ∀ x ∈ d.walkL base m n, x ≤ 1
  | 0, _, _, x, h => by cases h
  | n + 1, d, m, x, h => by
    rcases List.mem_cons.1 h with rfl | h
    · exact told_le _ _
    · exact walkL_le base n _ _ x h
theorem walkD_ok (base N len : Nat) (hN : base + N ≤ len) : ∀ (n : Nat) (d : Dec) (m : Nat), d.Ok → d.ch.length = len → (m + 1) * 2 ^ n ≤ 2 * N →
    (d.walkD base m n).Ok ∧ (d.walkD base m n).rest.length ≤ d.rest.length ∧ (d.walkD base m n).ch.length = len
  | 0, d, m, h, hl, _ => ⟨h, Nat.le_refl _, hl⟩
  | n + 1, d, m, h, hl, hm => by
    have hx1 := told_le d (base + m)
    have hp := Nat.two_pow_pos n
    rw [Nat.pow_succ] at hm
    have h1 : (m + 1) * 2 ^ n ≤ N := by
      rw [← Nat.mul_assoc] at hm
      omega
    have h2 : m + 1 ≤ (m + 1) * 2 ^ n := Nat.le_mul_of_pos_right _ hp
    have hb : base + m < d.ch.length := by omega
    obtain ⟨g1, g2, g3⟩ := get_ok d h (base + m) hb
    unfold walkD
    split
    · exact ⟨g1, g2, g3.trans hl⟩
    · have h3 : (2 * m + d.told (base + m) + 1) * 2 ^ n ≤ 2 * N := by
        have h4 : (2 * m + d.told (base + m) + 1) * 2 ^ n ≤ (2 * (m + 1)) * 2 ^ n := Nat.mul_le_mul_right _ (by omega)
        rw [Nat.mul_assoc] at h4
        omega
      obtain ⟨a1, a2, a3⟩ := walkD_ok base N len hN n (d.get (base + m)) (2 * m + d.told (base + m)) g1 (g3.trans hl) h3
      exact ⟨a1, Nat.le_trans a2 g2, a3⟩
end Dec

set_option maxRecDepth 8000 in
theorem dWalk_bad (w : World) (g gc cc : Nat) (RB : Nat → Prop) (A : Option Addr) (c : Nat) (d : Dec) (h : DecAt w g gc cc RB A c d) (hlen : d.ch.length ≤ 65536) (base n : Int) (hbk : inKind .i64 base) (hnk : inKind .i64 n) (hb : mayT base n d.ch.length = false) :
    Calls Try.prog 60 #[.pointer (some ⟨g, 0, none⟩), .int .i64 base, .int .i64 n] w fun e' w' => e' = .returned (.tuple #[.slice none 0 0, .int .i64 2]) ∧ w = w' := by
  have HN := Lib.hid (dNone_is w g gc cc RB A c d h)
  have HT := Lib.hid (tree_is w gc cc d.ch.length base n hlen hbk hnk)
  rw [hb] at HT
  have d1 := blk_cell h.blk 1
  simp at d1
  generalize d.ch.length = len at *
  clear h hlen hbk hnk hb
  go_enter Try.func60, Try.ntmps60
  go_wp2_with fail
  refine HN.out.mono ?_
  rintro x w1 ⟨rfl, rfl⟩
  go_wp2_with fail
  refine HT.out.mono ?_
  rintro x w1 ⟨rfl, rfl⟩
  go_wp2_with fail
  go_ret2
  exact ⟨rfl, rfl⟩
set_option maxRecDepth 8000 in
theorem dWalk_over (w : World) (g gc cc : Nat) (RB : Nat → Prop) (A : Option Addr) (c : Nat) (d : Dec) (h : DecAt w g gc cc RB A c d) (ho : d.over = true) (hlen : d.ch.length ≤ 65536) (base n : Int) (hbk : inKind .i64 base) (hnk : inKind .i64 n) (hb : mayT base n d.ch.length = true) :
    Calls Try.prog 60 #[.pointer (some ⟨g, 0, none⟩), .int .i64 base, .int .i64 n] w fun e' w' => e' = .returned (.tuple #[.slice none 0 0, .int .i64 10]) ∧ w = w' := by
  have HN := Lib.hid (dNone_is w g gc cc RB A c d h)
  have HT := Lib.hid (tree_is w gc cc d.ch.length base n hlen hbk hnk)
  rw [hb] at HT
  have d1 := blk_cell h.blk 1
  have d5 := blk_cell h.blk 5
  simp at d1 d5
  rw [ho] at d5
  generalize d.ch.length = len at *
  clear h hlen hbk hnk hb ho
  go_enter Try.func60, Try.ntmps60
  go_wp2_with fail
  refine HN.out.mono ?_
  rintro x w1 ⟨rfl, rfl⟩
  go_wp2_with fail
  refine HT.out.mono ?_
  rintro x w1 ⟨rfl, rfl⟩
  go_wp2_with fail
  go_ret2
  exact ⟨rfl, rfl⟩

set_option maxRecDepth 8000 in
set_option maxHeartbeats 4000000 in
theorem dWalk_is (w : World) (g gc cc : Nat) (RB : Nat → Prop) (A : Option Addr) (c : Nat) (d : Dec) (h : DecAt w g gc cc RB A c d) (hok : d.Ok) (ho : d.over = false) (hlen : d.ch.length ≤ 65536) (base n : Nat) (hn : n ≤ 16) (hbn : base + 2 ^ n ≤ d.ch.length) (hrb : ∀ k, RB k → k < w.heap.size) :
    Calls Try.prog 60 #[.pointer (some ⟨g, 0, none⟩), .int .i64 base, .int .i64 n] w fun e' w' => ∃ (Al : Option Addr) (ln cl er : Nat), e' = .returned (.tuple #[.slice Al ln cl, .int .i64 (er : Nat)]) ∧
      ((d.walkD base 1 n).over = true ∧ Al = none ∧ ln = 0 ∧ cl = 0 ∧ er = 10 ∨ (d.walkD base 1 n).over = false ∧ ln = n ∧ er = 0 ∧ w'.ownsRow w.heap.size 3 1 (.slice Al ln cl) n ((toI (d.walkL base 1 n)).map (Value.int .i64))) ∧
      DecTo2 w g gc cc RB (d.walkD base 1 n) w' := by
  have HN := Lib.hid (dNone_is w g gc cc RB A c d h)
  have HT := Lib.hid (tree_is w gc cc d.ch.length base n hlen (mk_i64 (by omega) (by have := Nat.two_pow_pos n; omega)) (mk_i64 (by omega) (by omega)))
  rw [mayT_iff.2 ⟨by omega, by omega, by omega, by simp only [Int.toNat_natCast]; rw [powI]; omega⟩] at HT
  have d1 := blk_cell h.blk 1
  have d5 := blk_cell h.blk 5
  simp at d1 d5
  rw [ho] at d5
  have hgs := blk_lt h.blk
  have hgcs : gc < w.heap.size := by obtain ⟨cs, h2⟩ := h.chs_blk; exact blk_lt h2
  obtain ⟨len, hle⟩ : ∃ len, len = d.ch.length := ⟨_, rfl⟩
  rw [← hle] at hbn hlen HT d1
  obtain ⟨D, hD⟩ : ∃ D, D = d.walkD base 1 n := ⟨_, rfl⟩
  obtain ⟨L, hL⟩ : ∃ L, L = d.walkL base 1 n := ⟨_, rfl⟩
  rw [← hD, ← hL]
  have HD := Lib.hid hD
  have HL := Lib.hid hL
  have H := Lib.hid h
  have HOK := Lib.hid (And.intro hok (And.intro ho hle.symm))
  have HLEN := Lib.hid (And.intro hbn hlen)
  have hbi : (base : Int) ≤ 65536 := by have := Nat.two_pow_pos n; omega
  clear h hok ho hle hlen hbn hD hL
  go_enter Try.func60, Try.ntmps60
  go_wp2_with fail
  refine HN.out.mono ?_
  rintro x w1 ⟨rfl, rfl⟩
  go_wp2_with fail
  refine HT.out.mono ?_
  rintro x w1 ⟨rfl, rfl⟩
  go_wp2_with fail
  clear d1 d5 HN HT
  go_loopw [8, 9, 30] (fun vm vl vi wr => ∃ (i m : Nat) (l : List Nat) (A' : Option Addr) (c' : Nat) (d1 : Dec), i ≤ n ∧ vm = .int .i64 m ∧ vi = .int .i64 i ∧ Hid (DecAt wr g gc cc RB A' c' d1) ∧ Hid (wr.ownsRow w.heap.size 3 1 vl i ((toI l).map (Value.int .i64))) ∧ Hid (d1.Ok ∧ d1.over = false ∧ d1.ch.length = len ∧ d1.walkD base m (n - i) = D ∧ l ++ d1.walkL base m (n - i) = L ∧ m < 2 ^ (i + 1)) ∧ Hid (Keeps (fun k => k = g ∨ k = gc) w wr)) (fun _ _ vi _ => n - (intOf vi).toNat)
  case atStart => exact ⟨0, 1, [], A, c, d, by omega, rfl, rfl, H.out, own_nil _ _ _, ⟨HOK.out.1, HOK.out.2.1, HOK.out.2.2, HD.out.symm, HL.out.symm, by decide⟩, Keeps.refl _ _⟩
  case round =>
    obtain ⟨i, m, l, A', c', d1, hi, rfl, rfl, H1, HO, HX, HK⟩ := hrel
    obtain ⟨A1, c1, rfl⟩ := rowf HO.out
    by_cases hin : i < n
    · obtain ⟨hok1, ho1, hch1, hd1, hl1, hmb⟩ := HX.out
      obtain ⟨k, hk⟩ : ∃ k, n - i = k + 1 := ⟨n - i - 1, by omega⟩
      have hk2 : n - (i + 1) = k := by omega
      rw [hk] at hd1 hl1
      have hpw : 2 ^ (i + 1) ≤ 2 ^ n := Nat.pow_le_pow_right (by omega) (by omega)
      have hp16 : 2 ^ n ≤ 2 ^ 16 := Nat.pow_le_pow_right (by omega) hn
      have hlb := HLEN.out
      have hbm : base + m < len := by omega
      have HC := Lib.hid (dChance_is wr g gc cc RB A' c' d1 H1.out hok1 (base + m) (by omega) (by omega))
      obtain ⟨G, hG⟩ : ∃ G, G = d1.get (base + m) := ⟨_, rfl⟩
      obtain ⟨T, hT⟩ : ∃ T, T = d1.told (base + m) := ⟨_, rfl⟩
      have hgok := Dec.get_ok d1 hok1 (base + m) (by omega)
      have hT1 : T ≤ 1 := by rw [hT]; exact Dec.told_le _ _
      have HD1 : Hid ((if G.over then G else G.walkD base (2 * m + T) k) = D) := by show _ = _; rw [← hd1, hG, hT]; rfl
      have HL1 : Hid (l ++ T :: G.walkL base (2 * m + T) k = L) := by show _ = _; rw [← hl1, hG, hT]; rfl
      rw [← hG, ← hT] at HC
      rw [← hG] at hgok
      have HGK := Lib.hid (And.intro hgok.1 (hgok.2.2.trans hch1))
      have HM2 : Hid (2 * m + T < 2 ^ (i + 1 + 1)) := by show _ < _; rw [Nat.pow_succ]; omega
      have HKK := Lib.hid hk2
      rw [show (((base + m : Nat)) : Int) = (base : Int) + (m : Int) by omega] at HC
      have hmi : (m : Int) < 1000000 := by omega
      have hor := or_low m T hT1 (by omega)
      obtain ⟨m2, hm2⟩ : ∃ m2, m2 = 2 * m + T := ⟨_, rfl⟩
      rw [← hm2] at HD1 HL1 HM2 hor
      have hbz : (base : Int) + (m : Int) < 1000000 := by omega
      have hTi : (T : Int) ≤ 1 := by omega
      clear hok1 ho1 hch1 hd1 hl1 hmb hk hk2 hpw hp16 hlb hbm hG hT hgok hm2 hT1
      cases hso : G.over
      · have HD2 : Hid (G.walkD base m2 k = D) := by have h := HD1.out; rw [hso] at h; exact h
        rw [hso] at HC
        simp only [Bool.false_eq_true, if_false, Bool.not_false] at HC
        have HSO := Lib.hid hso
        go_wp2_with fail
        refine HC.out.mono ?_
        rintro x w3 ⟨rfl, A3, c3, h3, hk3⟩
        have HE3 := Lib.hid h3
        have HO3 := Lib.hid (owns_keep HO.out hk3 (fun b hb h9 => by have h1 := own_ge HO.out b hb; omega))
        have HK3 : Hid (Keeps (fun k => k = g ∨ k = gc) w w3) := Keeps.trans HK.out hk3 fun _ _ h => h
        have hz3 := HK3.out.size
        clear h3 hk3 HC H1 HO HK
        go_wp2_with (at_builtin; refine wpList_app1 rfl (.tmp 46) (.tmp 48) 27 3 rfl Try.underlying27 Try.infoI9 rfl w.heap.size _ i _ rfl HO3.out hz3 rfl rfl (by unfold maxLen; omega) (by omega) ?_)
        intro gl cap w5 ho5 hk5 _
        have HO5 : Hid (w5.ownsRow w.heap.size 3 1 (.slice (some ⟨gl, 0, none⟩) (i + 1) cap) (i + 1) ((toI (l ++ [T])).map (Value.int .i64))) := by
          show World.ownsRow _ _ _ _ _ _ _
          rw [show toI (l ++ [T]) = toI l ++ [((T : Nat) : Int)] by simp [toI], List.map_append]
          exact ho5
        have hni : ∀ b, b < w3.heap.size → (Value.slice A1 i c1).ownBlock = some b → w.heap.size ≤ b := fun b _ hb => own_ge HO3.out b hb
        have HE5 : Hid (DecAt w5 g gc cc RB A3 c3 G) := HE3.out.keep hk5 (fun h => by have := own_ge HO3.out g h; omega) (fun h => by have := own_ge HO3.out gc h; omega) (fun b hb h => by have h1 := own_ge HO3.out b h; have h2 := hrb b hb; omega)
        have HK5 : Hid (Keeps (fun k => k = g ∨ k = gc) w w5) := Keeps.trans HK3.out hk5 fun b hb h => by have := own_ge HO3.out b h; omega
        clear ho5 hk5 HE3 HK3 HO3
        go_wp2_with fail
        go_roundw
        case rel => exact ⟨i + 1, m2, l ++ [T], A3, c3, G, by omega, by go_num, by go_num, HE5.out, HO5.out, ⟨HGK.out.1, HSO.out, HGK.out.2, by rw [HKK.out]; exact HD2.out, by rw [HKK.out, List.append_assoc]; exact HL1.out, HM2.out⟩, HK5.out⟩
        case measure => simp [intOf]; omega
      · have HD2 : Hid (G = D) := by have h := HD1.out; rw [hso] at h; exact h
        rw [hso] at HC
        simp only [if_true, Bool.not_true] at HC
        have HSO := Lib.hid hso
        go_wp2_with fail
        refine HC.out.mono ?_
        rintro x w3 ⟨rfl, A3, c3, h3, hk3⟩
        have HE3 := Lib.hid h3
        have HK3 : Hid (Keeps (fun k => k = g ∨ k = gc) w w3) := Keeps.trans HK.out hk3 fun _ _ h => h
        clear h3 hk3 HC H1 HO HK
        go_wp2_with fail
        go_ret2
        exact ⟨none, 0, 0, 10, rfl, .inl ⟨by rw [← HD2.out]; exact HSO.out, rfl, rfl, rfl, rfl⟩, A3, c3, by rw [← HD2.out]; exact HE3.out, HK3.out⟩
    · obtain rfl : n = i := by omega
      have hd : D = d1 := by
        have h1 := HX.out.2.2.2.1
        rw [Nat.sub_self] at h1
        exact h1.symm
      have hv : L = l := by
        have h1 := HX.out.2.2.2.2.1
        rw [Nat.sub_self] at h1
        simpa [Dec.walkL] using h1.symm
      have ho := HX.out.2.1
      rw [← hd] at ho
      have HO9 := Lib.hid ho
      have HVV := Lib.hid hv
      have HDD := Lib.hid hd
      clear HD HL hd hv ho
      go_wp2_with fail
      go_ret2
      exact ⟨A1, n, c1, 0, rfl, .inr ⟨HO9.out, rfl, rfl, by rw [HVV.out]; exact HO.out⟩, A', c', by rw [HDD.out]; exact H1.out, HK.out⟩
end Go.Proofs.Ytiikbpcaeoodjaa
