/- Bytes sorted: breakPatternsOrdered. -/
import Derived.Test.YteccmnjcmmbhlaaSoG
import Derived.Laws.Bits64b
import Derived.Sort.LotD5
namespace Go.Proofs.Yteccmnjcmmbhlaa
open Go.RowKit
open Go.Sort (swp ltInt PermIn)
set_option linter.unusedVariables false
set_option linter.unusedSimpArgs false

def XAt (w : World) (s : Nat) (X : Nat) : Prop := w.heap[s]? = some (.cells #[.int .u64 (X : Nat)] 94 (0, 0))
theorem XAt.cell {w : World} {s k : Nat} (h : XAt w s k) : w.cell? ⟨s, 0, none⟩ = some (.int .u64 (k : Nat)) := by
  rw [blk_cell h]; rfl
theorem XAt.frz {w : World} {s k : Nat} (h : XAt w s k) : w.frozen? ⟨s, 0, none⟩ = false := blk_frozen h 0
theorem XAt.set {w : World} {s k : Nat} (h : XAt w s k) (m : Nat) : XAt (w.setCell ⟨s, 0, none⟩ (.int .u64 (m : Nat))) s m := by
  have := blk_set h 0 (.int .u64 (m : Nat))
  exact this
theorem XAt.far {w w' : World} {s g k : Nat} (h : XAt w s k) (hk : Keeps (fun k => k = g) w w') (hne : s ≠ g) : XAt w' s k := block_keep h hk hne
theorem npow_le (l : Nat) (h : 0 < l) : (1 <<< Go.Sort.bitsLen l) ≤ 2 * l ∧ 1 ≤ 1 <<< Go.Sort.bitsLen l := by
  rw [Nat.one_shiftLeft]
  refine ⟨?_, Nat.one_le_two_pow⟩
  obtain ⟨k, hk⟩ : ∃ k, Go.Sort.bitsLen l = k + 1 := ⟨Go.Sort.bitsLen l - 1, by
    have h0 : ¬ Go.Sort.bitsLen l ≤ 0 := fun h9 => by
      have := (Go.Sort.bitsLen_le_iff l 0).1 h9
      omega
    omega⟩
  have h2 : ¬ l < 2 ^ k := fun h9 => by
    have := (Go.Sort.bitsLen_le_iff l k).2 h9
    omega
  rw [hk, Nat.pow_succ]
  omega
set_option maxRecDepth 4000 in
set_option maxHeartbeats 4000000 in
theorem break_is (w : World) {g n cap a b : Nat} {d : Array Int} (h : RowD w g cap d) (hn : d.size = n) (hab : a + 12 < b) (hbn : b ≤ n) (hnb : n ≤ 1099511627776) :
    Calls Try.prog 55 #[.slice (some ⟨g, 0, none⟩) n cap, .int .i64 (a : Nat), .int .i64 (b : Nat)] w fun e w' => e = .returned (.tuple #[]) ∧ ∃ d', PermIn a b d d' ∧ RowD w' g cap d' ∧ Keeps (fun k => k = g) w w' := by
  obtain ⟨l, hl⟩ : ∃ l, l = b - a := ⟨_, rfl⟩
  obtain ⟨q, hq⟩ : ∃ q, q = l / 4 := ⟨_, rfl⟩
  obtain ⟨i0, hi0⟩ : ∃ i, i = a + q * 2 - 1 := ⟨_, rfl⟩
  have hbl : (b : Int) - (a : Int) = (l : Int) := by omega
  have hlq : (l : Int) / 4 = (q : Int) := by omega
  have hlq2 : (l : Int).tdiv 4 = (q : Int) := by rw [Int.tdiv_eq_ediv_of_nonneg (by omega)]; exact hlq
  have hai : (a : Int) + (q : Int) * 2 - 1 = (i0 : Int) := by omega
  have hl8 : ((8 : Int) ≤ (l : Int)) = True := eq_true (by omega)
  have hni : (n : Int) ≤ 1099511627776 := by omega
  have hin : a ≤ i0 ∧ i0 + 2 < b := by omega
  have H := Lib.hid h
  have hli : (l : Int) ≤ (n : Int) := by omega
  have hqi : (q : Int) ≤ (n : Int) := by omega
  obtain ⟨s, hs⟩ : ∃ s, s = w.heap.size := ⟨_, rfl⟩
  have hsg : s ≠ g := by have := h.lt; omega
  obtain ⟨m, hm⟩ : ∃ m, m = 1 <<< Go.Sort.bitsLen l := ⟨_, rfl⟩
  have hm2 := npow_le l (by omega)
  have HNP := Lib.hid (fun w => Try.npow_is l (by omega) w)
  rw [← hm] at hm2 HNP
  clear h hl hq hm
  go_enter Try.func55, Try.ntmps55
  go_upto_region 3 with fail
  have HX0 : Hid (XAt (w.alloc (.cells #[.int .u64 (l : Nat)] 94)) s l) := by
    rw [hs]; exact heap_alloc_new w _
  have HK0 := Lib.hid ((Keeps.refl (fun k => k = g) w).alloc (.cells #[.int .u64 (l : Nat)] 94))
  have H0 := Lib.hid (H.out.keep ((Keeps.refl (fun _ => False) w).alloc (.cells #[.int .u64 (l : Nat)] 94)) id)
  have hsw : w.heap.size ≤ s := by omega
  simp only [← hs]
  clear hs H
  generalize w.alloc (.cells #[.int .u64 (l : Nat)] 94) = w1 at *
  go_wp2_with fail
  refine (HNP.out _).mono ?_
  rintro e _ ⟨rfl, rfl⟩
  have hmi : (m : Int) ≤ 2 * (l : Int) := by omega
  have hm1 : 1 ≤ (m : Int) := by omega
  obtain ⟨i2, hi2⟩ : ∃ i2, i2 = i0 + 2 := ⟨_, rfl⟩
  have hai2 : (a : Int) + (q : Int) * 2 + 1 = (i2 : Int) := by omega
  have han : (a : Int) ≤ (n : Int) := by omega
  clear HNP hi0
  go_wp2_with fail
  go_loopw [9, 10] (fun vi _ wr => ∃ (i : Nat) (dk : Array Int) (X : Nat), i0 ≤ i ∧ i ≤ i2 + 1 ∧ vi = .int .i64 (i : Nat) ∧ Hid (dk.size = n) ∧ Hid (RowD wr g cap dk) ∧ Hid (PermIn a b d dk) ∧ Hid (Keeps (fun k => k = g) w wr) ∧ Hid (XAt wr s X) ∧ Hid (X < 18446744073709551616)) (fun vi _ _ => i2 + 2 - (intOf vi).toNat)
  case atStart => exact ⟨i0, d, l, Nat.le_refl _, by omega, rfl, hn, H0.out, Go.Sort.permIn_refl _ _ _, HK0.out, HX0.out, show l < 18446744073709551616 by omega⟩
  case round =>
    clear H0 HK0 HX0
    obtain ⟨i, dk, X, hi1, hi3, rfl, HS, HD, HE, HK, HX, HXL⟩ := hrel
    by_cases hle : i ≤ i2
    · have hlei : (i : Int) ≤ (i2 : Int) := by omega
      have hbi : (i2 : Int) < (n : Int) := by omega
      have HNX := Lib.hid (Try.next_is s X HXL.out wr HX.out.cell HX.out.frz)
      have hxl := Go.Sort.xorNextN_lt X HXL.out
      have HX2 := Lib.hid (HX.out.set (Go.Sort.xorNextN X))
      have kset : Keeps (fun k => k = s) wr (wr.setCell ⟨s, 0, none⟩ (.int .u64 (Go.Sort.xorNextN X : Nat))) := Keeps.setCell (S := fun k => k = s) (Keeps.refl _ wr) (p := ⟨s, 0, none⟩) (fun _ => rfl) _
      have HK2 := Lib.hid (Keeps.trans HK.out kset fun i h1 h2 => by omega)
      have HD2 := Lib.hid (HD.out.keep kset fun h => hsg h.symm)
      obtain ⟨X1, hX1⟩ : ∃ X1, X1 = Go.Sort.xorNextN X := ⟨_, rfl⟩
      rw [← hX1] at HNX hxl HX2 HK2 HD2
      clear kset HK HD HX HXL
      obtain ⟨o1, ho1⟩ : ∃ o1, o1 = X1 &&& (m - 1) := ⟨_, rfl⟩
      have hand : bits .and .u64 (X1 : Int) ((m : Int) - 1) = (o1 : Int) := by
        rw [show (m : Int) - 1 = ((m - 1 : Nat) : Int) by omega, bits_and_u64_nat X1 (m - 1) hxl (by omega), ho1]
      have ho1m : o1 ≤ m - 1 := by rw [ho1]; exact Nat.and_le_right
      have ho1i : (o1 : Int) < (m : Int) := by omega
      clear ho1
      have HX1 := Lib.hid hX1
      clear hX1
      go_wp2_with fail
      refine HNX.out.mono ?_
      rintro e _ ⟨rfl, rfl⟩
      have HX5 := Lib.hid (show XAt ((wr.setCell ⟨s, 0, none⟩ (.int .u64 (X1 : Nat))).drewN 3) s X1 from HX2.out)
      have HK := Lib.hid (HK2.out.drewN 3)
      have HD := Lib.hid (HD2.out.drewN 3)
      have HXL := Lib.hid hxl
      clear HX2 HK2 HD2 HNX
      generalize (wr.setCell ⟨s, 0, none⟩ (.int .u64 (X1 : Nat))).drewN 3 = w5 at *
      by_cases hol : l ≤ o1
      · have holi : (l : Int) ≤ (o1 : Int) := by omega
        obtain ⟨o2, ho2⟩ : ∃ o2, o2 = o1 - l := ⟨_, rfl⟩
        have ho2i : (o1 : Int) - (l : Int) = (o2 : Int) := by omega
        have ho2l : o2 < l := by omega
        clear ho2
        obtain ⟨p, hp⟩ : ∃ p, p = a + o2 := ⟨_, rfl⟩
        have hpi : (a : Int) + ((o2 : Nat) : Int) = (p : Int) := by omega
        have hpn : (p : Int) < (n : Int) := by omega
        have hin1 : (i : Int) < (n : Int) := by omega
        have hi1 : i < dk.size := by rw [HS.out]; omega
        have hp1 : p < dk.size := by rw [HS.out]; omega
        have c1 := HD.out.cell hi1
        have c0 := HD.out.cell hp1
        have HPM := Lib.hid (Go.Sort.permIn_trans _ _ _ a b HE.out (Go.Sort.swp_permIn dk a b i p (by omega) (by omega) (by omega) (by omega) (by rw [HS.out]; omega)))
        obtain ⟨x, hx⟩ : ∃ x, x = dk[i]! := ⟨_, rfl⟩
        obtain ⟨y, hy⟩ : ∃ y, y = dk[p]! := ⟨_, rfl⟩
        rw [← hx] at c1
        rw [← hy] at c0
        have HXY := Lib.hid (And.intro hx (And.intro hy (And.intro hi1 hp1)))
        clear hx hy hi1 hp1 hp HE
        have HX6 := Lib.hid (show XAt w5.drew s X1 from HX5.out)
        have HDd := Lib.hid HD.out.drew
        have HKd := Lib.hid HK.out.drew
        have c1 : w5.drew.cell? ⟨g, i, none⟩ = some (.int .u8 x) := c1
        have c0 : w5.drew.cell? ⟨g, p, none⟩ = some (.int .u8 y) := c0
        go_upto_region 10 with fail
        refine wp_region_seq (by kernel_rfl) (by kernel_rfl) ?_
        generalize w5.drew = w6 at *
        have f1 := HDd.out.frz (i)
        have f0 := HDd.out.frz (p)
        have hsw := HDd.out.swap HXY.out.2.2.1 HXY.out.2.2.2
        rw [← HXY.out.1, ← HXY.out.2.1] at hsw
        have HSW := Lib.hid hsw
        have HKS := Lib.hid (Keeps.trans HKd.out (keeps_swap w6 g (i) (p) (.int .u8 y) (.int .u8 x)) fun _ _ h => h)
        obtain ⟨u2, c2⟩ := HDd.out.cellset HXY.out.2.2.1 HXY.out.2.2.2 (.int .u8 y)
        clear hsw
        go_wp2_with fail
        refine ⟨by kernel_rfl, ?_⟩
        have HXX := Lib.hid (HX6.out.far (keeps_swap w6 g i p (.int .u8 y) (.int .u8 x)) hsg)
        clear HX6
        generalize (w6.setCell ⟨g, i, none⟩ (.int .u8 y)).setCell ⟨g, p, none⟩ (.int .u8 x) = w7 at *
        go_wp2_with fail
        go_roundw
        case rel => exact ⟨i + 1, _, X1, by omega, by omega, by go_num, by rw [Go.Sort.swp_size]; exact HS.out, HSW.out, HPM.out, HKS.out, HXX.out, HXL.out⟩
        case measure => (simp [intOf] <;> omega)
      · have holi : ¬ (l : Int) ≤ (o1 : Int) := by omega
        have ho2l : o1 < l := by omega
        obtain ⟨p, hp⟩ : ∃ p, p = a + o1 := ⟨_, rfl⟩
        have hpi : (a : Int) + ((o1 : Nat) : Int) = (p : Int) := by omega
        have hpn : (p : Int) < (n : Int) := by omega
        have hin1 : (i : Int) < (n : Int) := by omega
        have hi1 : i < dk.size := by rw [HS.out]; omega
        have hp1 : p < dk.size := by rw [HS.out]; omega
        have c1 := HD.out.cell hi1
        have c0 := HD.out.cell hp1
        have HPM := Lib.hid (Go.Sort.permIn_trans _ _ _ a b HE.out (Go.Sort.swp_permIn dk a b i p (by omega) (by omega) (by omega) (by omega) (by rw [HS.out]; omega)))
        obtain ⟨x, hx⟩ : ∃ x, x = dk[i]! := ⟨_, rfl⟩
        obtain ⟨y, hy⟩ : ∃ y, y = dk[p]! := ⟨_, rfl⟩
        rw [← hx] at c1
        rw [← hy] at c0
        have HXY := Lib.hid (And.intro hx (And.intro hy (And.intro hi1 hp1)))
        clear hx hy hi1 hp1 hp HE
        have HX6 := Lib.hid (show XAt w5.drew s X1 from HX5.out)
        have HDd := Lib.hid HD.out.drew
        have HKd := Lib.hid HK.out.drew
        have c1 : w5.drew.cell? ⟨g, i, none⟩ = some (.int .u8 x) := c1
        have c0 : w5.drew.cell? ⟨g, p, none⟩ = some (.int .u8 y) := c0
        go_upto_region 10 with fail
        refine wp_region_seq (by kernel_rfl) (by kernel_rfl) ?_
        generalize w5.drew = w6 at *
        have f1 := HDd.out.frz (i)
        have f0 := HDd.out.frz (p)
        have hsw := HDd.out.swap HXY.out.2.2.1 HXY.out.2.2.2
        rw [← HXY.out.1, ← HXY.out.2.1] at hsw
        have HSW := Lib.hid hsw
        have HKS := Lib.hid (Keeps.trans HKd.out (keeps_swap w6 g (i) (p) (.int .u8 y) (.int .u8 x)) fun _ _ h => h)
        obtain ⟨u2, c2⟩ := HDd.out.cellset HXY.out.2.2.1 HXY.out.2.2.2 (.int .u8 y)
        clear hsw
        go_wp2_with fail
        refine ⟨by kernel_rfl, ?_⟩
        have HXX := Lib.hid (HX6.out.far (keeps_swap w6 g i p (.int .u8 y) (.int .u8 x)) hsg)
        clear HX6
        generalize (w6.setCell ⟨g, i, none⟩ (.int .u8 y)).setCell ⟨g, p, none⟩ (.int .u8 x) = w7 at *
        go_wp2_with fail
        go_roundw
        case rel => exact ⟨i + 1, _, X1, by omega, by omega, by go_num, by rw [Go.Sort.swp_size]; exact HS.out, HSW.out, HPM.out, HKS.out, HXX.out, HXL.out⟩
        case measure => (simp [intOf] <;> omega)
    · have hlei : ¬ (i : Int) ≤ (i2 : Int) := by omega
      have hbi : (i2 : Int) < (n : Int) := by omega
      go_wp2_with fail
      go_end0
      exact ⟨rfl, dk, HE.out, HD.out, HK.out⟩
end Go.Proofs.Yteccmnjcmmbhlaa
