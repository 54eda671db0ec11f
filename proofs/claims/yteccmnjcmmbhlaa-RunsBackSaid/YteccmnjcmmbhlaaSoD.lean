/- Bytes sorted: heapSortOrdered. -/
import Derived.Test.YteccmnjcmmbhlaaSoB
import Derived.Test.YteccmnjcmmbhlaaSoC
namespace Go.Proofs.Yteccmnjcmmbhlaa
open Go.RowKit
open Go.Sort (swp ltInt)
set_option linter.unusedVariables false
set_option linter.unusedSimpArgs false

theorem RowD.cellset {w : World} {g cap : Nat} {d : Array Int} (h : RowD w g cap d) {i j : Nat} (hi : i < d.size) (hj : j < d.size) (v : Value) : ∃ u, (w.setCell ⟨g, i, none⟩ v).cell? ⟨g, j, none⟩ = some u := by
  obtain ⟨cur, hh, hs, hd, hc⟩ := h
  rw [blk_cell (blk_set hh i v)]
  exact ⟨_, Array.getElem?_eq_getElem (by simp; omega)⟩
theorem sift_size (hi first root : Nat) (d : Array Int) : (Go.Sort.siftDown ltInt hi first root d).size = d.size := by
  fun_induction Go.Sort.siftDown ltInt hi first root d <;> simp_all [Go.Sort.swp_size]
theorem insInner_size (a : Nat) : ∀ (j : Nat) (d : Array Int), (Go.Sort.insInner ltInt a j d).size = d.size
  | 0, d => rfl
  | j + 1, d => by
    rw [insInner_succ]
    split
    · rw [insInner_size, Go.Sort.swp_size]
    · rfl
theorem insOuter_size (a b i : Nat) (d : Array Int) : (Go.Sort.insOuter ltInt a b i d).size = d.size := by
  fun_induction Go.Sort.insOuter ltInt a b i d <;> simp_all [insInner_size]
theorem rev_size (i j : Nat) (d : Array Int) : (Go.Sort.reverseLoop i j d).size = d.size := by
  fun_induction Go.Sort.reverseLoop i j d <;> simp_all [Go.Sort.swp_size]
set_option maxRecDepth 4000 in
set_option maxHeartbeats 4000000 in
theorem heap_is (w : World) (g n cap a b : Nat) (d : Array Int) (h : RowD w g cap d) (hn : d.size = n) (hab : a < b) (hbn : b ≤ n) (hnb : n ≤ 1099511627776) :
    Calls Try.prog 54 #[.slice (some ⟨g, 0, none⟩) n cap, .int .i64 (a : Nat), .int .i64 (b : Nat)] w fun e w' => e = .returned (.tuple #[]) ∧ RowD w' g cap (Go.Sort.heapSort ltInt d a b) ∧ Keeps (fun k => k = g) w w' := by
  obtain ⟨R, hR⟩ : ∃ R, R = Go.Sort.heapSort ltInt d a b := ⟨_, rfl⟩
  rw [← hR]
  obtain ⟨hi, hhi⟩ : ∃ hi, hi = b - a := ⟨_, rfl⟩
  obtain ⟨mid, hmid⟩ : ∃ mid, mid = (hi - 1) / 2 := ⟨_, rfl⟩
  have HR : Hid (Go.Sort.heapPop ltInt a hi (Go.Sort.heapBuild ltInt hi a (mid + 1) d) = R) := by
    show _ = _
    rw [hR, hmid, hhi]; rfl
  have H := Lib.hid h
  have HN := Lib.hid hn
  have hbi : (b : Int) - (a : Int) = (hi : Int) := by omega
  have hmi : ((hi : Int) - 1) / 2 = (mid : Int) := by omega
  have hmt : ((hi : Int) - 1).tdiv 2 = (mid : Int) := by rw [Int.tdiv_eq_ediv_of_nonneg (by omega)]; exact hmi
  have hni : (n : Int) ≤ 1099511627776 := by omega
  have hhn : a + hi ≤ n := by omega
  have hhp : 0 < hi := by omega
  have hmh : mid < hi := by omega
  clear h hR hn hhi hmid
  go_enter Try.func54, Try.ntmps54
  go_wp2_with fail
  go_loopw [9] (fun vi wr => ∃ (k : Nat) (z : Int) (dk : Array Int), k ≤ hi ∧ z = (k : Int) - 1 ∧ vi = .int .i64 z ∧ Hid (dk.size = n) ∧ Hid (RowD wr g cap dk) ∧ Hid (Go.Sort.heapPop ltInt a hi (Go.Sort.heapBuild ltInt hi a k dk) = R) ∧ Hid (Keeps (fun k => k = g) w wr)) (fun vi _ => (intOf vi + 1).toNat)
  case atStart => exact ⟨mid + 1, mid, d, by omega, by omega, rfl, HN.out, H.out, HR.out, Keeps.refl _ _⟩
  case round =>
    obtain ⟨k, z, dk, hk, hz, rfl, HS, HD, HE, HK⟩ := hrel
    rcases k with _ | q
    · have hz1 : z = -1 := by omega
      subst hz1
      have HE1 : Hid (Go.Sort.heapPop ltInt a hi dk = R) := HE.out
      clear HR H HN HE hz
      go_wp2_with fail
      go_loopw [10] (fun vi wr => ∃ (k : Nat) (z : Int) (dk : Array Int), k ≤ hi ∧ z = (k : Int) - 1 ∧ vi = .int .i64 z ∧ Hid (dk.size = n) ∧ Hid (RowD wr g cap dk) ∧ Hid (Go.Sort.heapPop ltInt a k dk = R) ∧ Hid (Keeps (fun k => k = g) w wr)) (fun vi _ => (intOf vi + 1).toNat)
      case atStart => exact ⟨hi, _, dk, Nat.le_refl _, rfl, rfl, HS.out, HD.out, HE1.out, HK.out⟩
      case round =>
        clear HS HD HE1 HK
        obtain ⟨k, z, dk, hk, hz, rfl, HS, HD, HE, HK⟩ := hrel
        rcases k with _ | q
        · have hz1 : z = -1 := by omega
          subst hz1
          clear hz
          have hR9 : dk = R := HE.out
          go_wp2_with fail
          go_end0
          exact ⟨rfl, by rw [← hR9]; exact HD.out, HK.out⟩
        · have hz1 : z = (q : Int) := by omega
          subst hz1
          clear hz
          obtain ⟨p, hp⟩ : ∃ p, p = a + q := ⟨_, rfl⟩
          have hpi : (a : Int) + (q : Int) = (p : Int) := by omega
          have hpn : (p : Int) < (n : Int) := by omega
          have han : (a : Int) < (n : Int) := by omega
          have ha1 : a < dk.size := by rw [HS.out]; omega
          have hp1 : p < dk.size := by rw [HS.out]; omega
          have c1 := HD.out.cell ha1
          have c0 := HD.out.cell hp1
          have HST : Hid (Go.Sort.heapPop ltInt a q (Go.Sort.siftDown ltInt q a 0 (swp dk a p)) = R) := by
            show _ = _
            have h9 := HE.out
            rw [Go.Sort.heapPop, ← hp] at h9
            exact h9
          obtain ⟨x, hx⟩ : ∃ x, x = dk[a]! := ⟨_, rfl⟩
          obtain ⟨y, hy⟩ : ∃ y, y = dk[p]! := ⟨_, rfl⟩
          rw [← hx] at c1
          rw [← hy] at c0
          have HXY := Lib.hid (And.intro hx (And.intro hy (And.intro ha1 hp1)))
          have HP := Lib.hid hp
          clear hx hy ha1 hp1 HE hp
          have HDd := Lib.hid HD.out.drew
          have HKd := Lib.hid HK.out.drew
          have c1 : wr.drew.cell? ⟨g, a, none⟩ = some (.int .u8 x) := c1
          have c0 : wr.drew.cell? ⟨g, p, none⟩ = some (.int .u8 y) := c0
          go_upto_region 10 with fail
          refine wp_region_seq (by kernel_rfl) (by kernel_rfl) ?_
          generalize wr.drew = w6 at *
          have f1 := HDd.out.frz (a)
          have f0 := HDd.out.frz (p)
          have hsw := HDd.out.swap HXY.out.2.2.1 HXY.out.2.2.2
          rw [← HXY.out.1, ← HXY.out.2.1] at hsw
          have HSW := Lib.hid hsw
          have HKS := Lib.hid (Keeps.trans HKd.out (keeps_swap w6 g (a) (p) (.int .u8 y) (.int .u8 x)) fun _ _ h => h)
          obtain ⟨u2, c2⟩ := HDd.out.cellset HXY.out.2.2.1 HXY.out.2.2.2 (.int .u8 y)
          clear hsw
          go_wp2_with fail
          refine ⟨by kernel_rfl, ?_⟩
          generalize (w6.setCell ⟨g, a, none⟩ (.int .u8 y)).setCell ⟨g, p, none⟩ (.int .u8 x) = w7 at *
          go_wp2_with fail
          refine (sift_is w7 g n cap 0 q a _ HSW.out (by rw [Go.Sort.swp_size]; exact HS.out) (by omega) (by omega) (by omega)).mono ?_
          rintro e w8 ⟨rfl, hd8, hk8⟩
          have HD8 := Lib.hid hd8
          have HK8 := Lib.hid (Keeps.trans HKS.out hk8 fun _ _ h => h)
          clear hd8 hk8
          go_wp2_with fail
          go_roundw
          case rel => exact ⟨q, _, _, by omega, rfl, rfl, by rw [sift_size, Go.Sort.swp_size]; exact HS.out, HD8.out, HST.out, HK8.out⟩
          case measure => (simp [intOf] <;> omega)
    · have hz1 : z = (q : Int) := by omega
      subst hz1
      clear hz HR H HN
      have HST : Hid (Go.Sort.heapPop ltInt a hi (Go.Sort.heapBuild ltInt hi a q (Go.Sort.siftDown ltInt hi a q dk)) = R) := HE.out
      go_wp2_with fail
      refine (sift_is wr g n cap q hi a _ HD.out HS.out (by omega) (by omega) (by omega)).mono ?_
      rintro e w8 ⟨rfl, hd8, hk8⟩
      have HD8 := Lib.hid hd8
      have HK8 := Lib.hid (Keeps.trans HK.out hk8 fun _ _ h => h)
      clear hd8 hk8
      go_wp2_with fail
      go_roundw
      case rel => exact ⟨q, _, _, by omega, rfl, rfl, by rw [sift_size]; exact HS.out, HD8.out, HST.out, HK8.out⟩
      case measure => (simp [intOf] <;> omega)
end Go.Proofs.Yteccmnjcmmbhlaa
