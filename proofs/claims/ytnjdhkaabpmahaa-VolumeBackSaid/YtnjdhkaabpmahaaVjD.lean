/- volume: the sort of parts. -/
import Derived.Test.YtnjdhkaabpmahaaVjC
import Derived.Shelf.SlSortCmp.WholeK
import Derived.Shelf.SlicesG.Cmp
import Derived.Shelf.Lay
import Derived.Ground.SlsfProg
import Derived.Ground.SlgcProg
import Derived.Lib.SortBridge
import Derived.Lib.RowBridge
namespace Go.Proofs
open Go.Shelf Go.RowKit Go.Lib Go.Sort
set_option maxRecDepth 100000 in
shelf_lay_g SlLaysF0.n6 Slsf 6 at Try 28 as Try.sortPart
set_option maxRecDepth 100000 in
shelf_lay_g SlLaysC2.n5 Slgc 5 at Try 30 as Try.cmpInt
end Go.Proofs
namespace Go.Proofs.Ytnjdhkaabpmahaa
open Go.RowKit
set_option linter.unusedVariables false
set_option linter.unusedSimpArgs false

set_option maxHeartbeats 1000000 in
theorem cmpC_is (x y : PV) (W : World) : Calls Try.prog 29 #[.agg (encP x).toArray, .agg (encP y).toArray] W fun e w' => e = .returned (.int .i64 (Lib.compareInt (x.1.1 : Nat) (y.1.1 : Nat))) ∧ ∃ q os', w' = Sort.grow (W.drewN q) os' := by
  have hcon := fun W' => AnyG.cmp_Compare_int Try.cmpInt (x.1.1 : Nat) (y.1.1 : Nat) W'
  change ∀ W', Calls Try.prog 30 _ _ _ at hcon
  generalize Lib.compareInt (x.1.1 : Nat) (y.1.1 : Nat) = r at hcon ⊢
  unfold encP
  obtain ⟨⟨x1, x2, x3, x4⟩, xA, xn, xc⟩ := x
  obtain ⟨⟨y1, y2, y3, y4⟩, yA, yn, yc⟩ := y
  simp only at hcon
  simp only [List.toArray]
  go_enter Try.func29, Try.ntmps29
  go_wp2_with (go_at_call 30; refine (hcon _).mono ?_; rintro e w' ⟨rfl, rfl⟩)
  go_ret
  exact ⟨rfl, 0, _, by rw [Sort.alloc_eq_grow, Sort.alloc_eq_grow, Sort.grow_grow]; rfl⟩
def cfP (x y : PV) : Int := Lib.compareInt (x.1.1 : Nat) (y.1.1 : Nat)
theorem ltP (x y : PV) : ltOf cfP x y = decide (x.1.1 < y.1.1) := by
  unfold ltOf cfP Lib.compareInt
  by_cases h1 : (x.1.1 : Int) < (y.1.1 : Int)
  · have h2 : x.1.1 < y.1.1 := by omega
    simp [h1, h2]
  · have h2 : ¬ x.1.1 < y.1.1 := by omega
    by_cases h3 : (y.1.1 : Int) < (x.1.1 : Int) <;> simp [h1, h2, h3]
theorem swoP : Sort.SWO (ltOf cfP) where
  irrefl x := by rw [ltP]; simp
  trans x y z h1 h2 := by rw [ltP] at *; simp at *; omega
  ntrans x y z h1 h2 := by rw [ltP] at *; simp at *; omega
theorem aggP : ∀ w, (isAgg 51).run Try.prog w = .ok true w := fun w => by kernel_rfl
theorem sizP : ∀ w, (Go.sizeOf 51).run Try.prog w = .ok 5 w := fun w => by kernel_rfl
theorem flatP (L : List PV) : Go.Sort.flatK encP 5 L.toArray = (cellsP L).toArray := by
  apply Array.ext_getElem?
  intro t
  by_cases ht : t < L.length * 5
  · have h1 : t / 5 < L.length := by omega
    have h2 := cellsP_at L (t / 5) L[t / 5] (List.getElem?_eq_getElem h1) (t % 5) (by omega)
    rw [show t / 5 * 5 + t % 5 = t by omega] at h2
    have h8 : (cellsP L).toArray[t]? = (encP L[t / 5])[t % 5]? := by rw [List.getElem?_toArray]; exact h2
    rw [h8]
    have h3 := Go.Sort.get_flatK encP 5 L.toArray t (by simpa using ht)
    have h4 : t < (Go.Sort.flatK encP 5 L.toArray).size := by rw [Go.Sort.size_flatK]; simpa using ht
    rw [Array.getElem?_eq_getElem h4]
    have h5 : (Go.Sort.flatK encP 5 L.toArray)[t]! = (Go.Sort.flatK encP 5 L.toArray)[t] := getElem!_pos _ t h4
    rw [← h5, h3]
    have h6 : t % 5 < (encP L[t / 5]).length := by rw [encP_len]; omega
    have h7 : L.toArray[t / 5]! = L[t / 5] := by rw [getElem!_pos L.toArray (t / 5) (by simpa using h1)]; simp
    rw [h7, List.getElem?_eq_getElem h6, getElem!_pos (encP L[t / 5]) (t % 5) h6]
  · rw [Array.getElem?_eq_none (by rw [Go.Sort.size_flatK]; simp; omega), Array.getElem?_eq_none (by simp; rw [cellsP_len]; omega)]
theorem holdsP {w : World} {B g n c : Nat} {L : List PV} (h : PRow w B (some ⟨g, 0, none⟩) n c L) (hn : 0 < n) : Go.Sort.HoldsK encP 5 w g 0 L.toArray := by
  unfold Go.Sort.HoldsK
  rw [flatP]
  obtain ⟨g', e, _, _, hc⟩ := h.cells hn
  injection e with e
  injection e with e _
  subst e
  intro j hj
  have hj : j < (cellsP L).length := by simpa using hj
  have hjl := hj
  rw [cellsP_len] at hjl
  have hi : j / 5 < L.length := by omega
  have h1 := hc (j / 5) L[j / 5] (List.getElem?_eq_getElem hi) (j % 5) ((encP L[j / 5])[j % 5]'(by rw [encP_len]; omega)) (List.getElem?_eq_getElem _)
  have h2 := cellsP_at L (j / 5) L[j / 5] (List.getElem?_eq_getElem hi) (j % 5) (by omega)
  rw [show j / 5 * 5 + j % 5 = j by omega] at h1 h2
  rw [List.getElem?_eq_getElem hj, List.getElem?_eq_getElem (by rw [encP_len]; omega)] at h2
  injection h2 with h2
  rw [Nat.zero_add]
  refine ⟨?_, h1.2⟩
  rw [h1.1, ← h2]
  show _ = some (cellsP L).toArray[j]!
  rw [getElem!_pos _ j (by simpa using hj)]
  simp
theorem own_setCells {w : World} {B e g size n c : Nat} {xs ys : List Value} (h : w.ownsRow B e size (.slice (some ⟨g, 0, none⟩) n c) n xs) (hl : ys.length = n * size) : (w.setCells g 0 ys).ownsRow B e size (.slice (some ⟨g, 0, none⟩) n c) n ys := by
  rcases h.2 with ⟨hv, _⟩ | ⟨g', cap, cur, hv, hB, hh, hnc, hcm, hcs, htk⟩
  · cases hv
  · injection hv with e1 _ e3
    injection e1 with e1
    injection e1 with e1 _
    subst e1
    subst e3
    refine ⟨hl, .inr ⟨g, c, setAll cur 0 ys, rfl, hB, blk_setCells ys 0 w cur hh, hnc, hcm, by rw [setAll_size]; exact hcs, ?_⟩⟩
    have hmul : n * size ≤ c * size := Nat.mul_le_mul_right _ hnc
    refine List.ext_getElem? fun j => ?_
    by_cases hj : j < n * size
    · rw [List.getElem?_take, if_pos hj, Array.getElem?_toList, setAll_get ys 0 cur j (by omega), if_pos (by omega), Nat.sub_zero]
    · rw [List.getElem?_eq_none (by rw [List.length_take]; omega), List.getElem?_eq_none (by omega)]
theorem sort_is (w : World) (B g n c : Nat) (L : List PV) (h : PRow w B (some ⟨g, 0, none⟩) n c L) (hn : 0 < n) (hb : n ≤ 1048576) :
    Calls Try.prog 28 #[.slice (some ⟨g, 0, none⟩) n c, .func (.func 29) #[] #[]] w fun e w' =>
      e = .returned (.tuple #[]) ∧ ∃ L' : List PV, L'.Perm L ∧ L'.Pairwise (fun a b => a.1.1 ≤ b.1.1) ∧ PRow w' B (some ⟨g, 0, none⟩) n c L' ∧ Keeps (fun k => k = g) w w' := by
  have eg : ∀ args w, (callFunc 29 args).run Try.prog w = .ok (.enter 29 args) w := enters_of Try.func29 (by kernel_rfl) rfl
  have hl := h.len
  obtain ⟨_, _, _, hlt, _⟩ := h.cells hn
  rename_i g' eA hBg _
  injection eA with eA
  injection eA with eA _
  subst eA
  have hcon := AnyQ.slices_SortFunc Try.sortPart 5 aggP sizP encP encP_len encP_one cfP swoP 29 #[] g 0 c L.toArray w eg (fun _ _ _ _ x y => cmpC_is x y _) (holdsP h hn) hlt (by simp; omega)
  have hls : L.toArray.size = n := by simpa using hl
  rw [hls] at hcon
  change Calls Try.prog 28 _ _ _ at hcon
  refine hcon.mono fun e w' ⟨he, d', q, os, hp, hs, hw⟩ => ⟨he, d'.toList, ?_, ?_, ?_⟩
  · have h1 := hp.2.2
    have hsz : d'.size = n := by rw [hp.1, hls]
    rw [show d'.extract 0 n = d' by rw [← hsz]; simp, show L.toArray.extract 0 n = L.toArray by rw [← hls]; simp] at h1
    exact h1
  · have hsz : d'.size = n := by rw [hp.1, hls]
    refine List.pairwise_iff_getElem.2 fun i j hi hj hij => ?_
    have hi' : i < d'.size := by simpa using hi
    have hj' : j < d'.size := by simpa using hj
    have h1 := hs i j (Nat.zero_le _) hij (by omega)
    rw [ltP, getElem!_pos d' i hi', getElem!_pos d' j hj'] at h1
    simp at h1
    simpa using h1
  · have hsz : d'.size = n := by rw [hp.1, hls]
    have hfl : Go.Sort.flatK encP 5 d' = (cellsP d'.toList).toArray := by
      have := flatP d'.toList
      simpa using this
    have h1 := Go.Lib.sorted_world id w g 0 q (Go.Sort.flatK encP 5 L.toArray) (cellsP d'.toList) os (holdsP h hn) (by rw [cellsP_len, Go.Sort.size_flatK]; simp; omega)
    have hw' : w' = Sort.grow ((w.drewN q).setCells g 0 (cellsP d'.toList)) os := by
      rw [hw]
      unfold sortWorldK Go.Sort.putRowK
      rw [hfl, h1, List.map_id]
    have hk1 : Keeps (fun k => k = g) w ((w.drewN q).setCells g 0 (cellsP d'.toList)) := keeps_setCells (S := fun k => k = g) rfl _ _ _ _ ((Keeps.refl _ w).drewN q)
    have ho1 : PRow ((w.drewN q).setCells g 0 (cellsP d'.toList)) B (some ⟨g, 0, none⟩) n c d'.toList := own_setCells (w := w.drewN q) h (by rw [cellsP_len]; simp [hsz])
    have hk2 : Grow ((w.drewN q).setCells g 0 (cellsP d'.toList)) w' := by
      rw [hw']
      refine ⟨rfl, rfl, rfl, by simp [Sort.grow], fun k hk _ => ?_⟩
      show ((_ : Array Obj) ++ os)[k]? = _
      rw [Array.getElem?_append_left hk]
    exact ⟨ho1.grow hk2, Keeps.trans hk1 (gk hk2) fun _ _ h => h⟩
end Go.Proofs.Ytnjdhkaabpmahaa
