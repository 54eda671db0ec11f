/- slices.Sorted(slices.Values(b)). -/
import Derived.Test.YteccmnjcmmbhlaaSoN
import Derived.Test.YteccmnjcmmbhlaaSame
namespace Go.Proofs.Yteccmnjcmmbhlaa
open Go.RowKit Go.Shelf
open Go.Sort (PermIn SortedIn)
open Go.Sort (ltInt)
set_option linter.unusedVariables false
set_option linter.unusedSimpArgs false

theorem rowD_of {w : World} {B g n cap : Nat} {xs : List Int} (h : w.ownsRow B 5 1 (.slice (some ⟨g, 0, none⟩) n cap) n (xs.map (Value.int .u8))) (hx : ∀ x ∈ xs, inKind .u8 x) : RowD w g cap xs.toArray ∧ xs.toArray.size = n := by
  have hl : xs.length = n := by have := h.1; simp at this; exact this
  rcases h.2 with ⟨hv, _⟩ | ⟨g', cap', cur, hv, hB, hh, hnc, hcm, hcs, htk⟩
  · cases hv
  · injection hv with e1 _ e3
    injection e1 with e1
    injection e1 with e1 _
    subst e1
    subst e3
    refine ⟨⟨cur, hh, by omega, by simp; omega, fun j hj => ?_⟩, by simpa using hl⟩
    have hj' : j < xs.length := by simpa using hj
    have e : xs.toArray[j]! = xs.getD j 0 := by
      rw [getElem!_pos xs.toArray j hj]
      simp [List.getD_eq_getElem?_getD, hj']
    rw [e]
    refine ⟨own_cell (w := w) (B := 0) (e := 0) (g := 0) hl hcs htk j (by omega), ?_⟩
    have hm : xs.getD j 0 ∈ xs := by
      rw [List.getD_eq_getElem?_getD, List.getElem?_eq_getElem hj']
      exact List.getElem_mem hj'
    exact inKind_u8 (hx _ hm)
theorem rowD_own {w w' : World} {B g n cap : Nat} {xs : List Int} {d : Array Int} (h : w.ownsRow B 5 1 (.slice (some ⟨g, 0, none⟩) n cap) n (xs.map (Value.int .u8))) (hd : RowD w' g cap d) (hn : d.size = n) : w'.ownsRow B 5 1 (.slice (some ⟨g, 0, none⟩) n cap) n (d.toList.map (Value.int .u8)) := by
  rcases h.2 with ⟨hv, _⟩ | ⟨g', cap', cur, hv, hB, hh, hnc, hcm, hcs, htk⟩
  · cases hv
  · injection hv with e1 _ e3
    injection e1 with e1
    injection e1 with e1 _
    subst e1
    subst e3
    obtain ⟨cur', hh', hs', hds, hc'⟩ := hd
    refine ⟨by simp [hn], .inr ⟨g, cap, cur', rfl, hB, hh', hnc, hcm, by omega, ?_⟩⟩
    apply List.ext_getElem?
    intro j
    by_cases hj : j < n
    · have h1 := (hc' j (by omega)).1
      rw [getElem!_pos d j (by omega)] at h1
      rw [List.getElem?_take, if_pos (by omega), Array.getElem?_toList, h1, List.getElem?_map, Array.getElem?_toList, Array.getElem?_eq_getElem (by omega)]
      rfl
    · rw [List.getElem?_eq_none (by rw [List.length_take]; omega), List.getElem?_eq_none (by simp; omega)]
theorem perm_of {d d' : Array Int} {n : Nat} (hp : PermIn 0 n d d') (hn : d.size = n) : d'.toList.Perm d.toList := by
  have h1 := hp.2.2
  have hsz : d'.size = n := by rw [hp.1, hn]
  rw [show d'.extract 0 n = d' by rw [← hsz]; simp, show d.extract 0 n = d by rw [← hn]; simp] at h1
  exact h1
theorem sorted_of {d : Array Int} {n : Nat} (hs : SortedIn ltInt 0 n d) (hn : d.size = n) : d.toList.Pairwise (fun a b => a ≤ b) := by
  refine List.pairwise_iff_getElem.2 fun i j hi hj hij => ?_
  have hi' : i < d.size := by simpa using hi
  have hj' : j < d.size := by simpa using hj
  have h1 := hs i j (Nat.zero_le _) hij (by omega)
  rw [ltInt, getElem!_pos d i hi', getElem!_pos d j hj'] at h1
  simp at h1
  simpa using h1
set_option maxRecDepth 4000 in
theorem sortedB_is (w : World) (g1 : Nat) (A : Option Addr) (n c : Nat) (zs : List Int) (hnb : n ≤ 1048576) (hg1 : g1 < w.heap.size) (hb1 : w.cell? ⟨g1, 0, none⟩ = some (.slice A n c)) (hz : Nums .u8 w A n c zs) :
    Calls Try.prog 36 #[.func (.func 47) #[] #[.pointer (some ⟨g1, 0, none⟩)]] w fun e W' => ∃ (A' : Option Addr) (c' : Nat) (ys : List Int), e = .returned (.slice A' n c') ∧ W'.ownsRow w.heap.size 5 1 (.slice A' n c') n (ys.map (Value.int .u8)) ∧ ys.Perm zs ∧ ys.Pairwise (fun a b => a ≤ b) ∧ Grow w W' := by
  have H := Lib.hid (collectB_is w g1 A n c zs hnb hg1 hb1 hz)
  have HZ := Lib.hid hz
  clear hg1 hb1 hz
  go_enter Try.func36, Try.ntmps36
  go_wp2_with fail
  refine H.out.mono ?_
  rintro e w1 ⟨v, rfl, ho, hb⟩
  have ho' := ho
  rcases ho'.2 with ⟨rfl, hn0⟩ | ⟨g, cap, cur, rfl, hB, hh, hnc, hcm, hcs, htk⟩
  · subst hn0
    have HB := Lib.hid hb
    have HO := Lib.hid ho
    have hzn : zs = [] := List.eq_nil_of_length_eq_zero HZ.out.len
    clear hb ho ho' H
    go_wp2_with fail
    refine (sortB_nil w1).mono ?_
    rintro e _ ⟨rfl, rfl⟩
    go_wp2_with fail
    go_ret
    refine ⟨none, 0, [], rfl, ?_, by rw [hzn], List.Pairwise.nil, HB.out⟩
    have h9 := HO.out
    rw [hzn] at h9
    exact h9
  · have hrd := rowD_of ho HZ.out.rng
    have HB := Lib.hid hb
    have HO := Lib.hid ho
    have HR := Lib.hid hrd.1
    have hsz := hrd.2
    have HGB := Lib.hid hB
    clear hb ho ho' H hrd hh hcs htk hB
    go_wp2_with fail
    refine (sortB_is w1 HR.out hsz (by omega)).mono ?_
    rintro e w2 ⟨rfl, d', hp, hs, hd, hk⟩
    have HP := Lib.hid (perm_of hp hsz)
    have hds : d'.size = n := by rw [hp.1]; exact hsz
    have HSo := Lib.hid (sorted_of hs hds)
    have HO2 := Lib.hid (rowD_own HO.out hd hds)
    have HG2 : Hid (Grow w w2) := Keeps.trans HB.out hk fun i hi he => by
      have := HGB.out
      omega
    clear hp hs hd hk
    go_wp2_with fail
    go_ret
    exact ⟨_, _, d'.toList, rfl, HO2.out, by simpa using HP.out, HSo.out, HG2.out⟩
end Go.Proofs.Yteccmnjcmmbhlaa
