/- volume: slices.ContainsFunc over parts; cut. -/
import Derived.Test.YtnjdhkaabpmahaaVjE
namespace Go.Proofs.Ytnjdhkaabpmahaa
open Go.RowKit
set_option linter.unusedVariables false
set_option linter.unusedSimpArgs false

/-- Parts that can be read. -/
structure RowP (w : World) (A : Option Addr) (n c : Nat) (L : List PV) : Prop where
  len : L.length = n
  cap : n ≤ c
  at_ : 0 < n → ∃ g, A = some ⟨g, 0, none⟩ ∧ ∀ i p, L[i]? = some p → ∀ j v, (encP p)[j]? = some v → w.cell? ⟨g, i * 5 + j, none⟩ = some v
  few : n ≤ 1048576
theorem RowP.grow {w w' : World} {A : Option Addr} {n c : Nat} {L : List PV} (h : RowP w A n c L) (k : Grow w w') : RowP w' A n c L :=
  ⟨h.len, h.cap, fun hn => by
    obtain ⟨g, e, hc⟩ := h.at_ hn
    exact ⟨g, e, fun i p hp j v hv => ckp (hc i p hp j v hv) k (fun h => h)⟩, h.few⟩
theorem RowP.take {w : World} {A : Option Addr} {n c : Nat} {L : List PV} (h : RowP w A n c L) (m : Nat) (hm : m ≤ n) : RowP w A m c (L.take m) :=
  ⟨by rw [List.length_take, h.len]; omega, Nat.le_trans hm h.cap, fun hn => by
    obtain ⟨g, e, hc⟩ := h.at_ (by omega)
    refine ⟨g, e, fun i p hp j v hv => hc i p ?_ j v hv⟩
    rw [List.getElem?_take] at hp
    split at hp
    · exact hp
    · exact absurd hp (by simp), by have := h.few; omega⟩
theorem PRow.rowP {w : World} {B n c : Nat} {A : Option Addr} {L : List PV} (h : PRow w B A n c L) (hn : n ≤ 1048576) : RowP w A n c L :=
  ⟨h.len, by
    rcases h.2 with ⟨hv, h0⟩ | ⟨g, cap, cur, hv, _, _, hnc, _⟩
    · omega
    · injection hv with _ _ e
      omega, fun h0 => by
    obtain ⟨g, e, _, _, hc⟩ := h.cells h0
    exact ⟨g, e, fun i p hp j v hv => (hc i p hp j v hv).1⟩, hn⟩
/-- A function value that tells parts. -/
def TellsP (w : World) (fv : Value) (p : PV → Bool) (L : List PV) : Prop :=
  ∃ (f : FuncId) (cap : Array Value), fv = .func (.func f) #[] cap ∧ (∀ args w', (callFunc f args).run Try.prog w' = .ok (.enter f args) w') ∧
    ∀ x w2, x ∈ L → Grow w w2 → Calls Try.prog f (#[.agg (encP x).toArray] ++ cap) w2 fun e w' => e = .returned (.bool (p x)) ∧ Grow w2 w'
theorem any_none {α : Type} (p : α → Bool) (L : List α) (h : ∀ (j : Nat) (x : α), L[j]? = some x → p x = false) : L.any p = false := by
  rw [Bool.eq_false_iff]
  intro ha
  obtain ⟨x, hx, hp⟩ := List.any_eq_true.1 ha
  obtain ⟨j, hj⟩ := List.mem_iff_getElem?.1 hx
  rw [h j x hj] at hp
  cases hp
set_option maxRecDepth 4000 in
set_option maxHeartbeats 1000000 in
theorem indexP_is (w : World) (A : Option Addr) (n c : Nat) (L : List PV) (fv : Value) (p : PV → Bool) (h : RowP w A n c L) (hf : TellsP w fv p L) :
    Calls Try.prog 35 #[.slice A n c, fv] w fun e w' => ∃ z : Int, e = .returned (.int .i64 z) ∧ decide (0 ≤ z) = L.any p ∧ Grow w w' := by
  obtain ⟨f, cap, rfl, hcall, hp⟩ := hf
  have HP := Lib.hid hp
  have H := Lib.hid h
  have hni : (n : Int) ≤ 1048576 := by have := h.few; omega
  clear h hp
  go_enter Try.func35, Try.ntmps35
  go_wp2_with fail
  go_loopw [5, 8] (fun _ vi wr => ∃ (i : Nat), i ≤ n ∧ vi = .int .i64 i ∧ Hid (Grow w wr) ∧ Hid (∀ j x, j < i → L[j]? = some x → p x = false)) (fun _ vi _ => n - (intOf vi).toNat)
  case atStart => exact ⟨0, by omega, rfl, Keeps.refl _ _, fun j x hj => by omega⟩
  case round =>
    obtain ⟨i, hi, rfl, HG, hb⟩ := hrel
    by_cases hin : i < n
    · obtain ⟨g, rfl, hc⟩ := (H.out.grow HG.out).at_ (by omega)
      obtain ⟨x, hx⟩ : ∃ x, L[i]? = some x := ⟨_, List.getElem?_eq_getElem (by rw [H.out.len]; exact hin)⟩
      have hcx := hc i x hx
      have HX := Lib.hid hx
      obtain ⟨⟨x1, x2, x3, x4⟩, xA, xn, xc⟩ := x
      have c0 := hcx 0 _ rfl
      have c1 := hcx 1 _ rfl
      have c2 := hcx 2 _ rfl
      have c3 := hcx 3 _ rfl
      have c4 := hcx 4 _ rfl
      simp only [Nat.add_zero] at c0
      have HC := Lib.hid (HP.out ((x1, x2, x3, x4), xA, xn, xc) wr (List.mem_of_getElem? HX.out) HG.out)
      have hin' : (i : Int) < n := by omega
      clear hc hx hcx
      go_wp2_with fail
      refine HC.out.mono ?_
      rintro e w1 ⟨rfl, hg1⟩
      have HG1 : Hid (Grow w w1) := Grow.trans _ _ _ HG.out hg1
      clear hg1 HC c0 c1 c2 c3 c4
      cases hpx : p ((x1, x2, x3, x4), xA, xn, xc)
      · have HPX := Lib.hid hpx
        go_wp2_with fail
        go_roundw
        case rel => exact ⟨i + 1, by omega, by go_num, HG1.out, fun j y hj hy => by
          rcases Nat.lt_succ_iff_lt_or_eq.1 hj with h | h
          · exact hb.out j y h hy
          · subst h
            rw [HX.out] at hy
            injection hy with hy
            rw [← hy]; exact HPX.out⟩
        case measure => simp [intOf]; omega
      · have HPX := Lib.hid hpx
        go_wp2_with fail
        go_ret
        refine ⟨(i : Int), rfl, ?_, HG1.out⟩
        rw [decide_eq_true (by omega)]
        exact (List.any_eq_true.2 ⟨_, List.mem_of_getElem? HX.out, HPX.out⟩).symm
    · obtain rfl : i = n := by omega
      go_wp2_with fail
      go_ret
      refine ⟨-1, rfl, ?_, HG.out⟩
      rw [any_none p L fun j x hj => hb.out j x (by have := (List.getElem?_eq_some_iff.1 hj).1; rw [H.out.len] at this; exact this) hj]
      rfl
theorem containsP_is (w : World) (A : Option Addr) (n c : Nat) (L : List PV) (fv : Value) (p : PV → Bool) (h : RowP w A n c L) (hf : TellsP w fv p L) :
    Calls Try.prog 21 #[.slice A n c, fv] w fun e w' => e = .returned (.bool (L.any p)) ∧ Grow w w' := by
  have H := Lib.hid (indexP_is w A n c L fv p h hf)
  obtain ⟨r, hr⟩ : ∃ r, r = L.any p := ⟨_, rfl⟩
  rw [← hr] at H ⊢
  clear h hf hr
  go_enter Try.func21, Try.ntmps21
  go_wp2_with fail
  refine H.out.mono ?_
  rintro e w1 ⟨z, rfl, hz, hg⟩
  have HG := Lib.hid hg
  clear hg H
  go_wp2_with fail
  go_ret
  exact ⟨by rw [← hz]; rfl, HG.out⟩
/-- cut's function: a share's length is not the first's. -/
theorem cutf_is (w : World) (g f : Nat) (x : PV) (hc : w.cell? ⟨g, 0, none⟩ = some (.int .i64 (f : Nat))) (hf : f ≤ 140737488355328) (hx : x.2.2.1 ≤ 140737488355328) :
    Calls Try.prog 31 (#[.agg (encP x).toArray] ++ #[.pointer (some ⟨g, 0, none⟩)]) w fun e w' => e = .returned (.bool (!decide (x.2.2.1 = f))) ∧ Grow w w' := by
  obtain ⟨⟨x1, x2, x3, x4⟩, xA, xn, xc⟩ := x
  simp only at hx ⊢
  show Calls _ _ #[.agg #[.int .i64 (x1 : Nat), .int .i64 (x2 : Nat), .int .i64 (x3 : Nat), .int .u32 (x4 : Nat), .slice xA xn xc], .pointer (some ⟨g, 0, none⟩)] _ _
  have hgl := World.block_lt_of_cell? w _ hc
  simp only at hgl
  have hk : Grow w (w.alloc (.cells #[.int .i64 (x1 : Nat), .int .i64 (x2 : Nat), .int .i64 (x3 : Nat), .int .u32 (x4 : Nat), .slice xA xn xc] 51)) := (Keeps.refl _ w).alloc _
  have hc2 := ckp hc hk (fun h => h)
  have HK := Lib.hid hk
  have hfi : (f : Int) ≤ 140737488355328 := by omega
  have hxi : (xn : Int) ≤ 140737488355328 := by omega
  by_cases he : xn = f
  · subst he
    rw [decide_eq_true rfl]
    clear hk hc
    go_enter Try.func31, Try.ntmps31
    go_wp2_with fail
    go_ret
    exact ⟨rfl, HK.out⟩
  · rw [decide_eq_false he]
    have e1 : ((xn : Int) == (f : Int)) = false := by simp; omega
    have e2 : ¬ (xn : Int) = (f : Int) := by omega
    have e3 : (xn == f) = false := by simp; omega
    have e4 : ((xn : Int) != (f : Int)) = true := by simp; omega
    clear hk hc
    go_enter Try.func31, Try.ntmps31
    go_wp2_with fail
    go_ret
    exact ⟨rfl, HK.out⟩
theorem lackf_is (w : World) (g k : Nat) (x : PV) (hc : w.cell? ⟨g, 0, none⟩ = some (.int .i64 (k : Nat))) (hk : k ≤ 1024) (hx : x.1.1 ≤ 1024) :
    Calls Try.prog 22 (#[.agg (encP x).toArray] ++ #[.pointer (some ⟨g, 0, none⟩)]) w fun e w' => e = .returned (.bool (x.1.1 == k)) ∧ Grow w w' := by
  obtain ⟨⟨x1, x2, x3, x4⟩, xA, xn, xc⟩ := x
  simp only at hx ⊢
  show Calls _ _ #[.agg #[.int .i64 (x1 : Nat), .int .i64 (x2 : Nat), .int .i64 (x3 : Nat), .int .u32 (x4 : Nat), .slice xA xn xc], .pointer (some ⟨g, 0, none⟩)] _ _
  have hgl := World.block_lt_of_cell? w _ hc
  simp only at hgl
  have hk : Grow w (w.alloc (.cells #[.int .i64 (x1 : Nat), .int .i64 (x2 : Nat), .int .i64 (x3 : Nat), .int .u32 (x4 : Nat), .slice xA xn xc] 51)) := (Keeps.refl _ w).alloc _
  have hc2 := ckp hc hk (fun h => h)
  have HK := Lib.hid hk
  have hfi : (k : Int) ≤ 1024 := by omega
  have hxi : (x1 : Int) ≤ 1024 := by omega
  by_cases he : x1 = k
  · subst he
    clear hk hc
    go_enter Try.func22, Try.ntmps22
    go_wp2_with fail
    go_ret
    exact ⟨by simp, HK.out⟩
  · rw [show (x1 == k) = false by simpa using he]
    have e1 : ((x1 : Int) == (k : Int)) = false := by simp; omega
    have e2 : ¬ (x1 : Int) = (k : Int) := by omega
    have e3 : (x1 == k) = false := by simp; omega
    clear hk hc
    go_enter Try.func22, Try.ntmps22
    go_wp2_with fail
    go_ret
    exact ⟨rfl, HK.out⟩
end Go.Proofs.Ytnjdhkaabpmahaa
