/- slices.IndexFunc and slices.ContainsFunc over []int, with a function that tells a number. -/
import Derived.Test.YtfegjdabjdahgaaNums
namespace Go.Proofs.Ytfegjdabjdahgaa
open Go.RowKit
set_option linter.unusedVariables false
set_option linter.unusedSimpArgs false

/-- Where the first number is of which p holds; -1: nowhere. -/
def idxI (p : Int → Bool) (xs : List Int) : Int := match xs.findIdx? p with | some i => (i : Int) | none => -1
theorem idxI_any (p : Int → Bool) (xs : List Int) : decide (0 ≤ idxI p xs) = xs.any p := by
  unfold idxI
  cases h : xs.findIdx? p with
  | none =>
    rw [List.findIdx?_eq_none_iff] at h
    simp only [show ¬ ((0 : Int) ≤ -1) from by omega, decide_false]
    symm
    rw [Bool.eq_false_iff]
    intro ha
    obtain ⟨x, hx, hp⟩ := List.any_eq_true.1 ha
    rw [h x hx] at hp
    cases hp
  | some i =>
    simp only [show (0 : Int) ≤ (i : Int) from by omega, decide_true]
    symm
    rw [List.findIdx?_eq_some_iff_getElem] at h
    obtain ⟨hi, hp, _⟩ := h
    exact List.any_eq_true.2 ⟨_, List.getElem_mem hi, hp⟩
theorem idxI_hit (p : Int → Bool) (xs : List Int) (i : Nat) (hi : i < xs.length) (hb : ∀ j, j < i → p (xs.getD j 0) = false) (hp : p (xs.getD i 0) = true) : idxI p xs = i := by
  unfold idxI
  have : xs.findIdx? p = some i := by
    rw [List.findIdx?_eq_some_iff_getElem]
    refine ⟨hi, by simpa [List.getD_eq_getElem?_getD, hi] using hp, fun j hj => ?_⟩
    have := hb j hj
    simp [List.getD_eq_getElem?_getD, show j < xs.length by omega] at this
    simp [this]
  rw [this]
theorem idxI_none (p : Int → Bool) (xs : List Int) (hb : ∀ j, j < xs.length → p (xs.getD j 0) = false) : idxI p xs = -1 := by
  unfold idxI
  have : xs.findIdx? p = none := by
    rw [List.findIdx?_eq_none_iff]
    intro x hx
    obtain ⟨j, hj, rfl⟩ := List.mem_iff_getElem.1 hx
    have := hb j hj
    simpa [List.getD_eq_getElem?_getD, hj] using this
  rw [this]

/-- A function value that tells numbers. -/
structure Tells (P : Program) (w : World) (fv : Value) (p : Int → Bool) : Prop where
  call : ∃ (f : FuncId) (cap : Array Value), fv = .func (.func f) #[] cap ∧ (∀ args w', (callFunc f args).run P w' = .ok (.enter f args) w') ∧
    ∀ x, inKind .i64 x → Calls P f (#[.int .i64 x] ++ cap) w fun e w' => e = .returned (.bool (p x)) ∧ w = w'

set_option maxRecDepth 4000 in
set_option maxHeartbeats 1000000 in
theorem indexFunc_is (w : World) (A : Option Addr) (n c : Nat) (xs : List Int) (fv : Value) (p : Int → Bool) (h : Nums .i64 w A n c xs) (hn : n ≤ 140737488355328) (hf : Tells Try.prog w fv p) :
    Calls Try.prog 26 #[.slice A n c, fv] w fun e w' => e = .returned (.int .i64 (idxI p xs)) ∧ w = w' := by
  obtain ⟨f, cap, rfl, hcall, hp⟩ := hf.call
  have HP := Lib.hid hp
  have H := Lib.hid h
  clear h hf hp
  go_enter Try.func26, Try.ntmps26
  go_wp2_with fail
  go_loopw [8] (fun vi wr => ∃ (i : Nat), i ≤ n ∧ vi = .int .i64 i ∧ wr = w ∧ Hid (∀ j, j < i → p (xs.getD j 0) = false)) (fun vi _ => n - (intOf vi).toNat)
  case atStart => exact ⟨0, by omega, rfl, rfl, fun j hj => by omega⟩
  case round =>
    obtain ⟨i, hi, rfl, rfl, hb⟩ := hrel
    by_cases hin : i < n
    · obtain ⟨b, o, rfl, hc⟩ := H.out.at_ (by omega)
      have hcell := hc i hin
      have hx := (H.out.getD_in ⟨by decide, by decide⟩ i)
      have HC := Lib.hid (HP.out _ hx)
      generalize hxx : xs.getD i 0 = x at *
      have HX := Lib.hid hxx
      clear hc hx hxx
      have hin' : (i : Int) < n := by omega
      go_wp2_with fail
      refine HC.out.mono ?_
      rintro e w1 ⟨rfl, rfl⟩
      cases hpx : p x
      · have HPX := Lib.hid hpx
        go_wp2_with fail
        go_roundw
        case rel => exact ⟨i + 1, by omega, by go_num, by trivial, fun j hj => by
          rcases Nat.lt_succ_iff_lt_or_eq.1 hj with h | h
          · exact hb.out j h
          · subst h; rw [HX.out]; exact HPX.out⟩
        case measure => simp [intOf]; omega
      · have HPX := Lib.hid hpx
        go_wp2_with fail
        go_ret
        exact ⟨by rw [idxI_hit p xs i (by rw [H.out.len]; exact hin) hb.out (by rw [HX.out]; exact HPX.out)]; rfl, rfl⟩
    · obtain rfl : i = n := by omega
      go_wp2_with fail
      go_ret
      exact ⟨by rw [idxI_none p xs (by rw [H.out.len]; exact hb.out)]; rfl, rfl⟩

theorem containsFunc_is (w : World) (A : Option Addr) (n c : Nat) (xs : List Int) (fv : Value) (p : Int → Bool) (h : Nums .i64 w A n c xs) (hn : n ≤ 140737488355328) (hf : Tells Try.prog w fv p) :
    Calls Try.prog 21 #[.slice A n c, fv] w fun e w' => e = .returned (.bool (xs.any p)) ∧ w = w' := by
  have H := Lib.hid (indexFunc_is w A n c xs fv p h hn hf)
  have HA := Lib.hid (idxI_any p xs)
  clear h hf
  go_enter Try.func21, Try.ntmps21
  go_wp2_with fail
  refine H.out.mono ?_
  rintro e w1 ⟨rfl, rfl⟩
  go_wp2_with fail
  go_ret
  exact ⟨by rw [← HA.out]; rfl, rfl⟩
end Go.Proofs.Ytfegjdabjdahgaa
