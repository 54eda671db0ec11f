/- limit.Cost, the program's and the document's. -/
import Derived.Test.YtfegjdabjdahgaaIdxF
namespace Go.Proofs.Ytfegjdabjdahgaa
open Go.RowKit
set_option linter.unusedVariables false
set_option linter.unusedSimpArgs false

def neg (x : Int) : Bool := decide (x < 0)
/-- What the first i cost; none: too much. -/
def costSt (xs ys : List Int) : Nat → Option Int
  | 0 => some 0
  | i + 1 => (costSt xs ys i).bind fun s => if 0 < ys.getD i 0 ∧ (4611686018427387904 - s) / ys.getD i 0 < xs.getD i 0 then none else some (s + xs.getD i 0 * ys.getD i 0)
def costR (xs ys : List Int) : Int × Int :=
  if xs.length ≠ ys.length ∨ xs.any neg = true ∨ ys.any neg = true then (0, 2) else match costSt xs ys xs.length with
  | none => (0, 3)
  | some s => (s, 0)
theorem costR_eq (xs ys : List Int) : costR xs ys = if xs.length ≠ ys.length ∨ xs.any neg = true ∨ ys.any neg = true then ((0 : Int), (2 : Int)) else match costSt xs ys xs.length with | none => ((0 : Int), (3 : Int)) | some s => (s, (0 : Int)) := rfl
theorem costSt_bd (xs ys : List Int) (hx : ∀ i, 0 ≤ xs.getD i 0) (hy : ∀ i, 0 ≤ ys.getD i 0) : ∀ (i : Nat) (s : Int), costSt xs ys i = some s → 0 ≤ s ∧ s ≤ 4611686018427387904
  | 0, s, h => by injection h with h; subst h; decide
  | i + 1, s, h => by
    unfold costSt at h
    cases h0 : costSt xs ys i with
    | none => rw [h0] at h; cases h
    | some t =>
      rw [h0] at h
      simp only [Option.bind_some] at h
      have hb := costSt_bd xs ys hx hy i t h0
      have h1 := hx i
      have h2 := hy i
      generalize xs.getD i 0 = x at *
      generalize ys.getD i 0 = y at *
      split at h
      · cases h
      · rename_i hc
        injection h with h
        subst h
        have hm : 0 ≤ x * y := Int.mul_nonneg h1 h2
        refine ⟨by omega, ?_⟩
        by_cases hy0 : 0 < y
        · have hle : x ≤ (4611686018427387904 - t) / y := by
            by_cases h : (4611686018427387904 - t) / y < x
            · exact absurd ⟨hy0, h⟩ hc
            · omega
          have h3 := (Int.le_ediv_iff_mul_le hy0).1 hle
          omega
        · obtain rfl : y = 0 := by omega
          rw [Int.mul_zero]
          omega
theorem costSt_none (xs ys : List Int) {i j : Nat} (h : costSt xs ys i = none) (hij : i ≤ j) : costSt xs ys j = none := by
  induction j with
  | zero => obtain rfl : i = 0 := by omega
            exact h
  | succ j ih =>
    by_cases e : i = j + 1
    · subst e; exact h
    · unfold costSt; rw [ih (by omega)]; rfl
theorem nonneg_of (xs : List Int) (h : xs.any neg = false) (i : Nat) : 0 ≤ xs.getD i 0 := by
  rw [List.getD_eq_getElem?_getD]
  cases hx : xs[i]? with
  | none => decide
  | some x =>
    have := List.any_eq_false.1 h x (List.mem_of_getElem? hx)
    simp [neg] at this
    exact this
/-- What is known in a round. -/
theorem cost_round (xs ys : List Int) (hx : xs.any neg = false) (hy : ys.any neg = false) (i : Nat) (s : Int) (h : costSt xs ys i = some s) :
    0 ≤ s ∧ s ≤ 4611686018427387904 ∧ 0 ≤ xs.getD i 0 ∧ 0 ≤ ys.getD i 0 ∧
    ((0 < ys.getD i 0 ∧ (4611686018427387904 - s) / ys.getD i 0 < xs.getD i 0 ∧ costSt xs ys (i + 1) = none) ∨
     (¬ (0 < ys.getD i 0 ∧ (4611686018427387904 - s) / ys.getD i 0 < xs.getD i 0) ∧ costSt xs ys (i + 1) = some (s + xs.getD i 0 * ys.getD i 0) ∧ 0 ≤ xs.getD i 0 * ys.getD i 0 ∧ s + xs.getD i 0 * ys.getD i 0 ≤ 4611686018427387904)) := by
  have hb := costSt_bd xs ys (nonneg_of xs hx) (nonneg_of ys hy) i s h
  refine ⟨hb.1, hb.2, nonneg_of xs hx i, nonneg_of ys hy i, ?_⟩
  by_cases hc : 0 < ys.getD i 0 ∧ (4611686018427387904 - s) / ys.getD i 0 < xs.getD i 0
  · exact .inl ⟨hc.1, hc.2, by unfold costSt; rw [h]; simp only [Option.bind_some]; rw [if_pos hc]⟩
  · have e : costSt xs ys (i + 1) = some (s + xs.getD i 0 * ys.getD i 0) := by unfold costSt; rw [h]; simp only [Option.bind_some]; rw [if_neg hc]
    exact .inr ⟨hc, e, Int.mul_nonneg (nonneg_of xs hx i) (nonneg_of ys hy i), (costSt_bd xs ys (nonneg_of xs hx) (nonneg_of ys hy) _ _ e).2⟩

theorem any_hit (xs : List Int) (i : Nat) (hi : i < xs.length) (h : xs.getD i 0 < 0) : xs.any neg = true := by
  refine List.any_eq_true.2 ⟨xs[i], List.getElem_mem hi, ?_⟩
  simp [List.getD_eq_getElem?_getD, hi] at h
  simp [neg, h]
theorem any_none (xs : List Int) (h : ∀ j, j < xs.length → neg (xs.getD j 0) = false) : xs.any neg = false := by
  rw [Bool.eq_false_iff]
  intro ha
  obtain ⟨x, hx, hp⟩ := List.any_eq_true.1 ha
  obtain ⟨j, hj, rfl⟩ := List.mem_iff_getElem.1 hx
  have := h j hj
  simp [List.getD_eq_getElem?_getD, hj] at this
  rw [this] at hp
  cases hp

theorem below_is (w : World) (x : Int) (hx : inKind .i64 x) : Calls Try.prog 20 #[.int .i64 x] w fun e w' => e = .returned (.bool (neg x)) ∧ w = w' := by
  have hx := inKind_i64 hx
  go_enter Try.func20, Try.ntmps20
  go_wp2_with fail
  go_ret
  exact ⟨rfl, rfl⟩
theorem below_tells (w : World) : Tells Try.prog w (.func (.func 20) #[] #[]) neg :=
  ⟨20, #[], rfl, fun args w' => by go_simp, fun x hx => below_is w x hx⟩

set_option maxRecDepth 4000 in
set_option maxHeartbeats 1000000 in
theorem cost_is (w : World) (A0 A1 : Option Addr) (n0 n1 c0 c1 : Nat) (xs ys : List Int) (h0 : Nums .i64 w A0 n0 c0 xs) (h1 : Nums .i64 w A1 n1 c1 ys) (hn0 : n0 ≤ 140737488355328) (hn1 : n1 ≤ 140737488355328) :
    Calls Try.prog 10 #[.slice A0 n0 c0, .slice A1 n1 c1] w fun e w' => e = .returned (.tuple #[.int .i64 (costR xs ys).1, .int .i64 (costR xs ys).2]) ∧ w = w' := by
  have H0 := Lib.hid h0
  have H1 := Lib.hid h1
  have HX := Lib.hid (containsFunc_is w A0 n0 c0 xs _ neg h0 hn0 (below_tells w))
  have HY := Lib.hid (containsFunc_is w A1 n1 c1 ys _ neg h1 hn1 (below_tells w))
  have hR := Lib.hid (costR_eq xs ys)
  generalize costR xs ys = R at *
  by_cases hl : n0 = n1
  case neg =>
    have hR2 : R = (0, 2) := by rw [hR.out, if_pos (.inl (by rw [h0.len, h1.len]; exact hl))]
    subst hR2
    clear h0 h1 hR
    have hb : ((n0 : Int) == n1) = false := by rw [beq_eq_false_iff_ne]; omega
    have hb' : ((n0 : Int) != n1) = true := by rw [bne, hb]; rfl
    go_enter Try.func10, Try.ntmps10
    go_wp2_with fail
    go_ret2
    exact ⟨rfl, rfl⟩
  subst hl
  cases hax : xs.any neg
  case true =>
    have hR2 : R = (0, 2) := by rw [hR.out, if_pos (.inr (.inl hax))]
    subst hR2
    rw [hax] at HX
    clear h0 h1 hR hax
    go_enter Try.func10, Try.ntmps10
    go_wp2_with fail
    refine HX.out.mono ?_
    rintro e w1 ⟨rfl, rfl⟩
    go_wp2_with fail
    go_ret2
    exact ⟨rfl, rfl⟩
  cases hay : ys.any neg
  case true =>
    have hR2 : R = (0, 2) := by rw [hR.out, if_pos (.inr (.inr hay))]
    subst hR2
    rw [hax] at HX
    rw [hay] at HY
    clear h0 h1 hR hax hay
    go_enter Try.func10, Try.ntmps10
    go_wp2_with fail
    refine HX.out.mono ?_
    rintro e w1 ⟨rfl, rfl⟩
    go_wp2_with fail
    refine HY.out.mono ?_
    rintro e w1 ⟨rfl, rfl⟩
    go_wp2_with fail
    go_ret2
    exact ⟨rfl, rfl⟩
  have hR2 : R = match costSt xs ys n0 with | none => (0, 3) | some s => (s, 0) := by
    rw [hR.out, if_neg (by rw [h0.len, h1.len, hax, hay]; simp), h0.len]
  have HR := Lib.hid hR2
  rw [hax] at HX
  rw [hay] at HY
  have HAX := Lib.hid hax
  have HAY := Lib.hid hay
  clear h0 h1 hR hax hay hR2
  go_enter Try.func10, Try.ntmps10
  go_wp2_with fail
  refine HX.out.mono ?_
  rintro e w1 ⟨rfl, rfl⟩
  go_wp2_with fail
  refine HY.out.mono ?_
  rintro e w1 ⟨rfl, rfl⟩
  go_wp2_with fail
  go_loopw [7, 27] (fun vs vi wr => ∃ (i : Nat) (s : Int), i ≤ n0 ∧ vi = .int .i64 i ∧ vs = .int .i64 s ∧ w = wr ∧ Hid (costSt xs ys i = some s)) (fun _ vi _ => n0 - (intOf vi).toNat)
  case atStart => exact ⟨0, 0, by omega, rfl, rfl, rfl, rfl⟩
  case round =>
    obtain ⟨i, s, hi, rfl, rfl, rfl, hs⟩ := hrel
    by_cases hin : i < n0
    · obtain ⟨b0, o0, rfl, hc0⟩ := H0.out.at_ (by omega)
      obtain ⟨b1, o1, rfl, hc1⟩ := H1.out.at_ (by omega)
      have d0 := hc0 i hin
      have d1 := hc1 i hin
      have r0 := H0.out.int i
      have r1 := H1.out.int i
      have hr := cost_round xs ys HAX.out HAY.out i s hs.out
      obtain ⟨hs0, hs1, hx0, hy0, hr⟩ := hr
      generalize xs.getD i 0 = x at *
      generalize ys.getD i 0 = y at *
      clear hc0 hc1
      have hin' : (i : Int) < n0 := by omega
      rcases hr with ⟨hy, hq, hno⟩ | ⟨hq, hnx, hm0, hm1⟩
      · have HNO := Lib.hid hno
        clear hno
        go_wp2_with fail
        go_ret2
        refine ⟨?_, rfl⟩
        rw [HR.out, costSt_none xs ys HNO.out (by omega)]
        rfl
      · have HNX := Lib.hid hnx
        clear hnx
        by_cases hy : 0 < y
        · have hq' : ¬ (4611686018427387904 - s) / y < x := fun h => hq ⟨hy, h⟩
          clear hq
          go_wp2_with fail
          go_roundw
          case rel => exact ⟨i + 1, _, by omega, by go_num, rfl, by trivial, HNX⟩
          case measure => simp [intOf]; omega
        · clear hq
          go_wp2_with fail
          go_roundw
          case rel => exact ⟨i + 1, _, by omega, by go_num, rfl, by trivial, HNX⟩
          case measure => simp [intOf]; omega
    · obtain rfl : i = n0 := by omega
      go_wp2_with fail
      go_ret2
      refine ⟨?_, rfl⟩
      rw [HR.out, hs.out]
      rfl

end Go.Proofs.Ytfegjdabjdahgaa
