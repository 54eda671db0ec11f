/- limit.wrong walked. -/
import Derived.Test.YtfegjdabjdahgaaLmC
import Derived.Test.YtfegjdabjdahgaaCost
namespace Go.Proofs.Ytfegjdabjdahgaa
open Go.RowKit
set_option linter.unusedVariables false
set_option linter.unusedSimpArgs false

theorem wneg_is (w : World) (x : Int) (hx : inKind .i64 x) : Calls Try.prog 22 #[.int .i64 x] w fun e w' => e = .returned (.bool (neg x)) ∧ w = w' := by
  have hx := inKind_i64 hx
  go_enter Try.func22, Try.ntmps22
  go_wp2_with fail
  go_ret
  exact ⟨rfl, rfl⟩
theorem wneg_tells (w : World) : Tells Try.prog w (.func (.func 22) #[] #[]) neg :=
  ⟨22, #[], rfl, fun args w' => by go_simp, fun x hx => wneg_is w x hx⟩
theorem sumPos_drop (xs : List Int) (i : Nat) (s : Int) (h : i < xs.length) : sumPos (xs.drop i) s = if 1099511627776 - s < xs.getD i 0 then none else sumPos (xs.drop (i + 1)) (s + xs.getD i 0) := by
  rw [List.drop_eq_getElem_cons h]
  have e : xs.getD i 0 = xs[i] := by simp [List.getD_eq_getElem?_getD, h]
  rw [e]
  rfl
set_option maxRecDepth 4000 in
set_option maxHeartbeats 2000000 in
theorem wrong_is (w : World) (A : Option Addr) (n c : Nat) (xs : List Int) (most : Int) (h : Nums .i64 w A n c xs) (hn : n ≤ 140737488355328) (hm : inKind .i64 most) :
    Calls Try.prog 11 #[.slice A n c, .int .i64 most] w fun e w' => e = .returned (.int .i64 (wrongP xs most)) ∧ w' = w := by
  have hm := inKind_i64 hm
  have HC := Lib.hid (containsFunc_is w A n c xs _ neg h hn (wneg_tells w))
  have hR : Hid (wrongP xs most = if most < 1 ∨ 20 < most ∨ 65536 < xs.length ∨ xs.any neg = true then 2 else if (sumPos xs 0).isNone then 3 else 0) := rfl
  have HL := Lib.hid h.len
  have H := Lib.hid h
  have hni : (n : Int) ≤ 140737488355328 := by omega
  generalize wrongP xs most = R at *
  clear h
  by_cases h1 : most < 1
  · have hR2 : R = 2 := by rw [hR.out, if_pos (.inl h1)]
    subst hR2
    go_enter Try.func11, Try.ntmps11
    go_wp2_with fail
    go_ret
    exact ⟨rfl, rfl⟩
  by_cases h2 : 20 < most
  · have hR2 : R = 2 := by rw [hR.out, if_pos (.inr (.inl h2))]
    subst hR2
    go_enter Try.func11, Try.ntmps11
    go_wp2_with fail
    go_ret
    exact ⟨rfl, rfl⟩
  by_cases h3 : 65536 < n
  · have hR2 : R = 2 := by rw [hR.out, if_pos (.inr (.inr (.inl (by rw [HL.out]; exact h3))))]
    subst hR2
    have h3i : (65536 : Int) < (n : Int) := by omega
    clear h3
    go_enter Try.func11, Try.ntmps11
    go_wp2_with fail
    go_ret
    exact ⟨rfl, rfl⟩
  have h3i : ¬ (65536 : Int) < (n : Int) := by omega
  clear h3
  cases hax : xs.any neg
  case true =>
    have hR2 : R = 2 := by rw [hR.out, if_pos (.inr (.inr (.inr hax)))]
    subst hR2
    rw [hax] at HC
    clear hax hR
    go_enter Try.func11, Try.ntmps11
    go_wp2_with fail
    refine HC.out.mono ?_
    rintro e w1 ⟨rfl, rfl⟩
    go_wp2_with fail
    go_ret
    exact ⟨rfl, rfl⟩
  rw [hax] at HC
  have HS : Hid ((if (sumPos (xs.drop 0) 0).isNone then (3 : Int) else 0) = R) := by
    show _ = _
    have h9 : ¬ (most < 1 ∨ 20 < most ∨ 65536 < xs.length ∨ xs.any neg = true) := by
      rintro (h9 | h9 | h9 | h9)
      · exact h1 h9
      · exact h2 h9
      · rw [HL.out] at h9; omega
      · rw [hax] at h9; cases h9
    rw [List.drop_zero, hR.out, if_neg h9]
  have HNN := Lib.hid (nonneg_of xs hax)
  clear hax hR
  go_enter Try.func11, Try.ntmps11
  go_wp2_with fail
  refine HC.out.mono ?_
  rintro e w1 ⟨rfl, rfl⟩
  go_wp2_with fail
  go_loopw [5, 7, 25] (fun vs _ vi wr => ∃ (i : Nat) (s : Int), i ≤ n ∧ vi = .int .i64 (i : Nat) ∧ vs = .int .i64 s ∧ 0 ≤ s ∧ s ≤ 1099511627776 ∧ Hid ((if (sumPos (xs.drop i) s).isNone then (3 : Int) else 0) = R) ∧ w = wr) (fun _ _ vi _ => n - (intOf vi).toNat)
  case atStart => exact ⟨0, 0, Nat.zero_le _, by simp, rfl, by omega, by omega, HS.out, rfl⟩
  case round =>
    clear HS
    obtain ⟨i, s, hi, rfl, rfl, hs0, hs1, HE, rfl⟩ := hrel
    by_cases hin : i < n
    · have hini : (i : Int) < (n : Int) := by omega
      obtain ⟨b, o, rfl, hcell⟩ := H.out.at_ (by omega)
      have cx := hcell i hin
      have hxr := H.out.int i
      have hx0 := HNN.out i
      have hE := HE.out
      rw [sumPos_drop xs i s (by rw [HL.out]; exact hin)] at hE
      generalize xs.getD i 0 = x at *
      clear hcell HE
      by_cases hb : 1099511627776 - s < x
      · have hR2 : R = 3 := by rw [if_pos hb] at hE; simpa using hE.symm
        subst hR2
        clear hE
        go_wp2_with fail
        go_ret
        exact ⟨rfl, rfl⟩
      · rw [if_neg hb] at hE
        have HE := Lib.hid hE
        clear hE
        go_wp2_with fail
        go_roundw
        case rel => exact ⟨i + 1, s + x, hin, by go_num, rfl, by omega, by omega, HE.out, trivial⟩
        case measure => simp [intOf]; omega
    · have hR2 : R = 0 := by
        have h9 := HE.out
        rw [List.drop_eq_nil_of_le (by rw [HL.out]; omega)] at h9
        simpa [sumPos] using h9.symm
      subst hR2
      have hini : ¬ (i : Int) < (n : Int) := by omega
      go_wp2_with fail
      go_ret
      exact ⟨rfl, rfl⟩
end Go.Proofs.Ytfegjdabjdahgaa
