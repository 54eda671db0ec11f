/- prefix: odd, full. -/
import Derived.Test.YtofalbbbnhnadaaPfP
import Derived.Test.YtofalbbbnhnadaaIdxF
namespace Go.Proofs.Ytofalbbbnhnadaa
open Go.RowKit
set_option linter.unusedVariables false
set_option linter.unusedSimpArgs false

/-- A length that may not be. -/
def oddL (most : Nat) (x : Int) : Bool := decide (x < 0) || decide ((most : Int) < x)
set_option maxRecDepth 4000 in
theorem oddL_tells (w : World) (gm most : Nat) (hc : w.cell? ⟨gm, 0, none⟩ = some (.int .i64 most)) : Tells Try.prog w (.func (.func 28) #[] #[.pointer (some ⟨gm, 0, none⟩)]) (oddL most) := by
  refine ⟨28, #[.pointer (some ⟨gm, 0, none⟩)], rfl, fun args w' => by go_simp, fun x hx => ?_⟩
  show Calls Try.prog 28 #[.int .i64 x, .pointer (some ⟨gm, 0, none⟩)] w _
  by_cases h1 : x < 0
  · rw [show oddL most x = true by simp [oddL, h1]]
    go_enter Try.func28, Try.ntmps28
    go_wp2_with fail
    go_ret
    exact ⟨rfl, rfl⟩
  · by_cases h2 : (most : Int) < x
    · rw [show oddL most x = true by simp [oddL, h2]]
      go_enter Try.func28, Try.ntmps28
      go_wp2_with fail
      go_ret
      exact ⟨rfl, rfl⟩
    · rw [show oddL most x = false by simp [oddL, h1, h2]]
      go_enter Try.func28, Try.ntmps28
      go_wp2_with fail
      go_ret
      exact ⟨rfl, rfl⟩
/-- The numbers of a row. -/
def toN (l : List Int) : List Nat := l.map Int.toNat
theorem toN_get (xs : List Int) (i : Nat) (h : 0 ≤ xs.getD i 0) : ((toN xs).getD i 0 : Int) = xs.getD i 0 := by
  simp [toN, List.getD_eq_getElem?_getD] at h ⊢
  cases hq : xs[i]? with
  | none => rfl
  | some y => rw [hq] at h; simp at h ⊢; omega
theorem toN_take (xs : List Int) (i : Nat) : toN (xs.take i) = (toN xs).take i := by simp [toN, List.map_take]
theorem take_snoc4 (l : List Nat) (i : Nat) (h : i < l.length) : l.take (i + 1) = l.take i ++ [l.getD i 0] := by
  rw [List.take_add_one]
  congr 1
  simp [List.getD_eq_getElem?_getD, h]
theorem toN_len (xs : List Int) : (toN xs).length = xs.length := by simp [toN]
set_option maxRecDepth 8000 in
set_option maxHeartbeats 2000000 in
theorem full_is (w : World) (A : Option Addr) (m c : Nat) (xs : List Int) (hx : Nums .i64 w A m c xs) (hm : m ≤ 65536) (hr : ∀ i, 0 ≤ xs.getD i 0 ∧ xs.getD i 0 ≤ 20) (loose : Bool) :
    Calls Try.prog 30 #[.slice A m c, .bool loose] w fun e w' => e = .returned (.bool (fullK (toN xs) loose)) ∧ w = w' := by
  have HX := Lib.hid hx
  have HR := Lib.hid (And.intro hm hr)
  have HLN : Hid ((toN xs).length = m) := by show _ = _; rw [toN_len, hx.len]
  obtain ⟨R, hR⟩ : ∃ R, R = fullK (toN xs) loose := ⟨_, rfl⟩
  rw [← hR]
  have HRE := Lib.hid hR
  have hmi : (m : Int) ≤ 65536 := by omega
  clear hx hm hr hR
  go_enter Try.func30, Try.ntmps30
  go_wp2_with fail
  go_loopw [5, 6, 11] (fun vs vn vi wr => ∃ (i S C : Nat), i ≤ m ∧ vs = .int .i64 S ∧ vn = .int .i64 C ∧ vi = .int .i64 i ∧ w = wr ∧ Hid (S = sumK ((toN xs).take i) ∧ C = cntK ((toN xs).take i))) (fun _ _ vi _ => m - (intOf vi).toNat)
  case atStart => exact ⟨0, 0, 0, by omega, rfl, rfl, rfl, rfl, by simp [sumK], by simp [cntK]⟩
  case round =>
    obtain ⟨i, S, C, hi, rfl, rfl, rfl, rfl, HS⟩ := hrel
    have hSb : S ≤ 524288 * 65536 := by
      have h1 := sumK_le ((toN xs).take i)
      have h2 : ((toN xs).take i).length ≤ i := by rw [List.length_take]; omega
      rw [HS.out.1]
      have := HR.out.1
      omega
    have hCb : C ≤ 65536 := by
      have h1 := cntK_le ((toN xs).take i)
      have h2 : ((toN xs).take i).length ≤ i := by rw [List.length_take]; omega
      rw [HS.out.2]
      have := HR.out.1
      omega
    by_cases hin : i < m
    · obtain ⟨b, o, rfl, hc⟩ := HX.out.at_ (by omega)
      have hcell := hc i hin
      have hxr := HR.out.2 i
      have hxn := toN_get xs i hxr.1
      have HTK : Hid ((toN xs).take (i + 1) = (toN xs).take i ++ [(toN xs).getD i 0]) := take_snoc4 _ i (by rw [HLN.out]; exact hin)
      obtain ⟨x, hxx⟩ : ∃ x : Nat, x = (toN xs).getD i 0 := ⟨_, rfl⟩
      rw [← hxx] at hxn HTK
      rw [← hxn] at hcell hxr
      have hx20 : x ≤ 20 := by omega
      have hSi : (S : Int) ≤ 34359738368 := by omega
      have hCi : (C : Int) ≤ 65536 := by omega
      clear hc hxr hxn hxx hSb hCb
      by_cases hx0 : 0 < x
      · obtain ⟨q, hq⟩ : ∃ q, q = 20 - x := ⟨_, rfl⟩
        have hq1 : (20 : Int) - (x : Int) = (q : Int) := by omega
        have hq64 : q < 64 := by omega
        obtain ⟨k, hk⟩ : ∃ k, k = 2 ^ q := ⟨_, rfl⟩
        have hkb : k ≤ 1048576 := by rw [hk]; have : 2 ^ q ≤ 2 ^ 20 := Nat.pow_le_pow_right (by omega) (by omega); omega
        have hsw : IntKind.i64.wrap (2 ^ q) = (k : Int) := by
          rw [show ((2 : Int) ^ q) = ((2 ^ q : Nat) : Int) by rw [Int.natCast_pow]; rfl, ← hk, IntKind.wrap_i64]
          omega
        have hki : (k : Int) ≤ 1048576 := by omega
        have HN : Hid (S + k = sumK ((toN xs).take (i + 1)) ∧ C + 1 = cntK ((toN xs).take (i + 1))) := by
          rw [HTK.out, sumK_snoc, cntK_snoc, if_pos hx0, ← HS.out.1, ← HS.out.2, kr, if_pos hx0, ← hq, ← hk]
          exact ⟨rfl, rfl⟩
        have hx0i : (0 : Int) < (x : Int) := by omega
        clear hk hkb hq hx0
        go_wp2_with fail
        go_roundw
        case rel => exact ⟨i + 1, S + k, C + 1, by omega, by go_num, by go_num, by go_num, trivial, HN.out⟩
        case measure => simp [intOf]; omega
      · obtain rfl : x = 0 := by omega
        have HN : Hid (S = sumK ((toN xs).take (i + 1)) ∧ C = cntK ((toN xs).take (i + 1))) := by
          rw [HTK.out, sumK_snoc, cntK_snoc, if_neg hx0, ← HS.out.1, ← HS.out.2, kr, if_neg hx0]
          exact ⟨rfl, rfl⟩
        clear hx0
        go_wp2_with fail
        go_roundw
        case rel => exact ⟨i + 1, S, C, by omega, rfl, rfl, by go_num, trivial, HN.out⟩
        case measure => simp [intOf]; omega
    · obtain rfl : m = i := by omega
      have HK : Hid (S = sumK (toN xs) ∧ C = cntK (toN xs)) := by
        have h := HS.out
        rw [List.take_of_length_le (by rw [HLN.out]; exact Nat.le_refl _)] at h
        exact h
      have HF : Hid (R = (decide (S = 1048576) || (loose && (decide (C = 0) || (decide (C = 1) && decide (S = 524288)))))) := by
        show _ = _
        rw [HRE.out, HK.out.1, HK.out.2]
        rfl
      clear HRE HK HS hSb hCb
      by_cases h1 : S = 1048576
      · subst h1
        obtain rfl : R = true := by rw [HF.out]; simp
        clear HF
        go_wp2_with fail
        go_ret
        exact ⟨rfl, rfl⟩
      have h1b : ((S : Int) == 1048576) = false := by rw [beq_eq_false_iff_ne]; omega
      have HF2 : Hid (R = (loose && (decide (C = 0) || (decide (C = 1) && decide (S = 524288))))) := by
        show _ = _
        rw [HF.out, decide_eq_false h1]
        rfl
      clear h1 HF
      cases loose
      · obtain rfl : R = false := by rw [HF2.out]; rfl
        clear HF2
        go_wp2_with fail
        go_ret
        exact ⟨rfl, rfl⟩
      by_cases h2 : C = 0
      · subst h2
        obtain rfl : R = true := by rw [HF2.out]; rfl
        clear HF2
        go_wp2_with fail
        go_ret
        exact ⟨rfl, rfl⟩
      have h2b : ((C : Int) == 0) = false := by rw [beq_eq_false_iff_ne]; omega
      by_cases h3 : C = 1
      · subst h3
        by_cases h4 : S = 524288
        · subst h4
          obtain rfl : R = true := by rw [HF2.out]; rfl
          clear HF2
          go_wp2_with fail
          go_ret
          exact ⟨rfl, rfl⟩
        · have h4b : ((S : Int) == 524288) = false := by rw [beq_eq_false_iff_ne]; omega
          obtain rfl : R = false := by rw [HF2.out]; simp [h4]
          clear HF2 h4
          go_wp2_with fail
          go_ret
          exact ⟨rfl, rfl⟩
      · have h3b : ((C : Int) == 1) = false := by rw [beq_eq_false_iff_ne]; omega
        obtain rfl : R = false := by rw [HF2.out]; simp [h2, h3]
        clear HF2 h3 h2
        go_wp2_with fail
        go_ret
        exact ⟨rfl, rfl⟩
end Go.Proofs.Ytofalbbbnhnadaa
