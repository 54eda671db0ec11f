/- The document's Var. -/
import Derived.Test.YtoeapobpdfidkaaVar2
namespace Go.Proofs.Ytoeapobpdfidkaa
open Go.RowKit
set_option linter.unusedVariables false
set_option linter.unusedSimpArgs false

set_option maxRecDepth 4000 in
set_option maxHeartbeats 2000000 in
theorem rVar_is (w : World) (A : Option Addr) (n c a : Nat) (xs : List Int) (h : Nums .u8 w A n c xs) (hat : a ≤ n) (hn : n ≤ 140737488355328) :
    Calls Try.prog 68 #[.slice A n c, .int .i64 (a : Nat)] w fun e w' => e = .returned (.tuple #[.int .u64 ((varP xs n a).2.1 : Nat), .int .i64 ((varP xs n a).2.2 : Nat), .int .i64 ((varP xs n a).1 : Nat)]) ∧ w = w' := by
  obtain ⟨R, hR⟩ : ∃ R, R = varP xs n a := ⟨_, rfl⟩
  rw [← hR]
  have HR := Lib.hid hR
  have H := Lib.hid h
  have HB := Lib.hid (And.intro hat hn)
  have hai : (a : Int) ≤ (n : Int) := by omega
  have hni : (n : Int) ≤ 140737488355328 := by omega
  clear hR h hat hn
  go_enter Try.func68, Try.ntmps68
  go_wp2_with fail
  go_loopw [7, 8, 9] (fun vv vi _ wr => ∃ (i v t : Nat), i ≤ 9 ∧ vi = .int .i64 (i : Nat) ∧ vv = .int .u64 (v : Nat) ∧ w = wr ∧ Hid (v < 128 ^ i ∧ i + t = 10 ∧ varG xs n a t i v = R)) (fun _ vi _ _ => 10 - (intOf vi).toNat)
  case atStart => exact ⟨0, 0, 10, by decide, rfl, rfl, rfl, ⟨by decide, rfl, HR.out.symm⟩⟩
  case round =>
    obtain ⟨i, v, t, hi9, rfl, rfl, rfl, HT⟩ := hrel
    obtain ⟨t, rfl⟩ : ∃ t', t = t' + 1 := by
      cases t with
      | zero => have := HT.out.2.1; omega
      | succ t => exact ⟨t, rfl⟩
    obtain ⟨p, hp⟩ : ∃ p, p = a + i := ⟨_, rfl⟩
    have hpi : (a : Int) + (i : Int) = (p : Int) := by omega
    have hpb : (p : Int) ≤ 140737488355400 := by omega
    have HP := Lib.hid hp
    by_cases hil : p < n
    · have k1 : decide ((n : Int) ≤ (p : Int)) = false := decide_eq_false (by omega)
      have k2 : decide (n ≤ p) = false := decide_eq_false (by omega)
      obtain ⟨b, o, rfl, hc⟩ := H.out.at_ (by omega)
      obtain ⟨x, hx⟩ : ∃ x, x = bytN xs p := ⟨_, rfl⟩
      have hcl : w.cell? ⟨b, o + p, none⟩ = some (.int .u8 (x : Nat)) := by
        rw [hc p hil, hx, ← (bytN_is H.out p).1]
      have hxb : x < 256 := by rw [hx]; exact (bytN_is H.out p).2
      have hxi : (x : Int) < 256 := by omega
      have hr0 : R = if i = 9 then (11, 0, 0) else if x = 0 ∧ 0 < i then (11, 0, 0) else if x < 128 then (0, v + x % 128 * 128 ^ i, p + 1) else varG xs n a t (i + 1) (v + x % 128 * 128 ^ i) := by
        rw [← HT.out.2.2, hx, hp]
        show (if n ≤ a + i then _ else _) = _
        rw [if_neg (by omega)]
      have HR0 := Lib.hid hr0
      have hil' : (p : Int) < (n : Int) := by omega
      clear hc hx hr0 hp
      by_cases h9 : i = 9
      · have hr := HR0.out
        rw [if_pos h9] at hr
        have HR2 := Lib.hid hr
        have e1 : ((i : Int) == 9) = true := by simp; omega
        have e2 : decide ((i : Int) = 9) = true := decide_eq_true (by omega)
        clear hr h9
        go_wp2_with fail
        try go_ret3
        exact ⟨by rw [HR2.out]; rfl, rfl⟩
      · have hr := HR0.out
        rw [if_neg h9] at hr
        replace HR0 := Lib.hid hr
        have e1 : ((i : Int) == 9) = false := by simp; omega
        have e2 : decide ((i : Int) = 9) = false := decide_eq_false (by omega)
        have hi8 : i ≤ 8 := by omega
        have hi8i : (i : Int) ≤ 8 := by omega
        clear hr h9
        by_cases hz : x = 0 ∧ 0 < i
        · have hr := HR0.out
          rw [if_pos hz] at hr
          have HR2 := Lib.hid hr
          have e3 : ((x : Int) == 0) = true := by simp; omega
          have e4 : decide ((x : Int) = 0) = true := decide_eq_true (by omega)
          have e5 : decide ((0 : Int) < (i : Int)) = true := decide_eq_true (by omega)
          have e6 : decide (0 < i) = true := decide_eq_true (by omega)
          clear hr hz
          go_wp2_with fail
          try go_ret3
          exact ⟨by rw [HR2.out]; rfl, rfl⟩
        · have hr := HR0.out
          rw [if_neg hz] at hr
          replace HR0 := Lib.hid hr
          clear hr
          obtain ⟨dd, hdd⟩ : ∃ dd, dd = x % 128 := ⟨_, rfl⟩
          have hand : (x : Int) % 128 = (dd : Int) := by omega
          rw [← hdd] at HR0
          have hddb : dd < 128 := by omega
          have hddi : (dd : Int) < 128 := by omega
          have hor := or_shift v dd i hi8 HT.out.1 hddb
          obtain ⟨sh, hsh⟩ : ∃ sh, sh = dd * 128 ^ i := ⟨_, rfl⟩
          have hshi : (dd : Int) * 2 ^ (7 * i) = (sh : Int) := by
            rw [hsh, show (128 : Nat) ^ i = 2 ^ (7 * i) by rw [Nat.pow_mul]]
            simp
          have hpw : 128 ^ i ≤ 72057594037927936 := Nat.le_trans (Nat.pow_le_pow_right (by decide) hi8) (by decide)
          have hsb : sh ≤ 127 * 128 ^ i := by rw [hsh]; exact Nat.mul_le_mul (by omega) (Nat.le_refl _)
          have hws : IntKind.u64.wrap (sh : Int) = (sh : Int) := by show (sh : Int) % 18446744073709551616 = _; omega
          have hws2 : IntKind.u64.wrap ((dd : Int) * 2 ^ (7 * i)) = (sh : Int) := by rw [hshi]; exact hws
          obtain ⟨v2, hv2⟩ : ∃ v2, v2 = v + sh := ⟨_, rfl⟩
          have hv2b : v2 < 128 ^ (i + 1) := by have h1 := HT.out.1; rw [hv2, Nat.pow_succ]; omega
          rw [← hsh, ← hv2] at hor HR0
          have HV2 := Lib.hid hv2b
          have hz1 : ((x : Int) == 0 && decide ((0 : Int) < (i : Int))) = false := by
            rcases (show x ≠ 0 ∨ i = 0 by omega) with h1 | h1
            · have : ((x : Int) == 0) = false := by simp; omega
              rw [this]; rfl
            · rw [h1]; simp
          clear hdd hsh hpw hsb hv2 hv2b
          rcases (show (x = 0 ∧ i = 0) ∨ x ≠ 0 by omega) with hz2 | hz2
          · have e3 : ((x : Int) == 0) = true := by simp; omega
            have e4 : decide ((x : Int) = 0) = true := decide_eq_true (by omega)
            have e5 : decide ((0 : Int) < (i : Int)) = false := decide_eq_false (by omega)
            have e6 : decide (0 < i) = false := decide_eq_false (by omega)
            have q1 : decide ((x : Int) < 128) = true := decide_eq_true (by omega)
            have q2 : decide (x < 128) = true := decide_eq_true (by omega)
            have hr := HR0.out
            rw [if_pos (by omega)] at hr
            have HR2 := Lib.hid hr
            clear hr hz hz1 hz2
            go_upto_region 14 with fail
            (try rw [hws, hor])
            clear hor hws hws2 hshi hand
            go_wp2_with fail
            try go_ret3
            exact ⟨by rw [HR2.out]; rfl, rfl⟩
          · have e3 : ((x : Int) == 0) = false := by simp; omega
            have e4 : decide ((x : Int) = 0) = false := decide_eq_false (by omega)
            by_cases hx1 : x < 128
            · have q1 : decide ((x : Int) < 128) = true := decide_eq_true (by omega)
              have q2 : decide (x < 128) = true := decide_eq_true (by omega)
              have hr := HR0.out
              rw [if_pos hx1] at hr
              have HR2 := Lib.hid hr
              clear hr hz hz1 hz2 hx1
              go_upto_region 14 with fail
              (try rw [hws, hor])
              clear hor hws hws2 hshi hand
              go_wp2_with fail
              try go_ret3
              exact ⟨by rw [HR2.out]; rfl, rfl⟩
            · have q1 : decide ((x : Int) < 128) = false := decide_eq_false (by omega)
              have q2 : decide (x < 128) = false := decide_eq_false (by omega)
              have hr := HR0.out
              rw [if_neg hx1] at hr
              have HR2 := Lib.hid hr
              clear hr hz hz1 hz2 hx1
              go_upto_region 14 with fail
              (try rw [hws, hor])
              clear hor hws hws2 hshi hand
              go_wp2_with fail
              go_roundw
              case rel => exact ⟨i + 1, v2, t, by omega, by go_num, rfl, trivial, ⟨HV2.out, by have := HT.out.2.1; omega, HR2.out.symm⟩⟩
              case measure => simp [intOf]; omega
    · have k1 : decide ((n : Int) ≤ (p : Int)) = true := decide_eq_true (by omega)
      have k2 : decide (n ≤ p) = true := decide_eq_true (by omega)
      have hr : R = (10, 0, 0) := by
        rw [← HT.out.2.2]
        show (if n ≤ a + i then _ else _) = _
        rw [if_pos (by omega)]
      have HR2 := Lib.hid hr
      clear hr hp
      go_wp2_with fail
      try go_ret3
      exact ⟨by rw [HR2.out]; rfl, rfl⟩
end Go.Proofs.Ytoeapobpdfidkaa
