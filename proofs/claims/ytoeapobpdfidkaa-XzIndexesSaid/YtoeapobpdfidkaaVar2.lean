/- number.Var and the document's. -/
import Derived.Test.YtoeapobpdfidkaaVar
import Derived.Test.YtoeapobpdfidkaaChk
namespace Go.Proofs.Ytoeapobpdfidkaa
open Go.RowKit
set_option linter.unusedVariables false
set_option linter.unusedSimpArgs false

/-- A number read, seven bits a byte: an error, the number, the place behind it. -/
def varG (xs : List Int) (n a : Nat) : Nat → Nat → Nat → Nat × Nat × Nat
  | 0, _, _ => (11, 0, 0)
  | t + 1, i, v =>
    if n ≤ a + i then (10, 0, 0)
    else if i = 9 then (11, 0, 0)
    else if bytN xs (a + i) = 0 ∧ 0 < i then (11, 0, 0)
    else if bytN xs (a + i) < 128 then (0, v + bytN xs (a + i) % 128 * 128 ^ i, a + i + 1)
    else varG xs n a t (i + 1) (v + bytN xs (a + i) % 128 * 128 ^ i)
def varP (xs : List Int) (n a : Nat) : Nat × Nat × Nat := varG xs n a 10 0 0
theorem or_shift (v d i : Nat) (hi : i ≤ 8) (hv : v < 128 ^ i) (hd : d < 128) : bits .or .u64 (v : Int) ((d * 128 ^ i : Nat) : Int) = ((v + d * 128 ^ i : Nat) : Int) := by
  have hp : (128 : Nat) ^ i = 2 ^ (7 * i) := by rw [Nat.pow_mul]
  have h := Nat.two_pow_add_eq_or_of_lt (i := 7 * i) (b := v) (by rw [← hp]; exact hv) d
  have hle : 128 ^ i ≤ 128 ^ 8 := Nat.pow_le_pow_right (by decide) hi
  have hs : d * 128 ^ i ≤ 127 * 128 ^ 8 := Nat.mul_le_mul (by omega) hle
  have h8 : (128 : Nat) ^ 8 = 72057594037927936 := by decide
  show IntKind.u64.wrap ((BitVec.ofInt 64 (v : Int) ||| BitVec.ofInt 64 ((d * 128 ^ i : Nat) : Int)).toNat : Int) = _
  rw [BitVec.toNat_or, ofInt64 _ (by omega), ofInt64 _ (by omega), Nat.or_comm, Nat.mul_comm d, hp, ← h]
  show ((2 ^ (7 * i) * d + v : Nat) : Int) % 18446744073709551616 = _
  rw [← hp]
  have : 128 ^ i * d = d * 128 ^ i := Nat.mul_comm _ _
  omega
theorem and127 (k : Nat) (hk : k < 256) : bits .and .u8 (k : Int) 127 = ((k % 128 : Nat) : Int) :=
  bits_mask .u8 8 (by decide) (fun m a b => by rw [IntKind.wrap_u8]; omega) 7 (by decide) _ (by omega) (by omega)
set_option maxRecDepth 4000 in
set_option maxHeartbeats 2000000 in
theorem nVar_is (w : World) (A : Option Addr) (n c a : Nat) (xs : List Int) (h : Nums .u8 w A n c xs) (hat : a ≤ n) (hn : n ≤ 140737488355328) :
    Calls Try.prog 98 #[.slice A n c, .int .i64 (a : Nat)] w fun e w' => e = .returned (.tuple #[.int .u64 ((varP xs n a).2.1 : Nat), .int .i64 ((varP xs n a).2.2 : Nat), .int .i64 ((varP xs n a).1 : Nat)]) ∧ w = w' := by
  obtain ⟨R, hR⟩ : ∃ R, R = varP xs n a := ⟨_, rfl⟩
  rw [← hR]
  have HR := Lib.hid hR
  have H := Lib.hid h
  have HB := Lib.hid (And.intro hat hn)
  have hai : (a : Int) ≤ (n : Int) := by omega
  have hni : (n : Int) ≤ 140737488355328 := by omega
  obtain ⟨d, hd⟩ : ∃ d, d = n - a := ⟨_, rfl⟩
  have hcap := h.cap
  obtain ⟨As, hAs⟩ : ∃ As, As = Nums.off A c a := ⟨_, rfl⟩
  have hsl : ∀ w : World, (Instr.slice 51 (.slice A n c) (some (.int .i64 (a : Nat))) none none).run Try.prog w = .ok (.slice As d (c - a)) w := fun w => by
    have h9 := run_from (P := Try.prog) (t := 51) Try.underlying51 rfl rfl A n c a hat hcap w
    rw [h9, hd, hAs]
  have HD : Hid (Nums .u8 w As d (c - a) (xs.drop a)) := by
    show Nums _ _ _ _ _ _
    rw [hAs, hd]; exact h.drop a hat
  have HDE := Lib.hid hd
  have hdb : (d : Int) ≤ 140737488355328 := by omega
  clear hR h hat hn hcap hAs hd
  go_enter Try.func98, Try.ntmps98
  go_wp2_with fail
  clear hsl
  go_loopw [4, 7, 8, 21] (fun vv _ _ vi wr => ∃ (i v t : Nat), i ≤ d ∧ i ≤ 9 ∧ vi = .int .i64 (i : Nat) ∧ vv = .int .u64 (v : Nat) ∧ w = wr ∧ Hid (v < 128 ^ i ∧ i + t = 10 ∧ varG xs n a t i v = R)) (fun _ _ _ vi _ => d - (intOf vi).toNat)
  case atStart => exact ⟨0, 0, 10, Nat.zero_le _, by decide, rfl, rfl, rfl, ⟨by decide, rfl, HR.out.symm⟩⟩
  case round =>
    obtain ⟨i, v, t, hid, hi9, rfl, rfl, rfl, HT⟩ := hrel
    obtain ⟨t, rfl⟩ : ∃ t', t = t' + 1 := by
      cases t with
      | zero => have := HT.out.2.1; omega
      | succ t => exact ⟨t, rfl⟩
    by_cases hil : i < d
    · obtain ⟨b, o, rfl, hc⟩ := HD.out.at_ (by omega)
      obtain ⟨x, hx⟩ : ∃ x, x = bytN xs (a + i) := ⟨_, rfl⟩
      have hcl : w.cell? ⟨b, o + i, none⟩ = some (.int .u8 (x : Nat)) := by
        rw [hc i hil, hx, ← (bytN_is H.out (a + i)).1]
        simp [List.getD_eq_getElem?_getD]
      have hxb : x < 256 := by rw [hx]; exact (bytN_is H.out (a + i)).2
      have hxi : (x : Int) < 256 := by omega
      have hr0 : R = if i = 9 then (11, 0, 0) else if x = 0 ∧ 0 < i then (11, 0, 0) else if x < 128 then (0, v + x % 128 * 128 ^ i, a + i + 1) else varG xs n a t (i + 1) (v + x % 128 * 128 ^ i) := by
        rw [← HT.out.2.2, hx]
        show (if n ≤ a + i then _ else _) = _
        rw [if_neg (by have := HDE.out; omega)]
      have HR0 := Lib.hid hr0
      have hil' : (i : Int) < (d : Int) := by omega
      clear hc hx hr0
      by_cases h9 : i = 9
      · have hr := HR0.out
        rw [if_pos h9] at hr
        have HR2 := Lib.hid hr
        have e1 : ((i : Int) == 9) = true := by simp; omega
        have e2 : decide ((i : Int) = 9) = true := decide_eq_true (by omega)
        clear hr h9
        go_wp2_with fail
        try go_ret3
        exact ⟨by rw [HR2.out]; rfl, rfl⟩
      · have hr := HR0.out
        rw [if_neg h9] at hr
        replace HR0 := Lib.hid hr
        have e1 : ((i : Int) == 9) = false := by simp; omega
        have e2 : decide ((i : Int) = 9) = false := decide_eq_false (by omega)
        have hi8 : i ≤ 8 := by omega
        clear hr h9
        by_cases hz : x = 0 ∧ 0 < i
        · have hr := HR0.out
          rw [if_pos hz] at hr
          have HR2 := Lib.hid hr
          have e3 : ((x : Int) == 0) = true := by simp; omega
          have e4 : decide ((x : Int) = 0) = true := decide_eq_true (by omega)
          have e5 : decide ((0 : Int) < (i : Int)) = true := decide_eq_true (by omega)
          have e6 : decide (0 < i) = true := decide_eq_true (by omega)
          clear hr hz
          go_wp2_with fail
          try go_ret3
          exact ⟨by rw [HR2.out]; rfl, rfl⟩
        · have hr := HR0.out
          rw [if_neg hz] at hr
          replace HR0 := Lib.hid hr
          clear hr
          have hand := and127 x hxb
          obtain ⟨dd, hdd⟩ : ∃ dd, dd = x % 128 := ⟨_, rfl⟩
          rw [← hdd] at hand HR0
          have hddb : dd < 128 := by omega
          have hddi : (dd : Int) < 128 := by omega
          have hor := or_shift v dd i hi8 HT.out.1 hddb
          obtain ⟨sh, hsh⟩ : ∃ sh, sh = dd * 128 ^ i := ⟨_, rfl⟩
          have hshi : (dd : Int) * 2 ^ (7 * i) = (sh : Int) := by
            rw [hsh, show (128 : Nat) ^ i = 2 ^ (7 * i) by rw [Nat.pow_mul]]
            simp
          have hpw : 128 ^ i ≤ 72057594037927936 := Nat.le_trans (Nat.pow_le_pow_right (by decide) hi8) (by decide)
          have hsb : sh ≤ 127 * 128 ^ i := by rw [hsh]; exact Nat.mul_le_mul (by omega) (Nat.le_refl _)
          have hws : IntKind.u64.wrap (sh : Int) = (sh : Int) := by show (sh : Int) % 18446744073709551616 = _; omega
          have hws2 : IntKind.u64.wrap ((dd : Int) * 2 ^ (7 * i)) = (sh : Int) := by rw [hshi]; exact hws
          obtain ⟨v2, hv2⟩ : ∃ v2, v2 = v + sh := ⟨_, rfl⟩
          have hv2b : v2 < 128 ^ (i + 1) := by have h1 := HT.out.1; rw [hv2, Nat.pow_succ]; omega
          rw [← hsh, ← hv2] at hor HR0
          have HV2 := Lib.hid hv2b
          clear hdd hsh hpw hsb hv2 hv2b
          rcases (show (x = 0 ∧ i = 0) ∨ x ≠ 0 by omega) with hz1 | hz1
          · have e3 : ((x : Int) == 0) = true := by simp; omega
            have e4 : decide ((x : Int) = 0) = true := decide_eq_true (by omega)
            have e5 : decide ((0 : Int) < (i : Int)) = false := decide_eq_false (by omega)
            have e6 : decide (0 < i) = false := decide_eq_false (by omega)
            have q1 : decide ((x : Int) < 128) = true := decide_eq_true (by omega)
            have q2 : decide (x < 128) = true := decide_eq_true (by omega)
            have hr := HR0.out
            rw [if_pos (by omega)] at hr
            have HR2 := Lib.hid hr
            have hnx : ((a : Int) + (i : Int)) + 1 = ((a + i + 1 : Nat) : Int) := by omega
            obtain ⟨nx, hnxe⟩ : ∃ nx, nx = a + i + 1 := ⟨_, rfl⟩
            rw [← hnxe] at hnx HR2
            clear hr hz hz1 hnxe
            go_upto_region 9 with fail
            (try rw [hws, hor])
            clear hor hws hws2 hshi hand
            go_wp2_with fail
            try go_ret3
            exact ⟨by rw [HR2.out]; first | rfl | (rw [← hnx]; rfl), rfl⟩
          · have e3 : ((x : Int) == 0) = false := by simp; omega
            have e4 : decide ((x : Int) = 0) = false := decide_eq_false (by omega)
            by_cases hx1 : x < 128
            · have q1 : decide ((x : Int) < 128) = true := decide_eq_true (by omega)
              have q2 : decide (x < 128) = true := decide_eq_true (by omega)
              have hr := HR0.out
              rw [if_pos hx1] at hr
              have HR2 := Lib.hid hr
              obtain ⟨nx, hnxe⟩ : ∃ nx, nx = a + i + 1 := ⟨_, rfl⟩
              have hnx : ((a : Int) + (i : Int)) + 1 = (nx : Int) := by omega
              rw [← hnxe] at HR2
              clear hr hz hz1 hnxe hx1
              go_upto_region 9 with fail
              (try rw [hws, hor])
              clear hor hws hws2 hshi hand
              go_wp2_with fail
              try go_ret3
              exact ⟨by rw [HR2.out]; first | rfl | (rw [← hnx]; rfl), rfl⟩
            · have q1 : decide ((x : Int) < 128) = false := decide_eq_false (by omega)
              have q2 : decide (x < 128) = false := decide_eq_false (by omega)
              have hr := HR0.out
              rw [if_neg hx1] at hr
              have HR2 := Lib.hid hr
              clear hr hz hz1 hx1
              go_upto_region 9 with fail
              (try rw [hws, hor])
              clear hor hws hws2 hshi hand
              go_wp2_with fail
              go_roundw
              case rel => exact ⟨i + 1, v2, t, by omega, by omega, by go_num, rfl, trivial, ⟨HV2.out, by have := HT.out.2.1; omega, HR2.out.symm⟩⟩
              case measure => simp [intOf]; omega
    · obtain rfl : i = d := by omega
      have hr : R = (10, 0, 0) := by
        rw [← HT.out.2.2]
        show (if n ≤ a + i then _ else _) = _
        rw [if_pos (by have := HDE.out; have := HB.out; omega)]
      have HR2 := Lib.hid hr
      clear hr
      go_wp2_with fail
      try go_ret3
      exact ⟨by rw [HR2.out]; rfl, rfl⟩
end Go.Proofs.Ytoeapobpdfidkaa
