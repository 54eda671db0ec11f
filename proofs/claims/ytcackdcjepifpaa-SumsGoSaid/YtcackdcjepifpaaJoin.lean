/- Sums are joined: the program's words and the document's. -/
import Derived.Test.YtcackdcjepifpaaJoinPure
import Derived.Test.YtcackdcjepifpaaHold
namespace Go.Proofs.Ytcackdcjepifpaa
open Go.RowKit
set_option linter.unusedVariables false
set_option linter.unusedSimpArgs false

theorem bit_int (a j : Nat) (ha : a < 4294967296) : bits .and .u32 ((a : Int) / 2 ^ j) 1 = (((a.testBit j).toNat : Nat) : Int) := by
  have e : (a : Int) / 2 ^ j = ((a / 2 ^ j : Nat) : Int) := by rw [Int.natCast_ediv, Int.natCast_pow]; rfl
  rw [e, and1_u32 _ (Nat.lt_of_le_of_lt (Nat.div_le_self _ _) ha)]
  congr 1
  rw [Nat.testBit_eq_decide_div_mod_eq]
  rcases Nat.mod_two_eq_zero_or_one (a / 2 ^ j) with h | h <;> simp [h]
theorem zz_int (b : Nat) (hb : b < 4294967296) : bits .xor .u32 ((b : Int) / 2) (3988292384 * ((b : Int) % 2)) = ((ZZ b : Nat) : Int) := by
  rw [show (b : Int) % 2 = ((b % 2 : Nat) : Int) from rfl, show (b : Int) / 2 = ((b / 2 : Nat) : Int) from rfl, show (3988292384 : Int) * ((b % 2 : Nat) : Int) = ((3988292384 * (b % 2) : Nat) : Int) from by omega, xor_u32 _ _ (by omega) (by omega), ZZ_mul]

theorem and1_i64 (a : Nat) (ha : a < 9223372036854775808) : bits .and .i64 (a : Int) 1 = ((a % 2 : Nat) : Int) := by
  exact bits_mask .i64 63 (by decide) (fun m a b => by rw [IntKind.wrap_i64]; omega) 1 (by decide) (a : Int) (by omega) (by omega)
set_option maxRecDepth 4000 in
set_option maxHeartbeats 1000000 in
theorem times_is (w : World) (a b : Nat) (ha : a < 4294967296) (hb : b < 4294967296) :
    Calls Try.prog 19 #[.int .u32 a, .int .u32 b] w fun e w' => e = .returned (.int .u32 (tms a b : Nat)) ∧ tms a b < 4294967296 ∧ w = w' := by
  have HA := Lib.hid ha
  have HB0 := Lib.hid hb
  clear ha hb
  go_enter Try.func19, Try.ntmps19
  go_wp2_with fail
  go_loopw [1, 5, 6] (fun vb vp vi wr => ∃ (k p' b' : Nat) (z : Int), k ≤ 32 ∧ z = (k : Int) - 1 ∧ vi = .int .i64 z ∧ vp = .int .u32 p' ∧ vb = .int .u32 b' ∧ Hid (p' < 4294967296) ∧ Hid (b' < 4294967296) ∧ TI a b k p' b' ∧ wr = w) (fun _ _ vi _ => ((intOf vi) + 1).toNat)
  case atStart => exact ⟨32, 0, b, _, by omega, by decide, rfl, rfl, rfl, (by decide : (0:Nat) < 4294967296), HB0, TI.start a b, rfl⟩
  case round =>
    obtain ⟨k, p', b', z, hk, hz, rfl, rfl, rfl, hP, hB, ht, rfl⟩ := hrel
    cases k with
    | zero =>
      have hz' : z < 0 := by omega
      clear hz hk
      have HT : Hid (p' = tms a b) := ht.stop
      clear ht
      go_wp2_with fail
      go_ret
      exact ⟨by rw [← HT.out]; rfl, by rw [← HT.out]; exact hP, rfl⟩
    | succ j =>
      obtain rfl : z = (j : Int) := by omega
      clear hz
      have hj : j < 32 := by omega
      have HT := ht.step
      have hp' := hP.out
      have hb' := hB.out
      have hx := xor_u32 p' b' hp' hb'
      have hxl : p' ^^^ b' < 4294967296 := Nat.xor_lt_two_pow (n := 32) hp' hb'
      have h1 := and1_u32 b' hb'
      have hzz := zz_int b' hb'
      have hzl := ZZ_lt b' hb'
      have hbit := bit_int a j HA.out
      have hm2 : b' % 2 < 2 := Nat.mod_lt _ (by decide)
      have HX : Hid (p' ^^^ b' < 4294967296) := hxl
      have HZ : Hid (ZZ b' < 4294967296) := hzl
      clear ht hp' hb' hxl hzl
      cases htb : a.testBit j
      all_goals
        rw [htb] at HT hbit
        simp only [Bool.toNat_false, Bool.toNat_true, if_true, if_false, Bool.false_eq_true] at HT hbit
        clear htb
        go_wp2_with fail
        go_roundw
        case rel => exact ⟨j, _, _, _, by omega, rfl, by go_num, rfl, rfl, by first | exact hP | exact HX, HZ, HT, by trivial⟩
        case measure => simp [intOf]

theorem tms_lt (a b : Nat) (ha : a < 4294967296) (hb : b < 4294967296) : tms a b < 4294967296 := by
  unfold tms
  have h : ∀ k p b', p < 4294967296 → b' < 4294967296 → tims a k p b' < 4294967296 := by
    intro k
    induction k with
    | zero => intro p b' hp _; exact hp
    | succ k ih =>
      intro p b' hp hb'
      refine ih _ _ ?_ (ZZ_lt b' hb')
      split
      · exact Nat.xor_lt_two_pow (n := 32) hp hb'
      · exact hp
  exact h 32 0 b (by decide) hb
theorem one_lt (j : Nat) : Zn j 2147483648 < 4294967296 := Zn_lt j _ (by decide)

set_option maxHeartbeats 1000000 in
theorem join_is (w : World) (a b : Nat) (n : Int) (ha : a < 4294967296) (hb : b < 4294967296) (hn : n ≤ 9223372036854775807) :
    Calls Try.prog 8 #[.int .u32 a, .int .u32 b, .int .i64 n] w fun e w' => e = .returned (if n < 0 then .tuple #[.int .u32 0, .int .i64 2] else .tuple #[.int .u32 (Zn (8 * n.toNat) a ^^^ b : Nat), .int .i64 0]) ∧ w = w' := by
  by_cases hneg : n < 0
  · rw [if_pos hneg]
    go_enter Try.func8, Try.ntmps8
    go_wp2_with fail
    go_ret2
    exact ⟨rfl, rfl⟩
  rw [if_neg hneg]
  obtain ⟨m, rfl⟩ := Int.eq_ofNat_of_zero_le (show 0 ≤ n by omega)
  rw [Int.toNat_natCast]
  have HA := Lib.hid ha
  have HB := Lib.hid hb
  clear ha hb hneg
  go_enter Try.func8, Try.ntmps8
  go_wp2_with fail
  go_loopw [2, 8, 9] (fun vn vp vx wr => ∃ (k p x : Nat), k ≤ m ∧ vn = .int .i64 k ∧ vp = .int .u32 (Zn p 2147483648 : Nat) ∧ vx = .int .u32 (Zn x 2147483648 : Nat) ∧ Hid (p + x * k = 8 * m) ∧ wr = w) (fun vn _ _ _ => (intOf vn).toNat)
  case atStart => exact ⟨m, 0, 8, by omega, rfl, rfl, by rw [eight]; rfl, (by omega : 0 + 8 * m = 8 * m), rfl⟩
  case round =>
    obtain ⟨k, p, x, hk, rfl, rfl, rfl, hpx, rfl⟩ := hrel
    by_cases hk0 : k = 0
    · subst hk0
      have hp8 : p = 8 * m := by have : p + x * 0 = 8 * m := hpx; omega
      subst hp8
      clear hpx
      have ht := Lib.hid (tms_pow a (8 * m) HA.out)
      have hx := xor_u32 (Zn (8 * m) a) b (Zn_lt _ _ HA.out) HB.out
      go_wp2_with fail
      refine (times_is wr a (Zn (8 * m) 2147483648) HA.out (one_lt _)).mono ?_
      rintro e w2 ⟨rfl, _, rfl⟩
      rw [ht.out]
      go_wp2_with fail
      go_ret2
      exact ⟨rfl, rfl⟩
    · have h1 : (0 : Int) < k := by omega
      have hand := and1_i64 k (by omega)
      have hsq : tms (Zn x 2147483648) (Zn x 2147483648) = Zn (x + x) 2147483648 := by rw [tms_pow _ x (one_lt x), ← Zn_add]
      have hpr : tms (Zn p 2147483648) (Zn x 2147483648) = Zn (p + x) 2147483648 := by rw [tms_pow _ x (one_lt p), ← Zn_add]
      have HSQ := Lib.hid hsq
      have HPR := Lib.hid hpr
      clear hsq hpr
      have hk2 : k = 2 * (k / 2) + k % 2 := by omega
      have hmul : x * k = (x + x) * (k / 2) + x * (k % 2) := by
        conv => lhs; rw [hk2]
        rw [Nat.mul_add, Nat.add_mul, ← Nat.mul_assoc, Nat.mul_comm x 2, Nat.two_mul, Nat.add_mul]
      have hpx' : p + x * k = 8 * m := hpx
      have HE : Hid (p + ((x + x) * (k / 2) + x * (k % 2)) = 8 * m) := by show _ = _; rw [← hmul]; exact hpx'
      clear hk2 hmul hpx' hpx
      rcases Nat.mod_two_eq_zero_or_one k with hm | hm
      · rw [hm] at hand HE
        clear hm
        go_wp2_with fail
        refine (times_is wr _ _ (one_lt x) (one_lt x)).mono ?_
        rintro e w2 ⟨rfl, _, rfl⟩
        rw [HSQ.out]
        go_wp2_with fail
        go_roundw
        case rel => exact ⟨k / 2, p, x + x, by omega, rfl, rfl, rfl, by have := HE.out; show p + (x + x) * (k / 2) = 8 * m; omega, by trivial⟩
        case measure => simp [intOf]; omega
      · rw [hm] at hand HE
        clear hm
        go_wp2_with fail
        refine (times_is wr _ _ (one_lt p) (one_lt x)).mono ?_
        rintro e w2 ⟨rfl, _, rfl⟩
        rw [HPR.out]
        go_wp2_with fail
        refine (times_is _ _ _ (one_lt x) (one_lt x)).mono ?_
        rintro e w3 ⟨rfl, _, rfl⟩
        rw [HSQ.out]
        go_wp2_with fail
        go_roundw
        case rel => exact ⟨k / 2, p + x, x + x, by omega, rfl, rfl, rfl, by have := HE.out; show p + x + (x + x) * (k / 2) = 8 * m; omega, by trivial⟩
        case measure => simp [intOf]; omega
end Go.Proofs.Ytcackdcjepifpaa
