/- number.PutLow and the document's Bytes: a number's bytes, the lowest first. -/
import Derived.Test.YtnjdhkaabpmahaaLen
import Derived.Test.YtnjdhkaabpmahaaMark
import Derived.Test.YtnjdhkaabpmahaaClnU8
namespace Go.Proofs.Ytnjdhkaabpmahaa
open Go.RowKit
set_option linter.unusedVariables false
set_option linter.unusedSimpArgs false

theorem Try.infoU8l : (Try.prog.info? 5).map (fun i => (i.zero, i.size, i.bytes)) = some (some (.int .u8 0), 1, 1) := by kernel_rfl
/-- A number's bytes, the lowest first. -/
def leN (v n : Nat) : List Int := (List.range n).map fun i => ((v / 256 ^ i % 256 : Nat) : Int)
theorem leN_len (v n : Nat) : (leN v n).length = n := by simp [leN]
theorem leN_snoc (v n : Nat) : leN v (n + 1) = leN v n ++ [((v / 256 ^ n % 256 : Nat) : Int)] := by simp [leN, List.range_succ]
theorem leN_rng (v n : Nat) : ∀ x ∈ leN v n, inKind .u8 x := fun x hx => by
  obtain ⟨i, _, rfl⟩ := List.mem_map.1 hx
  exact mk_u8 (by omega) (by omega)
theorem bitLenAux_le : ∀ (f x k : Nat), x < 2 ^ k → Lib.bitLenAux f x ≤ k
  | 0, _, _, _ => Nat.zero_le _
  | f + 1, x, k, h => by
    show (if x = 0 then 0 else 1 + Lib.bitLenAux f (x / 2)) ≤ k
    split
    · exact Nat.zero_le _
    · cases k with
      | zero => simp at h; omega
      | succ k =>
        have := bitLenAux_le f (x / 2) k (by rw [Nat.pow_succ] at h; omega)
        omega
theorem lowest_is (w : World) (i : Nat) : Calls Try.prog 48 #[.int .i64 (i : Nat)] w fun e w' => e = .returned (.int .i64 (i : Nat)) ∧ w = w' := by
  go_enter Try.func48, Try.ntmps48
  go_wp2_with fail
  go_ret
  exact ⟨rfl, rfl⟩
set_option maxRecDepth 4000 in
set_option maxHeartbeats 1000000 in
theorem lay0_is (w : World) (A : Option Addr) (m c v n : Nat) (xs : List Int) (h : Nums .u8 w A m c xs) (hm : m ≤ 1048576) (hn1 : 1 ≤ n) (hn8 : n ≤ 8) (hv : v < 256 ^ n) :
    Calls Try.prog 60 #[.slice A m c, .int .u64 (v : Nat), .int .i64 (n : Nat), .func (.func 48) #[] #[]] w fun e w' => ∃ A' c', e = .returned (.tuple #[.slice A' (m + n) c', .int .i64 0]) ∧ w'.ownsRow w.heap.size 5 1 (.slice A' (m + n) c') (m + n) ((xs ++ leN v n).map (Value.int .u8)) ∧ Grow w w' := by
  have hvb : v < 18446744073709551616 := Nat.lt_of_lt_of_le hv (by
    have := Nat.pow_le_pow_right (show 0 < 256 by decide) hn8
    simpa using this)
  have hbl : Lib.bitLen v ≤ 8 * n := bitLenAux_le 64 v (8 * n) (by rw [Nat.pow_mul]; exact hv)
  obtain ⟨L, hL⟩ : ∃ L, L = Lib.bitLen v := ⟨_, rfl⟩
  have HLen := Lib.hid (fun w => Try.len64_is (v : Int) w (by omega) (by omega))
  rw [Int.toNat_natCast, ← hL] at HLen
  rw [← hL] at hbl
  have hbi : decide ((8 : Int) * (n : Int) < (L : Int)) = false := decide_eq_false (by omega)
  have hni : (n : Int) ≤ 8 := by omega
  have hn1i : (1 : Int) ≤ (n : Int) := by omega
  have HN := Lib.hid (fun w1 (k : Grow w w1) => clnU8 w1 A m c (xs.map (Value.int .u8)) (h.grow k).src (by omega))
  have HV := Lib.hid hvb
  have HX : Hid (∀ i, (xs ++ leN v i).length = m + i) := fun i => by rw [List.length_append, leN_len, h.len]
  have hmi : (m : Int) ≤ 1048576 := by omega
  clear h hv hL hvb hbl
  go_enter Try.func60, Try.ntmps60
  go_wp2_with fail
  refine (HLen.out w).mono ?_
  rintro x w1 ⟨rfl, hw⟩
  rw [hw]
  clear hw w1
  go_wp2_with fail
  refine (HN.out _ (Keeps.refl _ _)).mono ?_
  rintro x w1 ⟨A1, c1, rfl, ho1, hg1⟩
  have HO1 := Lib.hid ho1
  have HG1 := Lib.hid hg1
  clear ho1 hg1 HN HLen hbi
  go_wp2_with fail
  go_loopw [10, 11, 28] (fun vo _ vi wr => ∃ (i : Nat) (A2 : Option Addr) (c2 : Nat), i ≤ n ∧ vi = .int .i64 i ∧ vo = .slice A2 (m + i) c2 ∧ Hid (wr.ownsRow w.heap.size 5 1 (.slice A2 (m + i) c2) (m + i) ((xs ++ leN v i).map (Value.int .u8))) ∧ Hid (Grow w wr)) (fun _ _ vi _ => n - (intOf vi).toNat)
  case atStart => exact ⟨0, A1, c1, by omega, rfl, rfl, by show World.ownsRow _ _ _ _ _ _ _; simpa [leN] using HO1.out, HG1.out⟩
  case round =>
    obtain ⟨i, A2, c2, hi, rfl, rfl, HO, HG⟩ := hrel
    by_cases hin : i < n
    · have hin' : (i : Int) < (n : Int) := by omega
      go_wp2_with fail
      refine (lowest_is wr i).mono ?_
      rintro x w2 ⟨rfl, rfl⟩
      have hbi8 : (i : Int) ≤ 7 := by omega
      have hsz : w.heap.size ≤ wr.heap.size := HG.out.size
      go_wp2_with (at_builtin; refine wpList_app1 rfl (.tmp 31) (.tmp 39) 24 5 rfl Try.underlying24 Try.infoU8l rfl w.heap.size _ (m + i) _ rfl HO.out hsz rfl rfl (by unfold maxLen; omega) (by omega) ?_)
      intro g cap w4 ho4 hk4 _
      have HO4 : Hid (w4.ownsRow w.heap.size 5 1 (.slice (some ⟨g, 0, none⟩) (m + (i + 1)) cap) (m + (i + 1)) ((xs ++ leN v (i + 1)).map (Value.int .u8))) := by
        show World.ownsRow _ _ _ _ _ _ _
        have hv : ((v / 256 ^ i % 256 : Nat) : Int) = (v : Int) / 2 ^ (8 * i) % 256 := by
          rw [show (256 : Nat) ^ i = 2 ^ (8 * i) by rw [Nat.pow_mul]]
          simp
        rw [leN_snoc, hv]
        simp only [List.map_append, List.map_cons, List.map_nil, List.append_assoc] at ho4 ⊢
        exact ho4
      have HG4 := Lib.hid (grow_own HG.out HO.out (Nat.le_refl _) hk4)
      clear ho4 hk4
      go_wp2_with fail
      go_roundw
      case rel => exact ⟨i + 1, some ⟨g, 0, none⟩, cap, by omega, by go_num, rfl, HO4.out, HG4.out⟩
      case measure => simp [intOf]; omega
    · obtain rfl : i = n := by omega
      go_wp2_with fail
      go_ret2
      exact ⟨A2, c2, rfl, HO.out, HG.out⟩
theorem lay_is (w : World) (A : Option Addr) (m c v n : Nat) (xs : List Int) (h : Nums .u8 w A m c xs) (hm : m ≤ 1048576) (hn1 : 1 ≤ n) (hn8 : n ≤ 8) (hv : v < 256 ^ n) :
    Calls Try.prog 46 #[.slice A m c, .int .u64 (v : Nat), .int .i64 (n : Nat)] w fun e w' => ∃ A' c', e = .returned (.tuple #[.slice A' (m + n) c', .int .i64 0]) ∧ w'.ownsRow w.heap.size 5 1 (.slice A' (m + n) c') (m + n) ((xs ++ leN v n).map (Value.int .u8)) ∧ Grow w w' := by
  have H := Lib.hid (lay0_is w A m c v n xs h hm hn1 hn8 hv)
  clear h hm hn1 hn8 hv
  go_enter Try.func46, Try.ntmps46
  go_wp2_with fail
  refine H.out.mono ?_
  rintro x w1 ⟨A', c', rfl, ho, hg⟩
  have HO := Lib.hid ho
  have HG := Lib.hid hg
  clear ho hg H
  go_wp2_with fail
  go_ret2
  exact ⟨A', c', rfl, HO.out, HG.out⟩
end Go.Proofs.Ytnjdhkaabpmahaa
