/- lzma2: a kind that is odd; a number of two bytes, the highest first. -/
import Derived.Test.YtoeapobpdfidkaaSzA
namespace Go.Proofs.Ytoeapobpdfidkaa
open Go.RowKit
set_option linter.unusedVariables false
set_option linter.unusedSimpArgs false

/-- A kind that may not stand here. -/
def oddK (k : Nat) (first props : Bool) : Bool := (decide (2 < k) && decide (k < 128)) || (first && decide (1 < k) && decide (k < 224)) || (decide (128 ≤ k) && decide (k < 192) && !props)
theorem rangesK (k : Nat) (h : k < 256) : k ≤ 1 ∨ k = 2 ∨ (3 ≤ k ∧ k < 128) ∨ (128 ≤ k ∧ k < 192) ∨ (192 ≤ k ∧ k < 224) ∨ (224 ≤ k ∧ k < 256) := by omega
set_option maxRecDepth 4000 in
set_option maxHeartbeats 2000000 in
theorem wOdd_is (w : World) (g n c at' : Nat) (A : Option Addr) (xs : List Int) (f p : Bool) (h : WAt w g A n c xs at' f p) (k : Nat) (hk : k < 256) :
    Calls Try.prog 73 #[.pointer (some ⟨g, 0, none⟩), .int .u8 (k : Nat)] w fun e w' => e = .returned (.bool (oddK k f p)) ∧ w = w' := by
  have d2 := blk_cell h.blk 2
  have d3 := blk_cell h.blk 3
  simp at d2 d3
  clear h
  rcases rangesK k hk with hr | hr | hr | hr | hr | hr
  · have t0 : decide (2 < k) = false := decide_eq_false (by omega)
    have u0 : decide ((2 : Int) < (k : Int)) = false := decide_eq_false (by omega)
    have t1 : decide (k < 128) = true := decide_eq_true (by omega)
    have u1 : decide ((k : Int) < 128) = true := decide_eq_true (by omega)
    have t2 : decide (1 < k) = false := decide_eq_false (by omega)
    have u2 : decide ((1 : Int) < (k : Int)) = false := decide_eq_false (by omega)
    have t3 : decide (k < 224) = true := decide_eq_true (by omega)
    have u3 : decide ((k : Int) < 224) = true := decide_eq_true (by omega)
    have t4 : decide (128 ≤ k) = false := decide_eq_false (by omega)
    have u4 : decide ((128 : Int) ≤ (k : Int)) = false := decide_eq_false (by omega)
    have t5 : decide (k < 192) = true := decide_eq_true (by omega)
    have u5 : decide ((k : Int) < 192) = true := decide_eq_true (by omega)
    have ho : oddK k f p = ((false && true) || (f && false && true) || (false && true && !p)) := by unfold oddK; rw [t0, t1, t2, t3, t4, t5]
    have HO := Lib.hid ho
    clear ho hr hk
    cases f <;> cases p
    all_goals
      go_enter Try.func73, Try.ntmps73
      go_wp2_with fail
      go_ret
      exact ⟨by rw [HO.out]; rfl, rfl⟩
  · have t0 : decide (2 < k) = false := decide_eq_false (by omega)
    have u0 : decide ((2 : Int) < (k : Int)) = false := decide_eq_false (by omega)
    have t1 : decide (k < 128) = true := decide_eq_true (by omega)
    have u1 : decide ((k : Int) < 128) = true := decide_eq_true (by omega)
    have t2 : decide (1 < k) = true := decide_eq_true (by omega)
    have u2 : decide ((1 : Int) < (k : Int)) = true := decide_eq_true (by omega)
    have t3 : decide (k < 224) = true := decide_eq_true (by omega)
    have u3 : decide ((k : Int) < 224) = true := decide_eq_true (by omega)
    have t4 : decide (128 ≤ k) = false := decide_eq_false (by omega)
    have u4 : decide ((128 : Int) ≤ (k : Int)) = false := decide_eq_false (by omega)
    have t5 : decide (k < 192) = true := decide_eq_true (by omega)
    have u5 : decide ((k : Int) < 192) = true := decide_eq_true (by omega)
    have ho : oddK k f p = ((false && true) || (f && true && true) || (false && true && !p)) := by unfold oddK; rw [t0, t1, t2, t3, t4, t5]
    have HO := Lib.hid ho
    clear ho hr hk
    cases f <;> cases p
    all_goals
      go_enter Try.func73, Try.ntmps73
      go_wp2_with fail
      go_ret
      exact ⟨by rw [HO.out]; rfl, rfl⟩
  · have t0 : decide (2 < k) = true := decide_eq_true (by omega)
    have u0 : decide ((2 : Int) < (k : Int)) = true := decide_eq_true (by omega)
    have t1 : decide (k < 128) = true := decide_eq_true (by omega)
    have u1 : decide ((k : Int) < 128) = true := decide_eq_true (by omega)
    have t2 : decide (1 < k) = true := decide_eq_true (by omega)
    have u2 : decide ((1 : Int) < (k : Int)) = true := decide_eq_true (by omega)
    have t3 : decide (k < 224) = true := decide_eq_true (by omega)
    have u3 : decide ((k : Int) < 224) = true := decide_eq_true (by omega)
    have t4 : decide (128 ≤ k) = false := decide_eq_false (by omega)
    have u4 : decide ((128 : Int) ≤ (k : Int)) = false := decide_eq_false (by omega)
    have t5 : decide (k < 192) = true := decide_eq_true (by omega)
    have u5 : decide ((k : Int) < 192) = true := decide_eq_true (by omega)
    have ho : oddK k f p = ((true && true) || (f && true && true) || (false && true && !p)) := by unfold oddK; rw [t0, t1, t2, t3, t4, t5]
    have HO := Lib.hid ho
    clear ho hr hk
    cases f <;> cases p
    all_goals
      go_enter Try.func73, Try.ntmps73
      go_wp2_with fail
      go_ret
      exact ⟨by rw [HO.out]; rfl, rfl⟩
  · have t0 : decide (2 < k) = true := decide_eq_true (by omega)
    have u0 : decide ((2 : Int) < (k : Int)) = true := decide_eq_true (by omega)
    have t1 : decide (k < 128) = false := decide_eq_false (by omega)
    have u1 : decide ((k : Int) < 128) = false := decide_eq_false (by omega)
    have t2 : decide (1 < k) = true := decide_eq_true (by omega)
    have u2 : decide ((1 : Int) < (k : Int)) = true := decide_eq_true (by omega)
    have t3 : decide (k < 224) = true := decide_eq_true (by omega)
    have u3 : decide ((k : Int) < 224) = true := decide_eq_true (by omega)
    have t4 : decide (128 ≤ k) = true := decide_eq_true (by omega)
    have u4 : decide ((128 : Int) ≤ (k : Int)) = true := decide_eq_true (by omega)
    have t5 : decide (k < 192) = true := decide_eq_true (by omega)
    have u5 : decide ((k : Int) < 192) = true := decide_eq_true (by omega)
    have ho : oddK k f p = ((true && false) || (f && true && true) || (true && true && !p)) := by unfold oddK; rw [t0, t1, t2, t3, t4, t5]
    have HO := Lib.hid ho
    clear ho hr hk
    cases f <;> cases p
    all_goals
      go_enter Try.func73, Try.ntmps73
      go_wp2_with fail
      go_ret
      exact ⟨by rw [HO.out]; rfl, rfl⟩
  · have t0 : decide (2 < k) = true := decide_eq_true (by omega)
    have u0 : decide ((2 : Int) < (k : Int)) = true := decide_eq_true (by omega)
    have t1 : decide (k < 128) = false := decide_eq_false (by omega)
    have u1 : decide ((k : Int) < 128) = false := decide_eq_false (by omega)
    have t2 : decide (1 < k) = true := decide_eq_true (by omega)
    have u2 : decide ((1 : Int) < (k : Int)) = true := decide_eq_true (by omega)
    have t3 : decide (k < 224) = true := decide_eq_true (by omega)
    have u3 : decide ((k : Int) < 224) = true := decide_eq_true (by omega)
    have t4 : decide (128 ≤ k) = true := decide_eq_true (by omega)
    have u4 : decide ((128 : Int) ≤ (k : Int)) = true := decide_eq_true (by omega)
    have t5 : decide (k < 192) = false := decide_eq_false (by omega)
    have u5 : decide ((k : Int) < 192) = false := decide_eq_false (by omega)
    have ho : oddK k f p = ((true && false) || (f && true && true) || (true && false && !p)) := by unfold oddK; rw [t0, t1, t2, t3, t4, t5]
    have HO := Lib.hid ho
    clear ho hr hk
    cases f <;> cases p
    all_goals
      go_enter Try.func73, Try.ntmps73
      go_wp2_with fail
      go_ret
      exact ⟨by rw [HO.out]; rfl, rfl⟩
  · have t0 : decide (2 < k) = true := decide_eq_true (by omega)
    have u0 : decide ((2 : Int) < (k : Int)) = true := decide_eq_true (by omega)
    have t1 : decide (k < 128) = false := decide_eq_false (by omega)
    have u1 : decide ((k : Int) < 128) = false := decide_eq_false (by omega)
    have t2 : decide (1 < k) = true := decide_eq_true (by omega)
    have u2 : decide ((1 : Int) < (k : Int)) = true := decide_eq_true (by omega)
    have t3 : decide (k < 224) = false := decide_eq_false (by omega)
    have u3 : decide ((k : Int) < 224) = false := decide_eq_false (by omega)
    have t4 : decide (128 ≤ k) = true := decide_eq_true (by omega)
    have u4 : decide ((128 : Int) ≤ (k : Int)) = true := decide_eq_true (by omega)
    have t5 : decide (k < 192) = false := decide_eq_false (by omega)
    have u5 : decide ((k : Int) < 192) = false := decide_eq_false (by omega)
    have ho : oddK k f p = ((true && false) || (f && true && false) || (true && false && !p)) := by unfold oddK; rw [t0, t1, t2, t3, t4, t5]
    have HO := Lib.hid ho
    clear ho hr hk
    cases f <;> cases p
    all_goals
      go_enter Try.func73, Try.ntmps73
      go_wp2_with fail
      go_ret
      exact ⟨by rw [HO.out]; rfl, rfl⟩
theorem ofInt64 (a : Nat) (ha : a < 18446744073709551616) : (BitVec.ofInt 64 (a : Int)).toNat = a := by
  rw [BitVec.ofInt_natCast, BitVec.toNat_ofNat]; exact Nat.mod_eq_of_lt (by omega)
theorem or_byte64 (a x : Nat) (hx : x < 256) (ha : a < 65536) : bits .or .u64 (((a * 256 : Nat) : Nat) : Int) (x : Int) = ((a * 256 + x : Nat) : Int) := by
  have h := Nat.two_pow_add_eq_or_of_lt (i := 8) (b := x) (by omega) a
  rw [show 2 ^ 8 * a = a * 256 by omega] at h
  show IntKind.u64.wrap ((BitVec.ofInt 64 ((a * 256 : Nat) : Int) ||| BitVec.ofInt 64 (x : Int)).toNat : Int) = _
  rw [BitVec.toNat_or, ofInt64 _ (by omega), ofInt64 x (by omega), ← h]
  show ((a * 256 + x : Nat) : Int) % 18446744073709551616 = _
  omega
theorem or_zero64 (x : Nat) (ha : x < 65536) : bits .or .u64 0 (x : Int) = (x : Int) := by
  show IntKind.u64.wrap ((BitVec.ofInt 64 ((0 : Nat) : Int) ||| BitVec.ofInt 64 (x : Int)).toNat : Int) = _
  rw [BitVec.toNat_or, ofInt64 _ (by omega), ofInt64 x (by omega), Nat.zero_or]
  show (x : Int) % 18446744073709551616 = _
  omega
/-- A byte of the text. -/
def bytN (xs : List Int) (j : Nat) : Nat := (xs.getD j 0).toNat
theorem bytN_is {w : World} {A : Option Addr} {n c : Nat} {xs : List Int} (h : Nums .u8 w A n c xs) (j : Nat) : xs.getD j 0 = (bytN xs j : Nat) ∧ bytN xs j < 256 := by
  have := h.byte j
  unfold bytN
  omega
theorem place_is (w : World) (b : Nat) (m i : Nat) (hb : w.cell? ⟨b, 0, none⟩ = some (.int .i64 (m : Nat))) (hm : m ≤ 8) (hi : i < m) : Calls Try.prog 103 #[.int .i64 (i : Nat), .pointer (some ⟨b, 0, none⟩)] w fun e w' => e = .returned (.int .i64 ((m - 1 - i : Nat) : Int)) ∧ w = w' := by
  have h1 : (m : Int) - 1 - (i : Int) = ((m - 1 - i : Nat) : Int) := by omega
  have h2 : (m : Int) ≤ 8 := by omega
  have h3 : (i : Int) < (m : Int) := by omega
  go_enter Try.func103, Try.ntmps103
  go_wp2_with fail
  go_ret
  exact ⟨rfl, rfl⟩
set_option maxRecDepth 8000 in
set_option maxHeartbeats 4000000 in
theorem read2_is (w : World) (A : Option Addr) (n c at' b : Nat) (xs : List Int) (h : Nums .u8 w A n c xs) (hat : at' ≤ n) (hn : n ≤ 1048576) (hb : w.cell? ⟨b, 0, none⟩ = some (.int .i64 (2 : Nat))) :
    Calls Try.prog 99 #[.slice A n c, .int .i64 (at' : Nat), .int .i64 2, .func (.func 103) #[] #[.pointer (some ⟨b, 0, none⟩)]] w fun e w' =>
      ((n - at' < 2 ∧ e = .returned (.tuple #[.int .u64 0, .int .i64 0, .int .i64 10])) ∨ (at' + 2 ≤ n ∧ e = .returned (.tuple #[.int .u64 ((bytN xs at' * 256 + bytN xs (at' + 1) : Nat) : Int), .int .i64 ((at' + 2 : Nat) : Int), .int .i64 0]))) ∧ Grow w w' := by
  have hai : (at' : Int) ≤ (n : Int) := by omega
  have hni : (n : Int) ≤ 1048576 := by omega
  obtain ⟨d, hd⟩ : ∃ d, d = n - at' := ⟨_, rfl⟩
  have hdi : (n : Int) - (at' : Int) = (d : Int) := by omega
  have hdb : (d : Int) ≤ 1048576 := by omega
  by_cases hlk : n - at' < 2
  · have hlt : (d : Int) < 2 := by omega
    have HLK := Lib.hid hlk
    clear h hb hd hat hn hlk
    go_enter Try.func99, Try.ntmps99
    go_wp2_with fail
    go_ret3
    exact ⟨.inl ⟨HLK.out, rfl⟩, Keeps.refl _ _⟩
  have hlt : ¬ (d : Int) < 2 := by omega
  have HLK : Hid (at' + 2 ≤ n ∧ n ≤ 1048576) := ⟨by omega, hn⟩
  have H := Lib.hid h
  have HB := Lib.hid hb
  have HP0 := Lib.hid (fun w hb => place_is w b 2 0 hb (by decide) (by decide))
  have HP1 := Lib.hid (fun w hb => place_is w b 2 1 hb (by decide) (by decide))
  obtain ⟨x0, hx0⟩ : ∃ x0, x0 = bytN xs at' := ⟨_, rfl⟩
  obtain ⟨x1, hx1⟩ : ∃ x1, x1 = bytN xs (at' + 1) := ⟨_, rfl⟩
  obtain ⟨bb, o, rfl, hc⟩ := h.at_ (by omega)
  have HC0 : Hid (∀ w', Grow w w' → w'.cell? ⟨bb, o + at', none⟩ = some (.int .u8 (x0 : Nat))) := fun w' hg => by
    have h9 := hc at' (by omega)
    rw [(bytN_is h at').1, ← hx0] at h9
    exact ckp h9 hg (fun h => h)
  have HC1 : Hid (∀ w', Grow w w' → w'.cell? ⟨bb, o + (at' + 1), none⟩ = some (.int .u8 (x1 : Nat))) := fun w' hg => by
    have h9 := hc (at' + 1) (by omega)
    rw [(bytN_is h (at' + 1)).1, ← hx1] at h9
    exact ckp h9 hg (fun h => h)
  have hx0b : x0 < 256 := by rw [hx0]; exact (bytN_is h at').2
  have hx1b : x1 < 256 := by rw [hx1]; exact (bytN_is h (at' + 1)).2
  rw [← hx0, ← hx1]
  clear h hb hd hat hn hlk hx0 hx1 hc H
  go_enter Try.func99, Try.ntmps99
  go_wp2_with fail
  go_loopw [8, 11, 37] (fun vv _ vi wr => ∃ (i : Nat), i ≤ 2 ∧ vi = .int .i64 i ∧ vv = .int .u64 ((if i = 0 then 0 else if i = 1 then x0 * 256 else x0 * 256 + x1 : Nat) : Int) ∧ Hid (Grow w wr)) (fun _ _ vi _ => 2 - (intOf vi).toNat)
  case atStart => exact ⟨0, by omega, rfl, rfl, Keeps.refl _ _⟩
  case round =>
    obtain ⟨i, hi, rfl, rfl, HG⟩ := hrel
    rcases (show i = 0 ∨ i = 1 ∨ i = 2 by omega) with rfl | rfl | rfl
    · have eor := (show bits .or .u64 0 ((x0 : Int) * 256) = ((x0 * 256 : Nat) : Int) by have h9 := or_zero64 (x0 * 256) (by omega); rw [Int.natCast_mul] at h9; exact h9)
      have hsh : (8 : Int) * ((2 - 1 - 0 : Nat) : Int) = 8 := by decide
      go_wp2_with fail
      refine wp_region_hold Grow Grow.refl Grow.trans [6] [(0, [0, 1, 2, 3, 4, 5, 8, 9]), (1, [6]), (0, [7]), (2, [10]), (0, [11, 12, 13, 14])] [(0, [?o0, ?o1, ?o2, ?o3, ?o4, ?o5, ?o8, ?o9]), (1, [?o6]), (0, [?o7]), (2, [?o10]), (0, [?o11, ?o12, ?o13, ?o14])] [?o0, ?o1, ?o2, ?o3, ?o4, ?o5, ?o6, ?o7, ?o8, ?o9, ?o10, ?o11, ?o12, ?o13, ?o14] (by kernel_rfl) (by kernel_rfl) (by kernel_rfl) ?_
      refine seg_calm ?_
      go_wp2_with fail
      have HGd : Hid (Grow w wr.drew) := HG.out.drew
      clear HG
      generalize wr.drew = wd at *
      refine seg_held (by kernel_rfl) (.int .u8 (x0 : Nat)) (fun w7 hk7 => ?_) ?_
      · have c7 := HC0.out w7 (Grow.trans _ _ _ HGd.out hk7)
        go_simp
      refine seg_calm ?_
      go_wp2_with fail
      refine seg_call ?_
      go_wp2_with fail
      refine (HP0.out wd (ckp HB.out HGd.out (fun h => h))).mono ?_
      rintro x w6 ⟨rfl, rfl⟩
      go_wp2_with fail
      refine ⟨Keeps.refl _ _, ?_⟩
      refine seg_calm ?_
      go_wp2_with fail
      refine seg_end ⟨by kernel_rfl, ?_⟩
      go_wp2_with fail
      go_roundw
      case rel => exact ⟨0 + 1, by omega, rfl, by simp, HGd.out⟩
      case measure => simp [intOf]
    · have eor := or_byte64 x0 x1 hx1b (by omega)
      have hsh : (8 : Int) * ((2 - 1 - 1 : Nat) : Int) = 0 := by decide
      go_wp2_with fail
      refine wp_region_hold Grow Grow.refl Grow.trans [6] [(0, [0, 1, 2, 3, 4, 5, 8, 9]), (1, [6]), (0, [7]), (2, [10]), (0, [11, 12, 13, 14])] [(0, [?o0, ?o1, ?o2, ?o3, ?o4, ?o5, ?o8, ?o9]), (1, [?o6]), (0, [?o7]), (2, [?o10]), (0, [?o11, ?o12, ?o13, ?o14])] [?o0, ?o1, ?o2, ?o3, ?o4, ?o5, ?o6, ?o7, ?o8, ?o9, ?o10, ?o11, ?o12, ?o13, ?o14] (by kernel_rfl) (by kernel_rfl) (by kernel_rfl) ?_
      refine seg_calm ?_
      go_wp2_with fail
      have HGd : Hid (Grow w wr.drew) := HG.out.drew
      clear HG
      generalize wr.drew = wd at *
      refine seg_held (by kernel_rfl) (.int .u8 (x1 : Nat)) (fun w7 hk7 => ?_) ?_
      · have c7 := HC1.out w7 (Grow.trans _ _ _ HGd.out hk7)
        go_simp
      refine seg_calm ?_
      go_wp2_with fail
      refine seg_call ?_
      go_wp2_with fail
      refine (HP1.out wd (ckp HB.out HGd.out (fun h => h))).mono ?_
      rintro x w6 ⟨rfl, rfl⟩
      go_wp2_with fail
      refine ⟨Keeps.refl _ _, ?_⟩
      refine seg_calm ?_
      go_wp2_with fail
      refine seg_end ⟨by kernel_rfl, ?_⟩
      go_wp2_with fail
      go_roundw
      case rel => exact ⟨1 + 1, by omega, rfl, by simpa using eor, HGd.out⟩
      case measure => simp [intOf]
    · go_wp2_with fail
      go_ret3
      exact ⟨.inr ⟨HLK.out.1, rfl⟩, HG.out⟩
theorem highest_is (w : World) (m : Nat) : Calls Try.prog 100 #[.int .i64 (m : Nat)] w fun e w' => ∃ b, e = .returned (.func (.func 103) #[] #[.pointer (some ⟨b, 0, none⟩)]) ∧ w'.cell? ⟨b, 0, none⟩ = some (.int .i64 (m : Nat)) ∧ Grow w w' := by
  go_enter Try.func100, Try.ntmps100
  go_wp2_with fail
  go_ret
  exact ⟨w.heap.size, rfl, by go_simp, (Keeps.refl _ w).alloc _⟩
set_option maxRecDepth 4000 in
theorem high2_is (w : World) (A : Option Addr) (n c at' : Nat) (xs : List Int) (h : Nums .u8 w A n c xs) (hat : at' ≤ n) (hn : n ≤ 1048576) :
    Calls Try.prog 94 #[.slice A n c, .int .i64 (at' : Nat), .int .i64 2] w fun e w' =>
      ((n - at' < 2 ∧ e = .returned (.tuple #[.int .u64 0, .int .i64 0, .int .i64 10])) ∨ (at' + 2 ≤ n ∧ e = .returned (.tuple #[.int .u64 ((bytN xs at' * 256 + bytN xs (at' + 1) : Nat) : Int), .int .i64 ((at' + 2 : Nat) : Int), .int .i64 0]))) ∧ Grow w w' := by
  have HH := Lib.hid (highest_is w 2)
  have HX := Lib.hid (And.intro h (And.intro hat hn))
  clear h hat hn
  go_enter Try.func94, Try.ntmps94
  go_wp2_with fail
  refine HH.out.mono ?_
  rintro x w2 ⟨b, rfl, hb, hg2⟩
  have HR := Lib.hid (read2_is w2 A n c at' b xs (HX.out.1.grow hg2) HX.out.2.1 HX.out.2.2 hb)
  have HG2 := Lib.hid hg2
  clear hb hg2 HH
  go_wp2_with fail
  refine HR.out.mono ?_
  rintro x w3 ⟨⟨h1, rfl⟩ | ⟨h1, rfl⟩, hg3⟩
  · have H1 := Lib.hid (And.intro h1 hg3)
    clear h1 hg3
    go_wp2_with fail
    go_ret3
    exact ⟨.inl ⟨H1.out.1, rfl⟩, Grow.trans _ _ _ HG2.out H1.out.2⟩
  · have H1 := Lib.hid (And.intro h1 hg3)
    obtain ⟨v, hv⟩ : ∃ v, v = bytN xs at' * 256 + bytN xs (at' + 1) := ⟨_, rfl⟩
    obtain ⟨a2, ha2⟩ : ∃ a2, a2 = at' + 2 := ⟨_, rfl⟩
    rw [← hv, ← ha2]
    have HV := Lib.hid (And.intro hv ha2)
    clear h1 hg3 hv ha2
    go_wp2_with fail
    go_ret3
    exact ⟨.inr ⟨H1.out.1, by rw [← HV.out.1, ← HV.out.2]; rfl⟩, Grow.trans _ _ _ HG2.out H1.out.2⟩
set_option maxRecDepth 4000 in
set_option maxHeartbeats 1000000 in
theorem wNumber_is (w : World) (g n c at' : Nat) (A : Option Addr) (xs : List Int) (f p : Bool) (h : WAt w g A n c xs at' f p) :
    Calls Try.prog 74 #[.pointer (some ⟨g, 0, none⟩)] w fun e w' =>
      (n - at' < 2 ∧ e = .returned (.tuple #[.int .i64 0, .int .i64 10]) ∧ Grow w w') ∨
      (at' + 2 ≤ n ∧ e = .returned (.tuple #[.int .i64 ((bytN xs at' * 256 + bytN xs (at' + 1) + 1 : Nat) : Int), .int .i64 0]) ∧ WAt w' g A n c xs (at' + 2) f p ∧ Keeps (fun k => k = g) w w') := by
  have HW := Lib.hid h
  have d0 := blk_cell h.blk 0
  have d1 := blk_cell h.blk 1
  simp at d0 d1
  have HD := Lib.hid (And.intro d0 d1)
  clear h d0 d1
  go_enter Try.func74, Try.ntmps74
  go_wp2_with fail
  refine wp_region_hold Grow Grow.refl Grow.trans [3, 7] [(0, [0, 1, 2, 4, 5, 6]), (1, [3]), (1, [7]), (2, [8]), (0, [9, 10, 11, 12, 13, 14, 15])] [(0, [?o0, ?o1, ?o2, ?o4, ?o5, ?o6]), (1, [?o3]), (1, [?o7]), (2, [?o8]), (0, [?o9, ?o10, ?o11, ?o12, ?o13, ?o14, ?o15])] [?o0, ?o1, ?o2, ?o3, ?o4, ?o5, ?o6, ?o7, ?o8, ?o9, ?o10, ?o11, ?o12, ?o13, ?o14, ?o15] (by kernel_rfl) (by kernel_rfl) (by kernel_rfl) ?_
  refine seg_calm ?_
  go_wp2_with fail
  have HWd : Hid (WAt w.drew g A n c xs at' f p) := HW.out.grow ((Keeps.refl _ w).drew)
  have HGd : Hid (Grow w w.drew) := (Keeps.refl _ w).drew
  clear HW HD
  generalize w.drew = wd at *
  refine seg_held (by kernel_rfl) (.slice A n c) (fun w7 hk7 => ?_) ?_
  · have c7 := blk_cell (HWd.out.grow hk7).blk 0
    simp at c7
    go_simp
  refine seg_held (by kernel_rfl) (.int .i64 (at' : Nat)) (fun w7 hk7 => ?_) ?_
  · have c7 := blk_cell (HWd.out.grow hk7).blk 1
    simp at c7
    go_simp
  refine seg_call ?_
  go_wp2_with fail
  refine (high2_is wd A n c at' xs HWd.out.nums HWd.out.le HWd.out.small).mono ?_
  rintro x w3 ⟨⟨h1, rfl⟩ | ⟨h1, rfl⟩, hg3⟩
  · have H1 := Lib.hid (And.intro h1 hg3)
    clear h1 hg3
    go_wp2_with fail
    refine ⟨H1.out.2, ?_⟩
    refine seg_calm ?_
    go_wp2_with fail
    refine seg_end ⟨by kernel_rfl, ?_⟩
    go_wp2_with fail
    go_ret2
    exact .inl ⟨H1.out.1, rfl, Grow.trans _ _ _ HGd.out H1.out.2⟩
  · have H1 := Lib.hid (And.intro h1 hg3)
    have hv0 := (bytN_is HWd.out.nums at').2
    have hv1 := (bytN_is HWd.out.nums (at' + 1)).2
    obtain ⟨v, hv⟩ : ∃ v, v = bytN xs at' * 256 + bytN xs (at' + 1) := ⟨_, rfl⟩
    obtain ⟨a2, ha2⟩ : ∃ a2, a2 = at' + 2 := ⟨_, rfl⟩
    rw [← hv, ← ha2]
    have hvb : (v : Int) ≤ 65535 := by omega
    have ha2b : (a2 : Int) ≤ 1048578 := by have := HWd.out.small; omega
    have HV := Lib.hid (And.intro hv ha2)
    have HW3 := Lib.hid (HWd.out.grow hg3)
    have d1 := blk_cell HW3.out.blk 1
    have f1 := blk_frozen HW3.out.blk 1
    simp at d1
    clear h1 hg3 hv ha2 hv0 hv1
    go_wp2_with fail
    refine ⟨H1.out.2, ?_⟩
    refine seg_calm ?_
    go_wp2_with fail
    refine seg_end ⟨by kernel_rfl, ?_⟩
    go_wp2_with fail
    go_ret2
    have hst := blk_set HW3.out.blk 1 (.int .i64 (a2 : Nat))
    simp at hst
    have hk5 : Keeps (fun k => k = g) w3 (w3.setCell ⟨g, 1, none⟩ (.int .i64 (a2 : Nat))) := Keeps.setCell (S := fun k => k = g) (Keeps.refl _ w3) (p := ⟨g, 1, none⟩) (fun _ => rfl) _
    refine .inr ⟨H1.out.1, ?_, ?_, Keeps.trans (gk (Grow.trans _ _ _ HGd.out H1.out.2)) hk5 fun _ _ h => h⟩
    · rw [← HV.out.1]; rfl
    · rw [← HV.out.2]
      exact HW3.out.moved a2 (by rw [HV.out.2]; exact H1.out.1) hk5 hst
end Go.Proofs.Ytoeapobpdfidkaa
