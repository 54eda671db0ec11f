/- The decoder: NewDecoder. -/
import Derived.Test.YtiikbpcaeoodjaaDcT
namespace Go.Proofs.Ytiikbpcaeoodjaa
open Go.RowKit
set_option linter.unusedVariables false
set_option linter.unusedSimpArgs false

set_option maxRecDepth 8000 in
theorem dNew_arg (w : World) (A : Option Addr) (m c : Nat) (n : Int) (h : n < 0 ∨ 65536 < n) : Calls Try.prog 25 #[.slice A m c, .int .i64 n] w fun e' w' => e' = .returned (.tuple #[.pointer none, .int .i64 2]) ∧ w = w' := by
  by_cases h1 : n < 0
  · go_enter Try.func25, Try.ntmps25
    go_wp2_with fail
    go_ret2
    exact ⟨rfl, rfl⟩
  have h2 : 65536 < n := by omega
  go_enter Try.func25, Try.ntmps25
  go_wp2_with fail
  go_ret2
  exact ⟨rfl, rfl⟩
set_option maxRecDepth 8000 in
theorem dNew_end (w : World) (A : Option Addr) (m c : Nat) (n : Nat) (hn : n ≤ 65536) (hm : m < 5) : Calls Try.prog 25 #[.slice A m c, .int .i64 n] w fun e' w' => e' = .returned (.tuple #[.pointer none, .int .i64 10]) ∧ w = w' := by
  have h1 : ¬ (n : Int) < 0 := by omega
  have h2 : ¬ (65536 : Int) < (n : Int) := by omega
  have h3 : (m : Int) < 5 := by omega
  clear hn hm
  go_enter Try.func25, Try.ntmps25
  go_wp2_with fail
  go_ret2
  exact ⟨rfl, rfl⟩
set_option maxRecDepth 8000 in
theorem dNew_form (w : World) (A : Option Addr) (m c : Nat) (xs : List Int) (hx : Nums .u8 w A m c xs) (n : Nat) (hn : n ≤ 65536) (hm : 5 ≤ m) (h0 : xs.getD 0 0 ≠ 0) : Calls Try.prog 25 #[.slice A m c, .int .i64 n] w fun e' w' => e' = .returned (.tuple #[.pointer none, .int .i64 11]) ∧ w = w' := by
  obtain ⟨b, o, rfl, hc⟩ := hx.at_ (by omega)
  have hcl := hc 0 (by omega)
  have hxx := hx.byte 0
  rw [Nat.add_zero] at hcl
  generalize xs.getD 0 0 = x at *
  have h1 : ¬ (n : Int) < 0 := by omega
  have h2 : ¬ (65536 : Int) < (n : Int) := by omega
  have h3 : ¬ (m : Int) < 5 := by omega
  have h4 : (0 : Int) < (m : Int) := by omega
  clear hn hm hc hx hxx
  go_enter Try.func25, Try.ntmps25
  go_wp2_with fail
  go_ret2
  exact ⟨rfl, rfl⟩
/-- The first number of four bytes. -/
def code4 (xs : List Int) : Nat := (((xs.getD 1 0).toNat * 256 + (xs.getD 2 0).toNat) * 256 + (xs.getD 3 0).toNat) * 256 + (xs.getD 4 0).toNat
theorem or_at (a x k : Nat) (hx : x < 2 ^ k) (ha : a * 2 ^ k + x < 4294967296) : bits .or .u32 ((a * 2 ^ k : Nat) : Int) (x : Int) = ((a * 2 ^ k + x : Nat) : Int) := by
  rw [bits_or_u32_nat _ _ (by omega) (by omega)]
  have h := Nat.two_pow_add_eq_or_of_lt (i := k) (b := x) hx a
  rw [Nat.mul_comm (2 ^ k) a] at h
  rw [← h]
theorem or4 (a b c d : Nat) (ha : a < 256) (hb : b < 256) (hc : c < 256) (hd : d < 256) :
    bits .or .u32 (bits .or .u32 (bits .or .u32 ((a : Int) * 16777216) ((b : Int) * 65536)) ((c : Int) * 256)) (d : Int) = ((((a * 256 + b) * 256 + c) * 256 + d : Nat) : Int) := by
  have h1 := or_at a (b * 65536) 24 (by omega) (by omega)
  have h2 := or_at (a * 256 + b) (c * 256) 16 (by omega) (by omega)
  have h3 := or_at ((a * 256 + b) * 256 + c) d 8 (by omega) (by omega)
  rw [show ((a : Int) * 16777216) = ((a * 2 ^ 24 : Nat) : Int) by omega, show ((b : Int) * 65536) = ((b * 65536 : Nat) : Int) by omega, h1,
    show ((a * 2 ^ 24 + b * 65536 : Nat) : Int) = (((a * 256 + b) * 2 ^ 16 : Nat) : Int) by omega, show ((c : Int) * 256) = ((c * 256 : Nat) : Int) by omega, h2,
    show (((a * 256 + b) * 2 ^ 16 + c * 256 : Nat) : Int) = ((((a * 256 + b) * 256 + c) * 2 ^ 8 : Nat) : Int) by omega, h3]
set_option maxRecDepth 8000 in
set_option maxHeartbeats 2000000 in
theorem dNew_is (w : World) (A : Option Addr) (m c : Nat) (xs : List Int) (hx : Nums .u8 w A m c xs) (n : Nat) (hn : n ≤ 65536) (hm : 5 ≤ m) (hm2 : m ≤ 140737488355328) (h0 : xs.getD 0 0 = 0) :
    Calls Try.prog 25 #[.slice A m c, .int .i64 n] w fun e' w' => ∃ (g gc : Nat) (RB : Nat → Prop) (Ar : Option Addr) (cr : Nat), e' = .returned (.tuple #[.pointer (some ⟨g, 0, none⟩), .int .i64 0]) ∧ w.heap.size ≤ g ∧ w.heap.size ≤ gc ∧ (∀ k, RB k → w.heap.size ≤ k ∧ k < w'.heap.size) ∧
      DecAt w' g gc n RB Ar cr ⟨List.replicate n 1024, 4294967295, code4 xs, toN (xs.drop 5), false⟩ ∧ Grow w w' := by
  obtain ⟨b, o, rfl, hc⟩ := hx.at_ (by omega)
  have hcl := hc 0 (by omega)
  have hc1 := hc 1 (by omega)
  have hc2 := hc 2 (by omega)
  have hc3 := hc 3 (by omega)
  have hc4 := hc 4 (by omega)
  rw [Nat.add_zero, h0] at hcl
  have hb1 := hx.byte 1
  have hb2 := hx.byte 2
  have hb3 := hx.byte 3
  have hb4 := hx.byte 4
  obtain ⟨CD, hCD⟩ : ∃ CD, CD = code4 xs := ⟨_, rfl⟩
  rw [← hCD]
  unfold code4 at hCD
  obtain ⟨x1, e1⟩ : ∃ x1 : Nat, xs.getD 1 0 = (x1 : Int) := ⟨(xs.getD 1 0).toNat, by omega⟩
  obtain ⟨x2, e2⟩ : ∃ x2 : Nat, xs.getD 2 0 = (x2 : Int) := ⟨(xs.getD 2 0).toNat, by omega⟩
  obtain ⟨x3, e3⟩ : ∃ x3 : Nat, xs.getD 3 0 = (x3 : Int) := ⟨(xs.getD 3 0).toNat, by omega⟩
  obtain ⟨x4, e4⟩ : ∃ x4 : Nat, xs.getD 4 0 = (x4 : Int) := ⟨(xs.getD 4 0).toNat, by omega⟩
  rw [e1] at hc1 hb1
  rw [e2] at hc2 hb2
  rw [e3] at hc3 hb3
  rw [e4] at hc4 hb4
  rw [e1, e2, e3, e4] at hCD
  simp only [Int.toNat_natCast] at hCD
  have hor := or4 x1 x2 x3 x4 (by omega) (by omega) (by omega) (by omega)
  rw [← hCD] at hor
  have h1 : ¬ (n : Int) < 0 := by omega
  have h2 : ¬ (65536 : Int) < (n : Int) := by omega
  have h3 : ¬ (m : Int) < 5 := by omega
  have h4 : (4 : Int) < (m : Int) := by omega
  have HX := Lib.hid hx
  have HF := Lib.hid (And.intro hn (And.intro hm hm2))
  clear hn hm hm2 hc hx hCD e1 e2 e3 e4 h0
  go_enter Try.func25, Try.ntmps25
  go_wp2_with fail
  refine wp_region_seq (by kernel_rfl) (by kernel_rfl) ?_
  have HXd : Hid (Nums .u8 w.drew (some ⟨b, o, none⟩) m c xs) := HX.out.grow (Keeps.refl _ w).drew
  have HGd : Hid (Grow w w.drew) := (Keeps.refl _ w).drew
  have k1 : w.drew.cell? ⟨b, o + 1, none⟩ = some (.int .u8 (x1 : Nat)) := hc1
  have k2 : w.drew.cell? ⟨b, o + 2, none⟩ = some (.int .u8 (x2 : Nat)) := hc2
  have k3 : w.drew.cell? ⟨b, o + 3, none⟩ = some (.int .u8 (x3 : Nat)) := hc3
  have k4 : w.drew.cell? ⟨b, o + 4, none⟩ = some (.int .u8 (x4 : Nat)) := hc4
  clear hc1 hc2 hc3 hc4 hcl HX
  generalize w.drew = wd at *
  go_wp2_with fail
  refine ⟨by kernel_rfl, ?_⟩
  go_wp2_with fail
  obtain ⟨A2, hA2⟩ : ∃ A2, A2 = Nums.off (some ⟨b, o, none⟩) c 5 := ⟨_, rfl⟩
  have hsl : ∀ w : World, (Instr.slice 29 (.slice (some ⟨b, o, none⟩) m c) (some (.int .i64 5)) none none).run Try.prog w = .ok (.slice A2 (m - 5) (c - 5)) w := fun w => by
    rw [hA2]
    exact run_post (P := Try.prog) (t := 29) Try.underlying29 rfl rfl (some ⟨b, o, none⟩) m c 5 HF.out.2.1 w
  have HA2 := Lib.hid hA2
  clear hA2 k1 k2 k3 k4 hor
  refine Hv.wp_region_hav2 Grow Grow (fun _ _ _ => True) hyG [] [1008] [(0, [0, 2, 3, 4]), (2, [1]), (2, [5]), (2, [6]), (2, [7]), (4, [8]), (0, [9])] [(0, 0, [?o0, ?o2, ?o3, ?o4]), (2, 1, [?o1]), (2, 5, [?o5]), (2, 6, [?o6]), (2, 7, [?o7]), (4, 8, [?o8]), (0, 9, [?o9])] [?o0, ?o1, ?o2, ?o3, ?o4, ?o5, ?o6, ?o7, ?o8, ?o9] (by kernel_rfl) (by kernel_rfl) (by kernel_rfl) ?_
  have HXe : Hid (Nums .u8 wd.drew (some ⟨b, o, none⟩) m c xs) := HXd.out.grow (Keeps.refl _ wd).drew
  have HGe : Hid (Grow w wd.drew) := HGd.out.drew
  clear HXd HGd
  generalize wd.drew = we at *
  refine Hv.seg_calm ?_
  go_wp2_with fail
  refine Hv.seg_call (fun w2 q2 => ?_)
  have HE := Lib.hid (evens_is w2 n HF.out.1)
  have HG2 : Hid (Grow w w2) := Grow.trans _ _ _ HGe.out q2
  have HX2 := Lib.hid (HXe.out.grow q2)
  clear q2 HXe HGe
  go_wp2_with fail
  refine HE.out.mono ?_
  rintro x w3 ⟨gc, rfl, hgc, ho3, hg3⟩
  have HO3 := Lib.hid ho3
  have HGC := Lib.hid hgc
  have HG3 : Hid (Grow w w3) := Grow.trans _ _ _ HG2.out hg3
  have HX3 := Lib.hid (HX2.out.grow hg3)
  have hr9 : Grow w2 w3 := hg3
  clear ho3 hg3 HE hgc
  go_wp2_with fail
  refine ⟨hr9, ?_⟩
  clear hr9
  refine Hv.seg_call (fun w4 q4 => ?_)
  have HX4 := Lib.hid ((HX3.out.grow q4).drop 5 HF.out.2.1)
  rw [← HA2.out] at HX4
  have HCL := Lib.hid (clnU8 w4 A2 (m - 5) (c - 5) _ HX4.out.src (by have := HF.out.2.2; omega))
  have HG4 : Hid (Grow w w4) := Grow.trans _ _ _ HG3.out q4
  have HO4 := Lib.hid (owns_keep HO3.out q4 fun _ _ h => h)
  clear q4 HX3
  go_wp2_with fail
  refine HCL.out.mono ?_
  rintro x w5 ⟨A5, c5, rfl, ho5, hg5⟩
  have HO5 := Lib.hid ho5
  have HG5 : Hid (Grow w w5) := Grow.trans _ _ _ HG4.out hg5
  have HC5 := Lib.hid (owns_keep HO4.out hg5 fun _ _ h => h)
  have hr9 : Grow w4 w5 := hg5
  clear ho5 hg5 HCL
  go_wp2_with fail
  refine ⟨hr9, ?_⟩
  clear hr9
  refine Hv.seg_call (fun w6 q6 => ?_)
  have HG6 : Hid (Grow w w6) := Grow.trans _ _ _ HG5.out q6
  have HO6 := Lib.hid (owns_keep HO5.out q6 fun _ _ h => h)
  have HC6 := Lib.hid (owns_keep HC5.out q6 fun _ _ h => h)
  clear q6
  go_wp2_with fail
  refine ⟨Keeps.refl _ _, ?_⟩
  refine Hv.seg_call (fun w7 q7 => ?_)
  have HG7 : Hid (Grow w w7) := Grow.trans _ _ _ HG6.out q7
  have HO7 := Lib.hid (owns_keep HO6.out q7 fun _ _ h => h)
  have HC7 := Lib.hid (owns_keep HC6.out q7 fun _ _ h => h)
  clear q7
  go_wp2_with fail
  refine ⟨(Keeps.refl (fun _ => False) w7).alloc _, ?_⟩
  refine Hv.seg_last ?_
  go_wp2_with fail
  refine Hv.seg_calm ?_
  go_wp2_with fail
  refine Hv.seg_end ⟨by kernel_rfl, ?_⟩
  go_wp2_with fail
  go_ret2
  have hl5 : (toN (xs.drop 5)).length = m - 5 := by rw [show (toN (xs.drop 5)).length = (xs.drop 5).length by simp [toN], HX4.out.len]
  have hrg : ∀ y ∈ xs.drop 5, inKind .u8 y := HX4.out.rng
  have htn : toI (toN (xs.drop 5)) = xs.drop 5 := by
    simp only [toI, toN, List.map_map]
    conv => rhs; rw [← List.map_id (xs.drop 5)]
    refine List.map_congr_left fun y hy => ?_
    have := (inKind_u8 (hrg y hy)).1
    show ((y.toNat : Nat) : Int) = y
    omega
  have hgc3 : gc < w4.heap.size := by
    have h1 := (HO4.out.lt gc rfl).2
    exact h1
  refine ⟨w7.heap.size, gc, fun k => (Value.slice A5 (m - 5) c5).ownBlock = some k, A5, c5, rfl, HG7.out.size, Nat.le_trans HG2.out.size HGC.out, fun k hk => ⟨Nat.le_trans HG4.out.size (own_ge HO7.out k hk), by have := (HO7.out.lt k hk).2; simp; omega⟩, ⟨?_, ?_, ?_, ?_, ?_, ?_⟩, HG7.out.alloc _⟩
  · simp only [List.length_replicate, hl5]
    exact heap_alloc_new _ _
  · simp only [List.length_replicate]
    exact owns_any_base (HC7.out.alloc _) (Nat.zero_le _)
  · simp only [hl5, htn]
    exact Nums.of_own (HO7.out.alloc _) hrg
  · rintro b o rfl
    rfl
  · intro h
    have := (HO7.out.lt _ h).2
    omega
  · intro h
    have := own_ge HO7.out _ h
    omega
end Go.Proofs.Ytiikbpcaeoodjaa
