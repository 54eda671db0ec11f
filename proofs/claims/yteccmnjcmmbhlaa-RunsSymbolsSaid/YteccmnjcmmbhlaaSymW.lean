/- The walk of hamperlaw11.RunsSymbols. -/
import Derived.Test.YteccmnjcmmbhlaaPlcR
import Derived.Test.YteccmnjcmmbhlaaSame
namespace Go.Proofs.Yteccmnjcmmbhlaa
open Go.RowKit
set_option linter.unusedVariables false
set_option linter.unusedSimpArgs false

theorem ones_sum (x : List Int) : (List.map (fun _ => 1) x).sum = x.length := by
  induction x with
  | nil => rfl
  | cons y l ih => simp only [List.map_cons, List.sum_cons, List.length_cons] at *; omega
theorem own_len {w : World} {B e n : Nat} {v : Value} {xs : List Int} {k : IntKind} (h : w.ownsRow B e 1 v n (xs.map (Value.int k))) : n = xs.length := by have := h.1; simp at this; omega
theorem told_cells {W : World} {cs2 : List Value} {x2 : (List Int) × Int × Int × Unit} (h : Sh.Rd W (.pair (.sl 8 (.int .i64)) (.pair (.int .i64) (.pair (.int .i64) .nil))) cs2 x2) :
    ∃ A c, cs2 = [.slice A x2.1.length c, .int .i64 x2.2.1, .int .i64 x2.2.2.1] ∧ Nums .i64 W A x2.1.length c x2.1 ∧ inKind .i64 x2.2.1 ∧ inKind .i64 x2.2.2.1 := by
  obtain ⟨c1, r1, rfl, h1, c2, r2, rfl, h2, c3, r3, rfl, h3, h4⟩ := h
  have h4 : r3 = [] := h4
  subst h4
  obtain ⟨rfl, h2⟩ := h2
  obtain ⟨rfl, h3⟩ := h3
  have h1' := h1
  obtain ⟨A, cap, rfl, _⟩ := h1'
  exact ⟨A, cap, rfl, (Nums.of_rd h1).1, inKind_wf h2, inKind_wf h3⟩

theorem Try.names_fn (w : World) : Calls Try.prog 21 #[] w fun e w' => e = .returned (.bool true) ∧ w = w' := by
  go_enter Try.func21, Try.ntmps21
  go_wp2_with fail
  go_ret
  exact ⟨rfl, rfl⟩

set_option maxRecDepth 4000 in
set_option maxHeartbeats 4000000 in
theorem walkRunsSymbols (W : World) (a0 : Option Addr) (c0 : Nat) (x0 : List (Int)) (_h0 : Sh.Rd W (.sl 8 (.int .i64)) [.slice a0 x0.length c0] x0) (x1 : Int) (_h1 : (Lit.int .i64 x1).wf = true) (cs2 : List Value) (x2 : (List (Int)) × (Int) × (Int) × Unit) (_h2 : Sh.Rd W (.pair (.sl 8 (.int .i64)) (.pair (.int .i64) (.pair (.int .i64) .nil))) cs2 x2) (_hk : Sh.bulk (.sl 8 (.int .i64)) x0 + Sh.bulk (.int .i64) x1 + Sh.bulk (.pair (.sl 8 (.int .i64)) (.pair (.int .i64) (.pair (.int .i64) .nil))) x2 ≤ 1048576) :
    Calls Try.prog 4 #[.slice a0 x0.length c0, .int .i64 x1, .agg cs2.toArray] W fun e w' => e = .returned (.bool true) ∧ Below W.heap.size W w' := by
  obtain ⟨xs, n2, q2, _⟩ := x2
  obtain ⟨As, cS, rfl, hNs, hn2, hq2⟩ := told_cells _h2
  have hlens : x0.length ≤ 1048576 ∧ xs.length ≤ 1048576 := by
    have h : ((List.map (fun _ => 1) x0).sum + 1) + 1 + (((List.map (fun _ => 1) xs).sum + 1) + _) ≤ 1048576 := _hk
    rw [ones_sum, ones_sum] at h
    omega
  obtain ⟨hN0, hcb⟩ := Nums.of_rd _h0
  have hx1 := inKind_wf _h1
  clear _h0 _h1 _h2 _hk hcb
  obtain ⟨hl0, hls⟩ := hlens
  simp only at hNs hn2 hq2
  generalize hm : x0.length = m at *
  generalize hms : xs.length = ms at *
  have HX1 := Lib.hid hx1
  have HN2 := Lib.hid hn2
  have HQ2 := Lib.hid hq2
  have HN0 := Lib.hid hN0
  have HNS := Lib.hid hNs
  clear hx1 hn2 hq2 hm hms
  obtain ⟨bx, hbx⟩ : ∃ bx : Obj, bx = .cells #[.slice As ms cS, .int .i64 n2, .int .i64 q2] 38 := ⟨_, rfl⟩
  have hzb : (W.alloc bx).heap.size = W.heap.size + 1 := by simp
  have ho0 := own_none (W.alloc bx) 3
  rw [hzb] at ho0
  clear hzb
  have hgb : Grow W (W.alloc bx) := (Keeps.refl _ W).alloc _
  have hgc : Grow W ((W.alloc bx).alloc (.cells #[] 3)) := hgb.alloc _
  have hbw : (W.alloc bx).heap[W.heap.size]? = some bx := heap_alloc_new W bx
  have HS0 := Lib.hid (hN0.grow hgc).src
  have HGC := Lib.hid hgc
  clear hN0 hNs hgb hgc
  subst hbx
  go_enter Try.func4, Try.ntmps4
  go_wp2_with (at_builtin; refine wpList_appS rfl (.tmp 18) (.tmp 19) 28 3 rfl Try.underlying28 Try.infoI64 rfl (by decide) (W.heap.size + 1) _ 0 _ rfl ho0 (by simp) a0 m c0 _ rfl HS0.out (by unfold maxLen; omega) (by omega) ?_)
  intro A1 c1 wa ho1 k1 _
  (try simp only [Nat.zero_add, List.nil_append] at ho1)
  (try simp only [Nat.zero_add])
  have HO1 := Lib.hid ho1
  have HG1 : Hid (Grow W wa) := Keeps.trans HGC.out k1 (fun i hi h => by simp [Value.ownBlock] at h; omega)
  have HBX : Hid (wa.heap[W.heap.size]? = some (.cells #[.slice As ms cS, .int .i64 n2, .int .i64 q2] 38 (0, 0))) := by
    show _ = _
    rw [k1.block W.heap.size (by simp; omega) (by simp [Value.ownBlock])]
    exact (heap_alloc_old _ _ (by simp)).trans hbw
  have HN1 := Lib.hid (Nums.of_own ho1 HN0.out.rng)
  clear ho1 k1 ho0 hbw HS0 HGC
  have hza := HG1.out.size
  go_wp2_with fail
  refine (symbols_is wa A1 m c1 x0 x1 HN1.out HX1.out (by omega)).mono ?_
  rintro e w2 ⟨A2, c2, k2, rfl, ho2, hg2⟩
  have HO2 := Lib.hid ho2
  have HG2 := Lib.hid hg2
  have LS : Hid (∀ b, (Value.slice A2 k2 c2).ownBlock = some b → wa.heap.size ≤ b ∧ b < w2.heap.size) := fun b hb => ho2.lt b hb
  have hk2 := Lib.hid (own_len ho2)
  have hz2 := hg2.size
  clear ho2 hg2
  go_wp2_with fail
  refine (symbols_is w2 A1 m c1 x0 x1 (HN1.out.grow HG2.out) HX1.out (by omega)).mono ?_
  rintro e w3 ⟨A3, c3, k3, rfl, ho3, hg3⟩
  have HO3 := Lib.hid ho3
  have HG3 := Lib.hid (Grow.trans _ _ _ HG2.out hg3)
  have HO2b := Lib.hid (owns_keep HO2.out hg3 (fun _ _ h => h))
  have LO : Hid (∀ b, (Value.slice A3 k3 c3).ownBlock = some b → w2.heap.size ≤ b ∧ b < w3.heap.size) := fun b hb => ho3.lt b hb
  have hk3 := Lib.hid (own_len ho3)
  have hz3 := hg3.size
  clear ho3 hg3 HO2 HG2
  go_wp2_with fail
  refine (refSymbols_is w3 a0 m c0 x0 x1 (HN0.out.grow (Grow.trans _ _ _ HG1.out HG3.out)) HX1.out (by omega)).mono ?_
  rintro e w4 ⟨A4, c4, k4, rfl, ho4, hg4⟩
  have HO4 := Lib.hid ho4
  have HG4 := Lib.hid (Grow.trans _ _ _ HG3.out hg4)
  have HO2c := Lib.hid (owns_keep HO2b.out hg4 (fun _ _ h => h))
  have HO3b := Lib.hid (owns_keep HO3.out hg4 (fun _ _ h => h))
  have LW : Hid (∀ b, (Value.slice A4 k4 c4).ownBlock = some b → w3.heap.size ≤ b) := fun b hb => (ho4.lt b hb).1
  have hk4 := Lib.hid (own_len ho4)
  have hz4 := hg4.size
  clear ho4 hg4 HO2b HO3 HG3
  have hk34 : k3 = k2 := by rw [hk3.out, hk2.out]
  have hk44 : k4 = k2 := by rw [hk4.out, hk2.out]
  subst hk34 hk44
  clear hk2 hk3 hk4
  generalize symR x0 x1 = R at *
  have HBX4 : Hid (w4.heap[W.heap.size]? = some (.cells #[.slice As ms cS, .int .i64 n2, .int .i64 q2] 38 (0, 0))) := by
    show _ = _
    rw [HG4.out.block W.heap.size (blk_lt HBX.out) (fun h => h)]
    exact HBX.out
  have hbx4 := blk_lt HBX4.out
  have HNS4 := Lib.hid (HNS.out.grow (Grow.trans _ _ _ HG1.out HG4.out))
  have HG5 := Lib.hid (Grow.trans _ _ _ HG1.out HG4.out)
  clear HBX HN1 HO1 HN0 HNS HG1 HG4
  go_wp2_with fail
  have hy : Hv.Hyp2 (Keeps (fun j => w4.heap.size ≤ j)) Grow (fun _ _ _ => True) :=
    ⟨Keeps.refl _, fun _ _ _ h k => Keeps.trans h k fun _ _ h => h, fun _ _ _ _ _ _ => trivial, Keeps.refl _, fun _ _ _ h k => Keeps.trans h k fun _ _ h => h, fun _ _ h => ⟨h.os, h.tape, h.output, h.size, fun k hk _ => h.block k hk (fun h => h)⟩⟩
  have HY := Lib.hid hy
  clear hy
  refine Hv.wp_region_hav2 (Keeps (fun j => w4.heap.size ≤ j)) Grow (fun _ _ _ => True) HY.out [2, 5, 7] [] [(0, [1, 4, 6]), (1, [2]), (1, [5]), (1, [7]), (2, [0]), (2, [3]), (2, [8]), (0, [9, 10, 11, 12, 13])] [(0, 1, [?o1, ?o4, ?o6]), (1, 2, [?o2]), (1, 5, [?o5]), (1, 7, [?o7]), (2, 0, [?o0]), (2, 3, [?o3]), (2, 8, [?o8]), (0, 9, [?o9, ?o10, ?o11, ?o12, ?o13])] [?o0, ?o1, ?o2, ?o3, ?o4, ?o5, ?o6, ?o7, ?o8, ?o9, ?o10, ?o11, ?o12, ?o13] (by kernel_rfl) (by kernel_rfl) (by kernel_rfl) ?_
  have HBX5 : Hid (w4.drew.heap[W.heap.size]? = some (.cells #[.slice As ms cS, .int .i64 n2, .int .i64 q2] 38 (0, 0))) := HBX4.out
  have KR : Grow w4 w4.drew := (Keeps.refl _ _).drew
  generalize w4.drew = wd at *
  refine Hv.seg_calm ?_
  go_wp2_with fail
  have HCL : Hid (∀ w7, Keeps (fun j => w4.heap.size ≤ j) wd w7 → w7.cell? ⟨W.heap.size, 0, none⟩ = some (.slice As ms cS) ∧ w7.cell? ⟨W.heap.size, 1, none⟩ = some (.int .i64 n2) ∧ w7.cell? ⟨W.heap.size, 2, none⟩ = some (.int .i64 q2)) := fun w7 k7 => by
    have hb : w7.heap[W.heap.size]? = some (.cells #[.slice As ms cS, .int .i64 n2, .int .i64 q2] 38 (0, 0)) := by
      rw [k7.block W.heap.size (blk_lt HBX5.out) (by omega)]
      exact HBX5.out
    exact ⟨blk_cell hb 0, blk_cell hb 1, blk_cell hb 2⟩
  refine Hv.seg_held (by kernel_rfl) (.slice As ms cS) (fun w7 hk7 => ?_) ?_
  · have c7 := (HCL.out w7 hk7).1
    go_simp
  refine Hv.seg_held (by kernel_rfl) (.int .i64 n2) (fun w7 hk7 => ?_) ?_
  · have c7 := (HCL.out w7 hk7).2.1
    go_simp
  refine Hv.seg_held (by kernel_rfl) (.int .i64 q2) (fun w7 hk7 => ?_) ?_
  · have c7 := (HCL.out w7 hk7).2.2
    go_simp
  refine Hv.seg_call (fun w5 q5 => ?_)
  go_wp2_with fail
  refine ⟨(Keeps.refl _ _).alloc _, ?_⟩
  have HO6 := Lib.hid (own_none w5 3)
  have G6 : Grow w4 (w5.alloc (.cells #[] 3)) := (Grow.trans _ _ _ KR q5).alloc _
  have hz5 : w4.heap.size ≤ w5.heap.size := (Grow.trans _ _ _ KR q5).size
  clear KR q5
  generalize w5.heap.size = b5 at *
  generalize w5.alloc (.cells #[] 3) = w6 at *
  refine Hv.seg_call (fun w7 q7 => ?_)
  have G7 : Grow w4 w7 := Grow.trans _ _ _ G6 q7
  have HO7 := Lib.hid (owns_keep HO6.out q7 (fun _ _ h => h))
  have HS7 := Lib.hid (HNS4.out.grow G7).src
  have hb7 : b5 ≤ w7.heap.size := by have := (HO7.out.lt b5 rfl).2; omega
  clear G6 q7 HO6
  go_wp2_with (at_builtin; refine wpList_appS rfl (.tmp 40) (.tmp 42) 28 3 rfl Try.underlying28 Try.infoI64 rfl (by decide) b5 _ 0 _ rfl HO7.out hb7 As ms cS _ rfl HS7.out (by unfold maxLen; omega) (by omega) ?_)
  intro A8 c8 w8 ho8 k8 _
  (try simp only [Nat.zero_add, List.nil_append] at ho8)
  (try simp only [Nat.zero_add])
  have HG8 : Hid (Grow w4 w8) := grow_own G7 (owns_any_base HO7.out (Nat.le_refl _)) hz5 k8
  have HN8 := Lib.hid (Nums.of_own ho8 HNS4.out.rng)
  have hk8 : Keeps (fun j => w4.heap.size ≤ j) w7 w8 := Keeps.trans (Keeps.refl _ _) k8 (fun j _ hj => Nat.le_trans hz5 (own_ge HO7.out j hj))
  clear ho8 k8
  go_wp2_with fail
  refine ⟨hk8, ?_⟩
  clear hk8 G7 HO7 HS7
  refine Hv.seg_call (fun w9 q9 => ?_)
  go_wp2_with fail
  have G9 : Grow w4 w9 := Grow.trans _ _ _ HG8.out q9
  refine (places_is w9 A8 ms c8 xs n2 q2 (HN8.out.grow q9) HN2.out HQ2.out (by omega)).mono ?_
  rintro e w10 ⟨A5, c5, k5, rfl, ho5, hg10⟩
  have HO5 := Lib.hid ho5
  have HG10 := Lib.hid (Grow.trans _ _ _ G9 hg10)
  have LP : Hid (∀ b, (Value.slice A5 k5 c5).ownBlock = some b → w9.heap.size ≤ b ∧ b < w10.heap.size) := fun b hb => ho5.lt b hb
  have hk5 := Lib.hid (own_len ho5)
  have hz9 := G9.size
  have hz10 := hg10.size
  have hk10 : Keeps (fun j => w4.heap.size ≤ j) w9 w10 := ⟨hg10.os, hg10.tape, hg10.output, hg10.size, fun k hk _ => hg10.block k hk (fun h => h)⟩
  clear ho5 hg10 q9 HN8 HG8 HCL HBX5
  go_wp2_with fail
  refine ⟨hk10, ?_⟩
  clear hk10 G9
  refine Hv.seg_calm ?_
  go_wp2_with fail
  refine Hv.seg_end ⟨by kernel_rfl, ?_⟩
  have HBX6 : Hid (w10.heap[W.heap.size]? = some (.cells #[.slice As ms cS, .int .i64 n2, .int .i64 q2] 38 (0, 0))) := by
    show _ = _
    rw [HG10.out.block W.heap.size (blk_lt HBX4.out) (fun h => h)]
    exact HBX4.out
  have cc0 := blk_cell HBX6.out 0
  have cc1 := blk_cell HBX6.out 1
  have cc2 := blk_cell HBX6.out 2
  simp at cc0 cc1 cc2
  go_wp2_with fail
  refine (refPlaces_is w10 As ms cS xs n2 q2 (HNS4.out.grow HG10.out) HN2.out HQ2.out (by omega)).mono ?_
  rintro e w11 ⟨A6, c6, k6, rfl, ho6, hg11⟩
  have HO6 := Lib.hid ho6
  have HG11 := Lib.hid (Grow.trans _ _ _ HG10.out hg11)
  have HO5b := Lib.hid (owns_keep HO5.out hg11 (fun _ _ h => h))
  have LL : Hid (∀ b, (Value.slice A6 k6 c6).ownBlock = some b → w10.heap.size ≤ b) := fun b hb => (ho6.lt b hb).1
  have hk6 := Lib.hid (own_len ho6)
  have hz11 := hg11.size
  clear ho6 hg11 cc0 cc1 cc2 HBX6 HBX4 HG10
  have hk56 : k6 = k5 := by rw [hk6.out, hk5.out]
  subst hk56
  clear hk5 hk6
  generalize plR xs n2 q2 = T at *
  have HS := Lib.hid (owns_keep HO2c.out HG11.out (fun _ _ h => h))
  have HO := Lib.hid (owns_keep HO3b.out HG11.out (fun _ _ h => h))
  have HW := Lib.hid (owns_keep HO4.out HG11.out (fun _ _ h => h))
  have hKW : Hid (Grow W w11) := Grow.trans _ _ _ HG5.out HG11.out
  have C1 := Lib.hid (same_is w11 _ _ A2 A4 k4 c2 c4 R.1 HS.out HW.out (fun b hb h => by have := LS.out b h; have := LW.out b hb; omega))
  have C2 := Lib.hid (fun w12 (k12 : Keeps (fun k => (Value.slice A2 k4 c2).ownBlock = some k) w11 w12) => same_is w12 _ _ A3 A4 k4 c3 c4 R.1 (owns_keep HO.out k12 (fun b hb h => by have := LS.out b h; have := LO.out b hb; omega)) (owns_keep HW.out k12 (fun b hb h => by have := LS.out b h; have := LW.out b hb; omega)) (fun b hb h => by have := LO.out b h; have := LW.out b hb; omega))
  have C3 := Lib.hid (fun w13 (k13 : Keeps (fun k => (Value.slice A2 k4 c2).ownBlock = some k ∨ (Value.slice A3 k4 c3).ownBlock = some k) w11 w13) => same_is w13 _ _ A5 A6 k6 c5 c6 T.1 (owns_keep HO5b.out k13 (fun b hb h => by
      have h1 := LP.out b hb
      rcases h with h | h
      · have := LS.out b h; omega
      · have := LO.out b h; omega)) (owns_keep HO6.out k13 (fun b hb h => by
      have h1 := LL.out b hb
      rcases h with h | h
      · have := LS.out b h; omega
      · have := LO.out b h; omega)) (fun b hb h => by have := LP.out b h; have := LL.out b hb; omega))
  have HF : Hid (∀ k, k < W.heap.size → ¬ ((Value.slice A2 k4 c2).ownBlock = some k ∨ (Value.slice A3 k4 c3).ownBlock = some k) ∧ ¬ (Value.slice A5 k6 c5).ownBlock = some k) := fun k hk => ⟨fun h => by
      rcases h with h | h
      · have := LS.out k h; omega
      · have := LO.out k h; omega, fun h => by have := LP.out k h; omega⟩
  clear LS LO LW LP LL HS HO HW HO6 HO5b HO5 HO2c HO3b HO4 HG11 HNS4 HG5
  go_wp2_with fail
  refine C1.out.mono ?_
  rintro e w12 ⟨rfl, k12⟩
  have HC2 := Lib.hid (C2.out w12 k12)
  clear C1 C2
  go_wp2_with fail
  refine HC2.out.mono ?_
  rintro e w13 ⟨rfl, k13⟩
  have K13 : Hid (Keeps (fun k => (Value.slice A2 k4 c2).ownBlock = some k ∨ (Value.slice A3 k4 c3).ownBlock = some k) w11 w13) := Keeps.trans (S := fun k => (Value.slice A2 k4 c2).ownBlock = some k ∨ (Value.slice A3 k4 c3).ownBlock = some k) ⟨k12.os, k12.tape, k12.output, k12.size, fun j hj hn => k12.block j hj (fun h => hn (.inl h))⟩ k13 (fun j _ h => .inr h)
  have HC3 := Lib.hid (C3.out w13 K13.out)
  clear C3 HC2 k12 k13
  go_wp2_with fail
  refine HC3.out.mono ?_
  rintro e w14 ⟨rfl, k14⟩
  have K14 := Lib.hid k14
  clear HC3 k14
  have HNM := Lib.hid (Try.names_fn w14)
  go_wp2_with fail
  refine HNM.out.mono ?_
  rintro e w15 ⟨rfl, rfl⟩
  go_wp2_with fail
  go_ret
  refine ⟨rfl, ?_⟩
  have hzw := hKW.out.size
  exact Keeps.below (S := fun k => W.heap.size ≤ k) (Keeps.trans (Keeps.trans ⟨hKW.out.os, hKW.out.tape, hKW.out.output, hKW.out.size, fun j hj _ => hKW.out.block j hj (fun h => h)⟩ K13.out (fun j hj h => absurd h (HF.out j hj).1)) K14.out (fun j hj h => absurd h (HF.out j hj).2)) (fun k hk h => by omega) (Nat.le_refl _)
end Go.Proofs.Yteccmnjcmmbhlaa
