/- The law LimitMore: the walk. -/
import Derived.Test.YtfegjdabjdahgaaLmG
import Derived.Test.YtfegjdabjdahgaaLmS
namespace Go.Proofs.Ytfegjdabjdahgaa
open Go.RowKit
set_option linter.unusedVariables false
set_option linter.unusedSimpArgs false

theorem wf_in {x : Int} (h : (Lit.int .i64 x).wf = true) : inKind .i64 x := by
  simp [Lit.wf] at h
  have h1 : IntKind.i64.min = -9223372036854775808 := rfl
  have h2 : IntKind.i64.max = 9223372036854775807 := rfl
  exact ⟨by omega, by omega⟩
theorem wrap_in (x : Int) : inKind .i64 (wrap64 x) := mk_i64 (by unfold wrap64; omega) (by unfold wrap64; omega)
theorem lim_more {xs : List Int} {most : Int} (h : wrongP xs most = 0) (hn : (baseP xs).length ≤ 2 ^ most.toNat) (h2 : most < 20) : limP xs (most + 1) = (lensP xs (most.toNat + 1), 0) := by
  have hok := wrong_ok h
  have hw : wrongP xs (most + 1) = 0 := by
    unfold wrongP at h ⊢
    split at h
    · cases h
    · rename_i h3
      rw [if_neg (fun h4 => h3 (by
        rcases h4 with h4 | h4 | h4
        · omega
        · omega
        · exact .inr (.inr h4)))]
      exact h
  have e : (most + 1).toNat = most.toNat + 1 := by omega
  unfold limP
  rw [if_neg (by rw [hw]; simp), e, if_neg]
  rw [Nat.pow_succ]
  omega
theorem lit2 {w : World} {g : Nat} {a b : Int} {T : TypeId} (h : w.heap[g]? = some (.cells #[.int .i64 a, .int .i64 b] T (0, 0))) (ha : inKind .i64 a) (hb : inKind .i64 b) : Nums .i64 w (some ⟨g, 0, none⟩) 2 2 [a, b] := by
  refine ⟨rfl, fun x hx => ?_, Nat.le_refl _, fun h => (by cases h), fun _ => ⟨g, 0, rfl, fun j hj => ?_⟩⟩
  · simp at hx
    rcases hx with rfl | rfl
    · exact ha
    · exact hb
  · rw [Nat.zero_add, blk_cell h]
    match j, hj with
    | 0, _ => rfl
    | 1, _ => rfl
theorem lit4 {w : World} {g : Nat} {a b c d : Int} {T : TypeId} (h : w.heap[g]? = some (.cells #[.int .i64 a, .int .i64 b, .int .i64 c, .int .i64 d] T (0, 0))) (ha : inKind .i64 a) (hb : inKind .i64 b) (hc : inKind .i64 c) (hd : inKind .i64 d) : Nums .i64 w (some ⟨g, 0, none⟩) 4 4 [a, b, c, d] := by
  refine ⟨rfl, fun x hx => ?_, Nat.le_refl _, fun h => (by cases h), fun _ => ⟨g, 0, rfl, fun j hj => ?_⟩⟩
  · simp at hx
    rcases hx with rfl | rfl | rfl | rfl
    · exact ha
    · exact hb
    · exact hc
    · exact hd
  · rw [Nat.zero_add, blk_cell h]
    match j, hj with
    | 0, _ => rfl
    | 1, _ => rfl
    | 2, _ => rfl
    | 3, _ => rfl
theorem lm_len {w : World} {B e n : Nat} {v : Value} {xs : List Int} {k : IntKind} (h : w.ownsRow B e 1 v n (xs.map (Value.int k))) : n = xs.length := by have := h.1; simp at this; omega
theorem lim_21 (xs : List Int) : limP xs (20 + 1) = ([], 2) := by
  have h : wrongP xs (20 + 1) = 2 := by
    unfold wrongP
    rw [if_pos (.inr (.inl (by decide)))]
  unfold limP
  rw [h]
  rfl
theorem cost_lit : costR [1, 2] [3, 4] = (11, 0) := by
  rw [costR_eq]
  simp [costSt, neg]
theorem lens_in {xs : List Int} {L : Nat} (hL : 1 ≤ L) (hL2 : L ≤ 20) (hn : (baseP xs).length ≤ 2 ^ L) : ∀ x ∈ lensP xs L, inKind .i64 x := fun x hx => by
  have h0 := lens_nonneg xs L x hx
  obtain ⟨j, hj, e⟩ := List.getElem_of_mem hx
  rw [lensP_len] at hj
  have h1 := lensP_getN (L := L) hj
  have h2 := (lenN_rng hL hn hj).1
  rw [List.getD_eq_getElem?_getD, List.getElem?_eq_getElem (by rw [lensP_len]; exact hj)] at h1
  simp only [Option.getD_some] at h1
  exact mk_i64 (by omega) (by omega)
set_option maxRecDepth 4000 in
set_option maxHeartbeats 4000000 in
theorem probe_cost (w : World) : Calls Try.prog 10 #[.slice (some ⟨w.heap.size, 0, none⟩) 2 2, .slice (some ⟨w.heap.size + 1, 0, none⟩) 2 2] ((w.alloc (.cells #[.int .i64 1, .int .i64 2] 3)).alloc (.cells #[.int .i64 3, .int .i64 4] 3)) fun e w' => e = .returned (.tuple #[.int .i64 11, .int .i64 0]) ∧ Grow w w' := by
  have k1 : Grow w (w.alloc (.cells #[.int .i64 1, .int .i64 2] 3)) := (Keeps.refl _ w).alloc _
  have hb1 := heap_alloc_new w (.cells #[.int .i64 1, .int .i64 2] 3)
  have hz : (w.alloc (.cells #[.int .i64 1, .int .i64 2] 3)).heap.size = w.heap.size + 1 := by simp
  have hb2 := heap_alloc_new (w.alloc (.cells #[.int .i64 1, .int .i64 2] 3)) (.cells #[.int .i64 3, .int .i64 4] 3)
  rw [hz] at hb2
  have h1 := lit2 hb1 (mk_i64 (by decide) (by decide)) (mk_i64 (by decide) (by decide))
  have h2 := lit2 hb2 (mk_i64 (by decide) (by decide)) (mk_i64 (by decide) (by decide))
  have k2 := (Keeps.refl (fun _ => False) (w.alloc (.cells #[.int .i64 1, .int .i64 2] 3))).alloc (.cells #[.int .i64 3, .int .i64 4] 3)
  refine (cost_is _ _ _ 2 2 2 2 [1, 2] [3, 4] (h1.grow k2) h2 (by decide) (by decide)).mono ?_
  rintro e w' ⟨rfl, rfl⟩
  rw [cost_lit]
  exact ⟨rfl, Grow.trans _ _ _ k1 k2⟩

set_option maxRecDepth 4000 in
set_option maxHeartbeats 4000000 in
theorem walkLimitMore (W : World) (a0 : Option Addr) (c0 : Nat) (x0 : List (Int)) (_h0 : Sh.Rd W (.sl 8 (.int .i64)) [.slice a0 x0.length c0] x0) (x1 : Int) (_h1 : (Lit.int .i64 x1).wf = true) :
    Calls Try.prog 5 #[.slice a0 x0.length c0, .int .i64 x1] W fun e w' => e = .returned (.bool true) ∧ Below W.heap.size W w' := by
  obtain ⟨h0, hc0⟩ := Nums.of_rd _h0
  have hm := wf_in _h1
  clear _h0 _h1
  have hn0 := h0.cap
  generalize x0.length = n0 at *
  have H0 := Lib.hid h0
  have hL := lim_cases x0 x1
  have hLW := lengths_is W a0 n0 c0 x0 x1 H0.out (by omega) hm
  have HL2 : Hid (∀ w, Grow W w → Calls Try.prog 6 #[.slice a0 n0 c0, .int .i64 (wrap64 (x1 + 1))] w fun e w' => ∃ A' c' k, e = .returned (.tuple #[.slice A' k c', .int .i64 (limP x0 (wrap64 (x1 + 1))).2]) ∧ w'.ownsRow w.heap.size 3 1 (.slice A' k c') k ((limP x0 (wrap64 (x1 + 1))).1.map (Value.int .i64)) ∧ Grow w w') := fun w hg => lengths_is w a0 n0 c0 x0 _ (H0.out.grow hg) (by omega) (wrap_in _)
  rcases hL with ⟨hL1, hL2⟩ | ⟨hw, hbn, hlm⟩
  · rw [hL1] at hLW
    generalize (limP x0 x1).2 = eA at *
    have HLW := Lib.hid hLW
    have e1 : (eA == 0) = false := by simpa using hL2
    have e2 : decide (eA = 0) = false := decide_eq_false hL2
    clear hL1 hLW h0 hm
    generalize (limP x0 (wrap64 (x1 + 1))) = R2 at *
    obtain ⟨r2, f2⟩ := R2
    simp only at HL2
    go_enter Try.func5, Try.ntmps5
    go_wp2_with fail
    refine HLW.out.mono ?_
    rintro e w1 ⟨A1, c1, k1, rfl, ho, hg⟩
    have hk1 : k1 = 0 := by have := ho.1; simp at this; omega
    subst hk1
    have HG1 := Lib.hid hg
    clear ho hg HLW
    go_wp2_with fail
    refine (HL2.out w1 HG1.out).mono ?_
    rintro e w2 ⟨A2, c2, k2, rfl, ho, hg⟩
    have HG2 := Lib.hid (Grow.trans _ _ _ HG1.out hg)
    clear ho hg HL2 HG1
    have HPC := Lib.hid (probe_cost w2)
    go_wp2_with fail
    refine HPC.out.mono ?_
    rintro e w3 ⟨rfl, hg⟩
    have HG3 := Lib.hid (Grow.trans _ _ _ HG2.out hg)
    clear hg HPC HG2
    go_wp2_with fail
    go_ret
    exact ⟨rfl, HG3.out.below (fun _ _ h => h) (Nat.le_refl _)⟩
  · have hok := wrong_ok hw
    rw [hlm] at hLW
    have HLW := Lib.hid hLW
    have HM2 : wrap64 (x1 + 1) = x1 + 1 := by unfold wrap64; omega
    rw [HM2] at HL2
    have hc1 : costR x0 (lensP x0 x1.toNat) = _ := costR_lens (by omega) (by omega) hbn hok.2.2.2.1 hok.2.2.2.2
    have hin1 := Lib.hid (lens_in (xs := x0) (L := x1.toNat) (by omega) (by omega) hbn)
    have HC1 : Hid (∀ w A k c, Nums .i64 w a0 n0 c0 x0 → w.ownsRow W.heap.size 3 1 (.slice A k c) k ((lensP x0 x1.toNat).map (Value.int .i64)) → Calls Try.prog 10 #[.slice a0 n0 c0, .slice A k c] w fun e w' => e = .returned (.tuple #[.int .i64 (costN x0 (lenN x0 x1.toNat) : Nat), .int .i64 0]) ∧ w = w') := fun w A k c h ho => by
      have h9 := cost_is w a0 A n0 k c0 c x0 _ h (Nums.of_own ho hin1.out) (by omega) (by
        have h1 := lm_len ho
        rw [lensP_len, H0.out.len] at h1
        omega)
      rw [hc1] at h9
      exact h9
    have hx1 : x1 ≤ 20 := hok.2.1
    have hx1' : ¬ (20 : Int) < x1 := by omega
    by_cases h20 : x1 = 20
    · subst h20
      rw [lim_21] at HL2
      generalize costN x0 (lenN x0 (Int.toNat 20)) = q1 at *
      generalize lensP x0 (Int.toNat 20) = l1 at *
      clear hin1 hc1 hlm hbn hw hok hLW h0 hm HC1
      go_enter Try.func5, Try.ntmps5
      go_wp2_with fail
      refine HLW.out.mono ?_
      rintro e w1 ⟨A1, c1, k1, rfl, ho, hg⟩
      have HG1 := Lib.hid hg
      clear ho hg HLW
      go_wp2_with fail
      refine (HL2.out w1 HG1.out).mono ?_
      rintro e w2 ⟨A2, c2, k2, rfl, ho, hg⟩
      have HG2 := Lib.hid (Grow.trans _ _ _ HG1.out hg)
      clear ho hg HL2 HG1
      have HPC := Lib.hid (probe_cost w2)
      go_wp2_with fail
      refine HPC.out.mono ?_
      rintro e w3 ⟨rfl, hg⟩
      have HG3 := Lib.hid (Grow.trans _ _ _ HG2.out hg)
      clear hg HPC HG2
      go_wp2_with fail
      go_ret
      exact ⟨rfl, HG3.out.below (fun _ _ h => h) (Nat.le_refl _)⟩
    · have hlm2 := lim_more hw hbn (by omega)
      rw [hlm2] at HL2
      have hb2 : (baseP x0).length ≤ 2 ^ (x1.toNat + 1) := by rw [Nat.pow_succ]; omega
      have hc2 : costR x0 (lensP x0 (x1.toNat + 1)) = _ := costR_lens (by omega) (by omega) hb2 hok.2.2.2.1 hok.2.2.2.2
      have hin2 := Lib.hid (lens_in (xs := x0) (L := x1.toNat + 1) (by omega) (by omega) hb2)
      have HC2 : Hid (∀ w B A k c, Nums .i64 w a0 n0 c0 x0 → w.ownsRow B 3 1 (.slice A k c) k ((lensP x0 (x1.toNat + 1)).map (Value.int .i64)) → Calls Try.prog 10 #[.slice a0 n0 c0, .slice A k c] w fun e w' => e = .returned (.tuple #[.int .i64 (costN x0 (lenN x0 (x1.toNat + 1)) : Nat), .int .i64 0]) ∧ w = w') := fun w B A k c h ho => by
        have h9 := cost_is w a0 A n0 k c0 c x0 _ h (Nums.of_own ho hin2.out) (by omega) (by
          have h1 := lm_len ho
          rw [lensP_len, H0.out.len] at h1
          omega)
        rw [hc2] at h9
        exact h9
      have hle : costN x0 (lenN x0 (x1.toNat + 1)) ≤ costN x0 (lenN x0 x1.toNat) := more_cost (by omega) hbn
      have hlei : ((costN x0 (lenN x0 (x1.toNat + 1)) : Nat) : Int) ≤ ((costN x0 (lenN x0 x1.toNat) : Nat) : Int) := by omega
      generalize costN x0 (lenN x0 (x1.toNat + 1)) = q2 at *
      generalize costN x0 (lenN x0 x1.toNat) = q1 at *
      generalize lensP x0 (x1.toNat + 1) = l2 at *
      generalize lensP x0 x1.toNat = l1 at *
      clear hin1 hin2 hc1 hc2 hlm hlm2 hb2 hbn hw hok hLW hle h0 hm
      go_enter Try.func5, Try.ntmps5
      go_wp2_with fail
      refine HLW.out.mono ?_
      rintro e w1 ⟨A1, c1, k1, rfl, ho, hg⟩
      have HO1 := Lib.hid ho
      have HG1 := Lib.hid hg
      clear ho hg HLW
      go_wp2_with fail
      refine (HL2.out w1 HG1.out).mono ?_
      rintro e w2 ⟨A2, c2, k2, rfl, ho, hg⟩
      have HG2 := Lib.hid (Grow.trans _ _ _ HG1.out hg)
      have HO1b := Lib.hid (owns_keep HO1.out hg (fun _ _ h => h))
      have HO2 := Lib.hid ho
      clear ho hg HL2 HG1 HO1
      have HPC := Lib.hid (probe_cost w2)
      go_wp2_with fail
      refine HPC.out.mono ?_
      rintro e w3 ⟨rfl, hg⟩
      have HG3 := Lib.hid (Grow.trans _ _ _ HG2.out hg)
      have HO1c := Lib.hid (owns_keep HO1b.out hg (fun _ _ h => h))
      have HO2c := Lib.hid (owns_keep HO2.out hg (fun _ _ h => h))
      clear hg HPC HG2 HO1b HO2
      go_wp2_with fail
      refine (HC1.out w3 _ _ _ (H0.out.grow HG3.out) HO1c.out).mono ?_
      rintro e w4 ⟨rfl, rfl⟩
      go_wp2_with fail
      refine (HC2.out w3 _ _ _ _ (H0.out.grow HG3.out) HO2c.out).mono ?_
      rintro e w4 ⟨rfl, rfl⟩
      go_wp2_with fail
      go_ret
      exact ⟨rfl, HG3.out.below (fun _ _ h => h) (Nat.le_refl _)⟩
end Go.Proofs.Ytfegjdabjdahgaa
