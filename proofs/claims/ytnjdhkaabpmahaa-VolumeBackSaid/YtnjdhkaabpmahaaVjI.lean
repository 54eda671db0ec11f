/- volume, the document: a head read. -/
import Derived.Test.YtnjdhkaabpmahaaVjB
namespace Go.Proofs.Ytnjdhkaabpmahaa
open Go.RowKit
set_option linter.unusedVariables false
set_option linter.unusedSimpArgs false

def RReadPost (w : World) (xs : List Int) (e : Ending) (w' : World) : Prop :=
  ∃ (a b d s : Nat), e = .returned (.tuple #[.agg #[.int .i64 (a : Nat), .int .i64 (b : Nat), .int .u64 (d : Nat), .int .u64 (s : Nat)], .int .i64 (readE xs : Nat)]) ∧ Grow w w' ∧
    (readE xs = 0 → a = numB xs ∧ b = cntB xs ∧ d = allB xs ∧ s = sumB xs)
set_option maxRecDepth 8000 in
set_option maxHeartbeats 4000000 in
theorem vrread_is (w : World) (A : Option Addr) (n c : Nat) (xs : List Int) (hx : Nums .u8 w A n c xs) (hn : n ≤ 140737488355328) :
    Calls Try.prog 33 #[.slice A n c] w fun e w' => RReadPost w xs e w' := by
  unfold RReadPost
  have HN := Lib.hid hx
  have hlen := hx.len
  have hni : (n : Int) ≤ 140737488355328 := by omega
  obtain ⟨g, hg⟩ : ∃ g, g = w.heap.size := ⟨_, rfl⟩
  have HGE := Lib.hid hg
  have hb0 := heap_alloc_new w (.cells #[.int .i64 0, .int .i64 0, .int .u64 0, .int .u64 0] 56)
  have hk0 : Grow w (w.alloc (.cells #[.int .i64 0, .int .i64 0, .int .u64 0, .int .u64 0] 56)) := (Keeps.refl _ w).alloc _
  rw [← hg] at hb0
  clear hx
  by_cases h24 : n < 24
  · have HE : Hid (readE xs = 10) := by
      show readE xs = 10
      unfold readE
      rw [if_pos (by omega)]
    have h24i : (n : Int) < 24 := by omega
    have h24d : decide ((n : Int) < 24) = true := decide_eq_true h24i
    clear hn hlen h24
    go_enter Try.func33, Try.ntmps33
    go_upto_region 2 with fail
    rw [← hg]
    generalize w.alloc (.cells #[.int .i64 0, .int .i64 0, .int .u64 0, .int .u64 0] 56) = w2 at *
    have HB := Lib.hid hb0
    have HK := Lib.hid hk0
    clear hb0 hk0 hg
    have hb := HB.out
    have z0 := blk_cell hb 0
    have z1 := blk_cell hb 1
    have z2 := blk_cell hb 2
    have z3 := blk_cell hb 3
    have f0 := blk_frozen hb 0
    have f1 := blk_frozen hb 1
    have f2 := blk_frozen hb 2
    have f3 := blk_frozen hb 3
    simp at z0 z1 z2 z3
    go_wp2_with fail
    have hb9 := blk_set (blk_set (blk_set (blk_set (hb) 0 (.int .i64 0)) 1 (.int .i64 0)) 2 (.int .u64 0)) 3 (.int .u64 0)
    have hk9 : Grow w ((((w2.setCell ⟨g, 0, none⟩ (.int .i64 0)).setCell ⟨g, 1, none⟩ (.int .i64 0)).setCell ⟨g, 2, none⟩ (.int .u64 0)).setCell ⟨g, 3, none⟩ (.int .u64 0)) := ((((HK.out.setCell (p := ⟨g, 0, none⟩) (fun h9 => by have := HGE.out; simp only at h9; omega) _).setCell (p := ⟨g, 1, none⟩) (fun h9 => by have := HGE.out; simp only at h9; omega) _).setCell (p := ⟨g, 2, none⟩) (fun h9 => by have := HGE.out; simp only at h9; omega) _).setCell (p := ⟨g, 3, none⟩) (fun h9 => by have := HGE.out; simp only at h9; omega) _)
    generalize ((((w2.setCell ⟨g, 0, none⟩ (.int .i64 0)).setCell ⟨g, 1, none⟩ (.int .i64 0)).setCell ⟨g, 2, none⟩ (.int .u64 0)).setCell ⟨g, 3, none⟩ (.int .u64 0)) = w9 at *
    clear z0 z1 z2 z3 f0 f1 f2 f3 hb
    have y0 := blk_cell hb9 0
    have y1 := blk_cell hb9 1
    have y2 := blk_cell hb9 2
    have y3 := blk_cell hb9 3
    simp at y0 y1 y2 y3
    have hld : (loadVar 56 ⟨g, 0, none⟩).run Try.prog w9 = .ok (.agg #[.int .i64 0, .int .i64 0, .int .u64 0, .int .u64 0]) w9 := by go_simp
    refine bodyPost_ret (v := .tuple #[.agg #[.int .i64 0, .int .i64 0, .int .u64 0, .int .u64 0], .int .i64 (10 : Nat)]) ?_ rfl ⟨0, 0, 0, 0, by rw [HE.out]; rfl, hk9, fun h9 => by rw [HE.out] at h9; cases h9⟩
    rw [results_cell_tmp rfl]
    simp [asAddr, Result.andThen, hld]
  · have h24i : ¬ (n : Int) < 24 := by omega
    have h24d : decide ((n : Int) < 24) = false := decide_eq_false h24i
    have HL : Hid (24 ≤ n ∧ n ≤ 140737488355328) := ⟨by omega, hn⟩
    have hE0 : readE xs = if xs.take 4 ≠ magicN then 11 else if ownB xs ≠ crcP (xs.take 20) then 12 else if cntB xs < 1 ∨ 1024 < cntB xs ∨ cntB xs ≤ numB xs ∨ 268435456 < allB xs then 11 else 0 := by
      conv => lhs; unfold readE
      rw [if_neg (by omega)]
    have HE0 := Lib.hid hE0
    clear hn hlen h24 hE0
    go_enter Try.func33, Try.ntmps33
    go_upto_region 3 with fail
    rw [← hg]
    generalize w.alloc (.cells #[.int .i64 0, .int .i64 0, .int .u64 0, .int .u64 0] 56) = w2 at *
    have HB := Lib.hid hb0
    have HK := Lib.hid hk0
    clear hb0 hk0 hg
    have hN4 := (HN.out.grow HK.out).take 4 (by have := HL.out; omega)
    have hsl4 : ∀ w : World, (Instr.slice 24 (.slice A n c) none (some (.int .i64 4)) none).run Try.prog w = .ok (.slice A 4 c) w := fun w =>
      run_pre (P := Try.prog) (t := 24) Try.underlying24 rfl A n c 4 (by have := HN.out.cap; have := HL.out; omega) w
    have hcv := run_str_src (P := Try.prog) (w := w2) (xs := xs.take 4) Try.underlying24 Try.underlying5 Try.underlying9 hN4.src
    have hsi := str_inj (x := xs.take 4) (y := magicN) hN4.rng (fun x hx => by simp [magicN] at hx; rcases hx with rfl | rfl | rfl | rfl <;> exact ⟨by decide, by decide⟩)
    have hc4 : (4 : Int) ≤ (c : Int) := by have := HN.out.cap; have := HL.out; omega
    have hm4 : (strOfNums magicN).toList = [72, 86, 79, 76] := by rw [Lib.strOfNums_toList]; rfl
    rw [hm4] at hsi
    generalize strOfNums (xs.take 4) = X at *
    clear hN4 hm4
    by_cases hmg : xs.take 4 = magicN
    rotate_left
    · have HE : Hid (readE xs = 11) := by
        show readE xs = 11
        rw [HE0.out, if_pos hmg]
      rw [decide_eq_false hmg] at hsi
      clear hmg
      have hb := HB.out
      have z0 := blk_cell hb 0
      have z1 := blk_cell hb 1
      have z2 := blk_cell hb 2
      have z3 := blk_cell hb 3
      have f0 := blk_frozen hb 0
      have f1 := blk_frozen hb 1
      have f2 := blk_frozen hb 2
      have f3 := blk_frozen hb 3
      simp at z0 z1 z2 z3
      go_wp2_with fail
      have hb9 := blk_set (blk_set (blk_set (blk_set (hb) 0 (.int .i64 0)) 1 (.int .i64 0)) 2 (.int .u64 0)) 3 (.int .u64 0)
      have hk9 : Grow w ((((w2.setCell ⟨g, 0, none⟩ (.int .i64 0)).setCell ⟨g, 1, none⟩ (.int .i64 0)).setCell ⟨g, 2, none⟩ (.int .u64 0)).setCell ⟨g, 3, none⟩ (.int .u64 0)) := ((((HK.out.setCell (p := ⟨g, 0, none⟩) (fun h9 => by have := HGE.out; simp only at h9; omega) _).setCell (p := ⟨g, 1, none⟩) (fun h9 => by have := HGE.out; simp only at h9; omega) _).setCell (p := ⟨g, 2, none⟩) (fun h9 => by have := HGE.out; simp only at h9; omega) _).setCell (p := ⟨g, 3, none⟩) (fun h9 => by have := HGE.out; simp only at h9; omega) _)
      generalize ((((w2.setCell ⟨g, 0, none⟩ (.int .i64 0)).setCell ⟨g, 1, none⟩ (.int .i64 0)).setCell ⟨g, 2, none⟩ (.int .u64 0)).setCell ⟨g, 3, none⟩ (.int .u64 0)) = w9 at *
      clear z0 z1 z2 z3 f0 f1 f2 f3 hb
      have y0 := blk_cell hb9 0
      have y1 := blk_cell hb9 1
      have y2 := blk_cell hb9 2
      have y3 := blk_cell hb9 3
      simp at y0 y1 y2 y3
      have hld : (loadVar 56 ⟨g, 0, none⟩).run Try.prog w9 = .ok (.agg #[.int .i64 0, .int .i64 0, .int .u64 0, .int .u64 0]) w9 := by go_simp
      refine bodyPost_ret (v := .tuple #[.agg #[.int .i64 0, .int .i64 0, .int .u64 0, .int .u64 0], .int .i64 (11 : Nat)]) ?_ rfl ⟨0, 0, 0, 0, by rw [HE.out]; rfl, hk9, fun h9 => by rw [HE.out] at h9; cases h9⟩
      rw [results_cell_tmp rfl]
      simp [asAddr, Result.andThen, hld]
    · have hE1 := HE0.out
      rw [if_neg (by rw [hmg]; simp)] at hE1
      replace HE0 := Lib.hid hE1
      rw [decide_eq_true hmg] at hsi
      clear hmg hE1
      go_upto_region 5 with fail
      clear hsl4 hcv hsi
      have HR := HN.out.rng
      have HR2 := HN.out.len
      have ho := leV_sub HR 20 4 (by rw [HR2]; have := HL.out; omega)
      have h1 := leV_sub HR 4 2 (by rw [HR2]; have := HL.out; omega)
      have h2 := leV_sub HR 6 2 (by rw [HR2]; have := HL.out; omega)
      have h3 := leV_sub HR 8 8 (by rw [HR2]; have := HL.out; omega)
      have h4 := leV_sub HR 16 4 (by rw [HR2]; have := HL.out; omega)
      have L1 := Lib.hid (fun w' (k : Grow w w') => rread_is w' A n c 20 4 xs (HN.out.grow k) HL.out.2 (by decide) (by decide) (by have := HL.out; omega))
      have L2 := Lib.hid (fun w' (k : Grow w w') => rread_is w' A n c 4 2 xs (HN.out.grow k) HL.out.2 (by decide) (by decide) (by have := HL.out; omega))
      have L3 := Lib.hid (fun w' (k : Grow w w') => rread_is w' A n c 6 2 xs (HN.out.grow k) HL.out.2 (by decide) (by decide) (by have := HL.out; omega))
      have L4 := Lib.hid (fun w' (k : Grow w w') => rread_is w' A n c 8 8 xs (HN.out.grow k) HL.out.2 (by decide) (by decide) (by have := HL.out; omega))
      have L5 := Lib.hid (fun w' (k : Grow w w') => rread_is w' A n c 16 4 xs (HN.out.grow k) HL.out.2 (by decide) (by decide) (by have := HL.out; omega))
      have LC := Lib.hid (fun w' (k : Grow w w') => refCrc_is w' 0 A 20 c _ (by decide) (bs_of_nums ((HN.out.grow k).take 20 (by have := HL.out; omega))) (by decide))
      obtain ⟨own, hown⟩ : ∃ own, own = leV ((xs.drop 20).take 4) := ⟨_, rfl⟩
      obtain ⟨num, hnum⟩ : ∃ num, num = leV ((xs.drop 4).take 2) := ⟨_, rfl⟩
      obtain ⟨cnt, hcnt⟩ : ∃ cnt, cnt = leV ((xs.drop 6).take 2) := ⟨_, rfl⟩
      obtain ⟨all, hall⟩ : ∃ all, all = leV ((xs.drop 8).take 8) := ⟨_, rfl⟩
      obtain ⟨sum, hsum⟩ : ∃ sum, sum = leV ((xs.drop 16).take 4) := ⟨_, rfl⟩
      obtain ⟨S, hS⟩ : ∃ S, S = not32 (crcAll 3988292384 (not32 0) ((xs.take 20).map Int.toNat)) := ⟨_, rfl⟩
      rw [← hown] at ho L1
      rw [← hnum] at h1 L2
      rw [← hcnt] at h2 L3
      rw [← hall] at h3 L4
      rw [← hsum] at h4 L5
      rw [← hS] at LC
      have hSb : S < 4294967296 := by
        rw [hS]
        exact not32_lt _ (crcAll_lt _ (by decide) _ (bs_of_nums (HN.out.take 20 (by have := HL.out; omega))).2.1 _ (not32_lt 0 (by decide)))
      have hEE := HE0.out
      rw [show ownB xs = own from hown.symm, show numB xs = num from hnum.symm, show cntB xs = cnt from hcnt.symm, show allB xs = all from hall.symm, show crcP (xs.take 20) = S from hS.symm] at hEE
      replace HE0 := Lib.hid hEE
      have HV : Hid (num = numB xs ∧ cnt = cntB xs ∧ all = allB xs ∧ sum = sumB xs) := ⟨hnum, hcnt, hall, hsum⟩
      have hoi : (own : Int) < 4294967296 := by simp at ho; omega
      have hSi : (S : Int) < 4294967296 := by omega
      have h1i : (num : Int) < 65536 := by simp at h1; omega
      have h2i : (cnt : Int) < 65536 := by simp at h2; omega
      have h3i : (all : Int) < 18446744073709551616 := by simp at h3; omega
      have h4i : (sum : Int) < 4294967296 := by simp at h4; omega
      have hsl : ∀ w : World, (Instr.slice 24 (.slice A n c) none (some (.int .i64 20)) none).run Try.prog w = .ok (.slice A 20 c) w := fun w =>
        run_pre (P := Try.prog) (t := 24) Try.underlying24 rfl A n c 20 (by have := HN.out.cap; have := HL.out; omega) w
      clear hown hnum hcnt hall hsum hS HR HR2 ho h1 h2 h3 h4 hSb hEE
      go_wp2_with fail
      refine (L1.out w2 HK.out).mono ?_
      rintro x w4 ⟨rfl, k4⟩
      replace HB := Lib.hid (block_keep HB.out k4 (fun h => h))
      replace HK : Hid (Grow w w4) := Grow.trans _ _ _ HK.out k4
      clear k4 L1
      go_wp2_with fail
      refine (LC.out w4 HK.out).mono ?_
      rintro x w5 ⟨rfl, k5⟩
      replace k5 : Grow w4 w5 := by rw [k5]; exact Keeps.refl _ _
      replace HB := Lib.hid (block_keep HB.out k5 (fun h => h))
      replace HK : Hid (Grow w w5) := Grow.trans _ _ _ HK.out k5
      clear k5 LC hsl
      by_cases hos : own = S
      rotate_left
      · have HE : Hid (readE xs = 12) := by
          show readE xs = 12
          rw [HE0.out, if_pos hos]
        have e1 : ((own : Int) == (S : Int)) = false := by simp; omega
        have e2 : ¬ (own : Int) = (S : Int) := by omega
        have e3 : ((own : Int) != (S : Int)) = true := by simp; omega
        clear hos
        have hb := HB.out
        have z0 := blk_cell hb 0
        have z1 := blk_cell hb 1
        have z2 := blk_cell hb 2
        have z3 := blk_cell hb 3
        have f0 := blk_frozen hb 0
        have f1 := blk_frozen hb 1
        have f2 := blk_frozen hb 2
        have f3 := blk_frozen hb 3
        simp at z0 z1 z2 z3
        go_wp2_with fail
        have hb9 := blk_set (blk_set (blk_set (blk_set (hb) 0 (.int .i64 0)) 1 (.int .i64 0)) 2 (.int .u64 0)) 3 (.int .u64 0)
        have hk9 : Grow w ((((w5.setCell ⟨g, 0, none⟩ (.int .i64 0)).setCell ⟨g, 1, none⟩ (.int .i64 0)).setCell ⟨g, 2, none⟩ (.int .u64 0)).setCell ⟨g, 3, none⟩ (.int .u64 0)) := ((((HK.out.setCell (p := ⟨g, 0, none⟩) (fun h9 => by have := HGE.out; simp only at h9; omega) _).setCell (p := ⟨g, 1, none⟩) (fun h9 => by have := HGE.out; simp only at h9; omega) _).setCell (p := ⟨g, 2, none⟩) (fun h9 => by have := HGE.out; simp only at h9; omega) _).setCell (p := ⟨g, 3, none⟩) (fun h9 => by have := HGE.out; simp only at h9; omega) _)
        generalize ((((w5.setCell ⟨g, 0, none⟩ (.int .i64 0)).setCell ⟨g, 1, none⟩ (.int .i64 0)).setCell ⟨g, 2, none⟩ (.int .u64 0)).setCell ⟨g, 3, none⟩ (.int .u64 0)) = w9 at *
        clear z0 z1 z2 z3 f0 f1 f2 f3 hb
        have y0 := blk_cell hb9 0
        have y1 := blk_cell hb9 1
        have y2 := blk_cell hb9 2
        have y3 := blk_cell hb9 3
        simp at y0 y1 y2 y3
        have hld : (loadVar 56 ⟨g, 0, none⟩).run Try.prog w9 = .ok (.agg #[.int .i64 0, .int .i64 0, .int .u64 0, .int .u64 0]) w9 := by go_simp
        refine bodyPost_ret (v := .tuple #[.agg #[.int .i64 0, .int .i64 0, .int .u64 0, .int .u64 0], .int .i64 (12 : Nat)]) ?_ rfl ⟨0, 0, 0, 0, by rw [HE.out]; rfl, hk9, fun h9 => by rw [HE.out] at h9; cases h9⟩
        rw [results_cell_tmp rfl]
        simp [asAddr, Result.andThen, hld]
      · have hE2 := HE0.out
        rw [if_neg (by simp [hos])] at hE2
        replace HE0 := Lib.hid hE2
        subst hos
        clear hE2
        go_wp2_with fail
        refine (L2.out w5 HK.out).mono ?_
        rintro x w6 ⟨rfl, k6⟩
        replace HB := Lib.hid (block_keep HB.out k6 (fun h => h))
        replace HK : Hid (Grow w w6) := Grow.trans _ _ _ HK.out k6
        clear k6 L2
        go_wp2_with fail
        refine (L3.out w6 HK.out).mono ?_
        rintro x w7 ⟨rfl, k7⟩
        replace HB := Lib.hid (block_keep HB.out k7 (fun h => h))
        replace HK : Hid (Grow w w7) := Grow.trans _ _ _ HK.out k7
        clear k7 L3
        go_wp2_with fail
        refine (L4.out w7 HK.out).mono ?_
        rintro x w8 ⟨rfl, k8⟩
        replace HB := Lib.hid (block_keep HB.out k8 (fun h => h))
        replace HK : Hid (Grow w w8) := Grow.trans _ _ _ HK.out k8
        clear k8 L4
        go_wp2_with fail
        refine (L5.out w8 HK.out).mono ?_
        rintro x wa ⟨rfl, ka⟩
        replace HB := Lib.hid (block_keep HB.out ka (fun h => h))
        replace HK : Hid (Grow w wa) := Grow.trans _ _ _ HK.out ka
        clear ka L5
        by_cases hbad : cnt < 1 ∨ 1024 < cnt ∨ cnt ≤ num ∨ 268435456 < all
        · have HE : Hid (readE xs = 11) := by
            show readE xs = 11
            rw [HE0.out, if_pos hbad]
          have key : (decide ((cnt : Int) < 1) = true) ∨ (decide ((cnt : Int) < 1) = false ∧ decide ((1024 : Int) < (cnt : Int)) = true) ∨ (decide ((cnt : Int) < 1) = false ∧ decide ((1024 : Int) < (cnt : Int)) = false ∧ decide ((cnt : Int) ≤ (num : Int)) = true ∧ decide (cnt ≤ num) = true) ∨ (decide ((cnt : Int) < 1) = false ∧ decide ((1024 : Int) < (cnt : Int)) = false ∧ decide ((cnt : Int) ≤ (num : Int)) = false ∧ decide (cnt ≤ num) = false ∧ decide ((268435456 : Int) < (all : Int)) = true) := by
            simp only [decide_eq_true_eq, decide_eq_false_iff_not]
            omega
          clear hbad
          have hb := HB.out
          have z0 := blk_cell hb 0
          have z1 := blk_cell hb 1
          have z2 := blk_cell hb 2
          have z3 := blk_cell hb 3
          have f0 := blk_frozen hb 0
          have f1 := blk_frozen hb 1
          have f2 := blk_frozen hb 2
          have f3 := blk_frozen hb 3
          simp at z0 z1 z2 z3
          rcases key with e1 | ⟨e1, e2⟩ | ⟨e1, e2, e3, e3n⟩ | ⟨e1, e2, e3, e3n, e4⟩
          all_goals
            go_wp2_with fail
            have hb9 := blk_set (blk_set (blk_set (blk_set (hb) 0 (.int .i64 0)) 1 (.int .i64 0)) 2 (.int .u64 0)) 3 (.int .u64 0)
            have hk9 : Grow w ((((wa.setCell ⟨g, 0, none⟩ (.int .i64 0)).setCell ⟨g, 1, none⟩ (.int .i64 0)).setCell ⟨g, 2, none⟩ (.int .u64 0)).setCell ⟨g, 3, none⟩ (.int .u64 0)) := ((((HK.out.setCell (p := ⟨g, 0, none⟩) (fun h9 => by have := HGE.out; simp only at h9; omega) _).setCell (p := ⟨g, 1, none⟩) (fun h9 => by have := HGE.out; simp only at h9; omega) _).setCell (p := ⟨g, 2, none⟩) (fun h9 => by have := HGE.out; simp only at h9; omega) _).setCell (p := ⟨g, 3, none⟩) (fun h9 => by have := HGE.out; simp only at h9; omega) _)
            generalize ((((wa.setCell ⟨g, 0, none⟩ (.int .i64 0)).setCell ⟨g, 1, none⟩ (.int .i64 0)).setCell ⟨g, 2, none⟩ (.int .u64 0)).setCell ⟨g, 3, none⟩ (.int .u64 0)) = w9 at *
            clear z0 z1 z2 z3 f0 f1 f2 f3 hb
            have y0 := blk_cell hb9 0
            have y1 := blk_cell hb9 1
            have y2 := blk_cell hb9 2
            have y3 := blk_cell hb9 3
            simp at y0 y1 y2 y3
            have hld : (loadVar 56 ⟨g, 0, none⟩).run Try.prog w9 = .ok (.agg #[.int .i64 0, .int .i64 0, .int .u64 0, .int .u64 0]) w9 := by go_simp
            refine bodyPost_ret (v := .tuple #[.agg #[.int .i64 0, .int .i64 0, .int .u64 0, .int .u64 0], .int .i64 (11 : Nat)]) ?_ rfl ⟨0, 0, 0, 0, by rw [HE.out]; rfl, hk9, fun h9 => by rw [HE.out] at h9; cases h9⟩
            rw [results_cell_tmp rfl]
            simp [asAddr, Result.andThen, hld]
        · have HE : Hid (readE xs = 0) := by
            show readE xs = 0
            rw [HE0.out, if_neg hbad]
          have e1 : decide ((cnt : Int) < 1) = false := decide_eq_false (by omega)
          have e2 : decide ((1024 : Int) < (cnt : Int)) = false := decide_eq_false (by omega)
          have e3 : decide ((cnt : Int) ≤ (num : Int)) = false := decide_eq_false (by omega)
          have e3n : decide (cnt ≤ num) = false := decide_eq_false (by omega)
          have e4 : decide ((268435456 : Int) < (all : Int)) = false := decide_eq_false (by omega)
          have hali : (all : Int) ≤ 268435456 := by omega
          clear hbad
          have hb := HB.out
          have z0 := blk_cell hb 0
          have z1 := blk_cell hb 1
          have z2 := blk_cell hb 2
          have z3 := blk_cell hb 3
          have f0 := blk_frozen hb 0
          have f1 := blk_frozen hb 1
          have f2 := blk_frozen hb 2
          have f3 := blk_frozen hb 3
          simp at z0 z1 z2 z3
          go_wp2_with fail
          have hb9 := blk_set (blk_set (blk_set (blk_set (hb) 0 (.int .i64 (num : Nat))) 1 (.int .i64 (cnt : Nat))) 2 (.int .u64 (all : Nat))) 3 (.int .u64 (sum : Nat))
          have hk9 : Grow w ((((wa.setCell ⟨g, 0, none⟩ (.int .i64 (num : Nat))).setCell ⟨g, 1, none⟩ (.int .i64 (cnt : Nat))).setCell ⟨g, 2, none⟩ (.int .u64 (all : Nat))).setCell ⟨g, 3, none⟩ (.int .u64 (sum : Nat))) := ((((HK.out.setCell (p := ⟨g, 0, none⟩) (fun h9 => by have := HGE.out; simp only at h9; omega) _).setCell (p := ⟨g, 1, none⟩) (fun h9 => by have := HGE.out; simp only at h9; omega) _).setCell (p := ⟨g, 2, none⟩) (fun h9 => by have := HGE.out; simp only at h9; omega) _).setCell (p := ⟨g, 3, none⟩) (fun h9 => by have := HGE.out; simp only at h9; omega) _)
          generalize ((((wa.setCell ⟨g, 0, none⟩ (.int .i64 (num : Nat))).setCell ⟨g, 1, none⟩ (.int .i64 (cnt : Nat))).setCell ⟨g, 2, none⟩ (.int .u64 (all : Nat))).setCell ⟨g, 3, none⟩ (.int .u64 (sum : Nat))) = w9 at *
          clear z0 z1 z2 z3 f0 f1 f2 f3 hb
          have y0 := blk_cell hb9 0
          have y1 := blk_cell hb9 1
          have y2 := blk_cell hb9 2
          have y3 := blk_cell hb9 3
          simp at y0 y1 y2 y3
          have hld : (loadVar 56 ⟨g, 0, none⟩).run Try.prog w9 = .ok (.agg #[.int .i64 (num : Nat), .int .i64 (cnt : Nat), .int .u64 (all : Nat), .int .u64 (sum : Nat)]) w9 := by go_simp
          refine bodyPost_ret (v := .tuple #[.agg #[.int .i64 (num : Nat), .int .i64 (cnt : Nat), .int .u64 (all : Nat), .int .u64 (sum : Nat)], .int .i64 (0 : Nat)]) ?_ rfl ⟨num, cnt, all, sum, by rw [HE.out], hk9, fun _ => HV.out⟩
          rw [results_cell_tmp rfl]
          simp [asAddr, Result.andThen, hld]
end Go.Proofs.Ytnjdhkaabpmahaa
