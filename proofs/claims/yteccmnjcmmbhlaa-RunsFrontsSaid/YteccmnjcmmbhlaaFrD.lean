/- The document's has, front. -/
import Derived.Test.YteccmnjcmmbhlaaFrC
namespace Go.Proofs.Yteccmnjcmmbhlaa
open Go.RowKit
set_option linter.unusedVariables false
set_option linter.unusedSimpArgs false

theorem rhas_is (w : World) (A : Option Addr) (n c : Nat) (xs : List Int) (z : Int) (h : Nums .u8 w A n c xs) (hnb : n ≤ 1048576) (hz0 : 0 ≤ z) (hz1 : z < 256) :
    Calls Try.prog 40 #[.slice A n c, .int .u8 z] w fun e w' => e = .returned (.bool (decide (z ∈ xs))) ∧ w' = w := by
  have H := Lib.hid h
  obtain ⟨R, hR⟩ : ∃ R, R = decide (z ∈ xs) := ⟨_, rfl⟩
  rw [← hR]
  have HR := Lib.hid hR
  have hni : (n : Int) ≤ 1048576 := by omega
  clear h hR
  go_enter Try.func40, Try.ntmps40
  go_wp2_with fail
  go_loopw [5] (fun vi wr => ∃ (i : Nat), i ≤ n ∧ vi = .int .i64 (i : Nat) ∧ Hid (∀ j, j < i → xs.getD j 0 ≠ z) ∧ wr = w) (fun vi _ => n - (intOf vi).toNat)
  case atStart => exact ⟨0, Nat.zero_le _, by simp, fun j hj => by omega, rfl⟩
  case round =>
    obtain ⟨i, hi, rfl, HA, rfl⟩ := hrel
    by_cases hin : i < n
    · have hini : (i : Int) < (n : Int) := by omega
      obtain ⟨b, o, rfl, hcell⟩ := H.out.at_ (by omega)
      have ci := hcell i hin
      have hil : i < xs.length := by rw [H.out.len]; exact hin
      obtain ⟨y, hy⟩ : ∃ y, y = xs.getD i 0 := ⟨_, rfl⟩
      rw [← hy] at ci
      have HY := Lib.hid hy
      clear hcell hy
      by_cases hyz : y = z
      · have hR2 : R = true := by
          rw [HR.out, decide_eq_true_iff, ← hyz, HY.out, List.getD_eq_getElem?_getD, List.getElem?_eq_getElem hil]
          exact List.getElem_mem hil
        subst hR2
        subst hyz
        go_wp2_with fail
        go_ret
        exact ⟨rfl, rfl⟩
      · have hq1 : decide (y = z) = false := decide_eq_false hyz
        have HA2 : Hid (∀ j, j < i + 1 → xs.getD j 0 ≠ z) := fun j hj => by
          rcases Nat.lt_or_ge j i with h9 | h9
          · exact HA.out j h9
          · have : j = i := by omega
            subst this
            rw [← HY.out]; exact hyz
        go_wp2_with fail
        go_roundw
        case rel => exact ⟨i + 1, by omega, by go_num, HA2.out, trivial⟩
        case measure => simp [intOf]; omega
    · have hR2 : R = false := by
        rw [HR.out, decide_eq_false_iff_not]
        intro hm
        obtain ⟨j, hj, he⟩ := List.getElem_of_mem hm
        have h9 := HA.out j (by rw [H.out.len] at hj; omega)
        rw [List.getD_eq_getElem?_getD, List.getElem?_eq_getElem hj] at h9
        exact h9 he
      subst hR2
      go_wp2_with fail
      go_ret
      exact ⟨rfl, rfl⟩
theorem hyB (B : Nat) (x : Int) : Hv.Hyp2 Grow Grow (fun _ v w' => ∃ b, v = .slice (some ⟨b, 0, none⟩) 1 1 ∧ B ≤ b ∧ w'.heap[b]? = some (.cells #[.int .u8 x] 5 (0, 0))) :=
  ⟨Keeps.refl _, fun _ _ _ h k => Keeps.trans h k fun _ _ h => h, fun _ v w1 w2 h q => by
      obtain ⟨b, hv, hg, hh⟩ := h
      exact ⟨b, hv, hg, block_keep hh q fun h => h⟩,
    Keeps.refl _, fun _ _ _ h k => Keeps.trans h k fun _ _ h => h, fun _ _ h => h⟩
set_option maxRecDepth 4000 in
set_option maxHeartbeats 2000000 in
theorem rfront_is (w : World) (A : Option Addr) (n c k : Nat) (l : List Int) (h : Nums .u8 w A n c l) (hnb : n ≤ 1048576) (hk : k < n) :
    Calls Try.prog 41 #[.slice A n c, .int .i64 (k : Nat)] w fun e w' => ∃ A' c', e = .returned (.slice A' n c') ∧ w'.ownsRow w.heap.size 5 1 (.slice A' n c') n ((takeP l k).map (Value.int .u8)) ∧ Grow w w' := by
  have hcap := h.cap
  have hki : (k : Int) < (n : Int) := by omega
  have hni : (n : Int) ≤ 1048576 := by omega
  have HL := Lib.hid h.len
  have H1 := Lib.hid (h.take k (by omega))
  have H3 := Lib.hid (h.drop (k + 1) (by omega))
  obtain ⟨b, o, rfl, hcell⟩ := h.at_ (by omega)
  have ck := hcell k hk
  obtain ⟨x, hx⟩ : ∃ x, x = l.getD k 0 := ⟨_, rfl⟩
  rw [← hx] at ck
  have HX := Lib.hid hx
  have hs1 : ∀ w7 : World, (Instr.slice 22 (.slice (some ⟨b, o, none⟩) n c) none (some (.int .i64 (k : Nat))) none).run Try.prog w7 = .ok (.slice (some ⟨b, o, none⟩) k c) w7 := fun w7 => run_pre Try.underlying22 (P := Try.prog) rfl (some ⟨b, o, none⟩) n c k (by omega) w7
  have hs3 : ∀ w7 : World, (Instr.slice 22 (.slice (some ⟨b, o, none⟩) n c) (some (.int .i64 ((k : Int) + 1))) none none).run Try.prog w7 = .ok (.slice (Nums.off (some ⟨b, o, none⟩) c (k + 1)) (n - (k + 1)) (c - (k + 1))) w7 := fun w7 => run_post Try.underlying22 (P := Try.prog) rfl rfl (some ⟨b, o, none⟩) n c (k + 1) (by omega) w7
  clear h hcell hx
  go_enter Try.func41, Try.ntmps41
  go_upto_region 1 with fail
  refine Hv.wp_region_hav2 Grow Grow (fun _ v w' => ∃ b, v = .slice (some ⟨b, 0, none⟩) 1 1 ∧ w.heap.size ≤ b ∧ w'.heap[b]? = some (.cells #[.int .u8 x] 5 (0, 0))) (hyB w.heap.size x) [3, 7] [4, 1008] [(0, [0, 1, 2, 5, 6]), (1, [3]), (1, [7]), (3, [4]), (4, [8]), (0, [9])] [(0, 0, [?o0, ?o1, ?o2, ?o5, ?o6]), (1, 3, [?o3]), (1, 7, [?o7]), (3, 4, [?o4]), (4, 8, [?o8]), (0, 9, [?o9])] [?o0, ?o1, ?o2, ?o3, ?o4, ?o5, ?o6, ?o7, ?o8, ?o9] (by kernel_rfl) (by kernel_rfl) (by kernel_rfl) ?_
  have H1d := Lib.hid (show Nums .u8 w.drew (some ⟨b, o, none⟩) k c (l.take k) from H1.out.grow ((Keeps.refl _ w).drew))
  have KD : Grow w.drew w.drew := Keeps.refl _ _
  have K0 : Hid (Grow w w.drew) := (Keeps.refl _ w).drew
  have HC : Hid (∀ w7, Grow w.drew w7 → w7.cell? ⟨b, o + k, none⟩ = some (.int .u8 x)) := fun w7 h7 => by
    have h9 := (H1.out.grow (Keeps.trans K0.out h7 fun _ _ h => h))
    have hlt := World.block_lt_of_cell? w _ ck
    have h8 := h7.block b (by simpa using hlt) (fun h => h)
    have h6 : w.drew.cell? ⟨b, o + k, none⟩ = some (.int .u8 x) := ck
    simp only [World.cell?] at h6 ⊢
    rw [h8]
    exact h6
  have hsz : w.drew.heap.size = w.heap.size := rfl
  clear ck
  generalize w.drew = wd at *
  refine Hv.seg_calm ?_
  go_wp2_with fail
  refine Hv.seg_held (by kernel_rfl) (.int .u8 x) (fun w7 hk7 => ?_) ?_
  · have c7 := HC.out w7 hk7
    go_simp
  refine Hv.seg_held (by kernel_rfl) (.slice (some ⟨b, o, none⟩) k c) (fun w7 hk7 => ?_) ?_
  · go_simp
  refine Hv.seg_free (by kernel_rfl) KD ⟨10, rfl, by simp [Act.put]⟩ (fun w4 q4 => ?_) (fun v w4 q4 hV => ?_)
  · go_wp2_with fail
    exact ⟨_, rfl, (Keeps.refl _ _).alloc _, w4.heap.size, rfl, by have := q4.size; omega, heap_alloc_new _ _⟩
  obtain ⟨bn, rfl, hbn, hh⟩ := hV
  have HO4 : Hid (w4.ownsRow w.heap.size 5 1 (.slice (some ⟨bn, 0, none⟩) 1 1) 1 [.int .u8 x]) := ⟨rfl, .inr ⟨bn, 1, #[.int .u8 x], rfl, hbn, hh, Nat.le_refl _, by unfold maxLen; decide, rfl, rfl⟩⟩
  have HG4 : Hid (Grow w w4) := Keeps.trans K0.out q4 fun _ _ h => h
  have HN4 := Lib.hid (H1d.out.grow q4)
  have HZ4 := Lib.hid (show w.heap.size ≤ w4.heap.size from HG4.out.size)
  clear q4 KD hh hbn HC
  refine Hv.seg_last ?_
  go_wp2_with (at_builtin; refine wpList_appS rfl (.tmp 10) (.tmp 13) 22 5 rfl Try.underlying22 Try.infoU8b rfl (by decide) w.heap.size _ 1 _ rfl HO4.out HZ4.out (some ⟨b, o, none⟩) k c _ rfl HN4.out.src (by unfold maxLen; omega) (by omega) ?_)
  intro A5 c5 w5 ho5 hk5 hm5
  have HO5 := Lib.hid ho5
  have HG5 : Hid (Grow w w5) := Keeps.trans HG4.out hk5 fun i hi e => by have := own_ge HO4.out i e; omega
  have HN5 := Lib.hid (H3.out.grow HG5.out)
  clear ho5 hk5 hm5 HO4 HG4 HN4
  go_wp2_with fail
  refine Hv.seg_calm ?_
  go_wp2_with fail
  refine Hv.seg_end ⟨by kernel_rfl, ?_⟩
  have HZ5 := Lib.hid (show w.heap.size ≤ w5.heap.size from HG5.out.size)
  go_wp2_with (at_builtin; refine wpList_appS rfl (.tmp 15) (.tmp 19) 22 5 rfl Try.underlying22 Try.infoU8b rfl (by decide) w.heap.size _ (1 + k) _ rfl HO5.out HZ5.out (Nums.off (some ⟨b, o, none⟩) c (k + 1)) (n - (k + 1)) (c - (k + 1)) _ rfl HN5.out.src (by unfold maxLen; omega) (by omega) ?_)
  intro A6 c6 w6 ho6 hk6 hm6
  have HO6 : Hid (w6.ownsRow w.heap.size 5 1 (.slice A6 n c6) n ((takeP l k).map (Value.int .u8))) := by
    show World.ownsRow _ _ _ _ _ _ _
    have e1 : 1 + k + (n - (k + 1)) = n := by omega
    rw [e1] at ho6
    unfold takeP
    rw [← HX.out, List.map_cons, List.map_append, List.map_take, List.map_drop]
    exact ho6
  have e1 : 1 + k + (n - (k + 1)) = n := by omega
  have HG6 : Hid (Grow w w6) := Keeps.trans HG5.out hk6 fun i hi e => by have := own_ge HO5.out i e; omega
  clear ho6 hk6 hm6 HO5 HG5 HN5
  rw [e1]
  go_wp2_with fail
  go_ret
  exact ⟨A6, c6, rfl, HO6.out, HG6.out⟩
end Go.Proofs.Yteccmnjcmmbhlaa
