/- What InflateKnows asks: the lengths, the distances, the fixed code, the order. -/
import Derived.Test.YtoeapobpdfidkaaConI
import Derived.Test.YtoeapobpdfidkaaRpI
import Derived.Test.YtoeapobpdfidkaaSp07
namespace Go.Proofs.Ytoeapobpdfidkaa
open Go.RowKit
set_option linter.unusedVariables false
set_option linter.unusedSimpArgs false

def lenR (s : Int) : Int × Int × Int :=
  if s < 257 ∨ 285 < s then (0, 0, 2) else if s < 265 then (3 + (s - 257), 0, 0) else if s = 285 then (258, 0, 0)
  else (3 + (4 + (s - 257) % 4) * 2 ^ ((s - 257) / 4 - 1).toNat, (s - 257) / 4 - 1, 0)
def dstR (s : Int) : Int × Int × Int :=
  if s < 0 ∨ 29 < s then (0, 0, 2) else if s < 4 then (1 + s, 0, 0) else (1 + (2 + s % 2) * 2 ^ (s / 2 - 1).toNat, s / 2 - 1, 0)
def trip (t : Int × Int × Int) : Value := .tuple #[.int .i64 t.1, .int .i64 t.2.1, .int .i64 t.2.2]
theorem lenR_out {s : Int} (h : s < 257 ∨ 285 < s) : lenR s = (0, 0, 2) := if_pos h
theorem dstR_out {s : Int} (h : s < 0 ∨ 29 < s) : dstR s = (0, 0, 2) := if_pos h
theorem of29 {P : Nat → Prop} (k : Nat) (hk : k < 29) (h : ∀ j, j < 29 → P j) : P k := h k hk

set_option maxRecDepth 8000 in
set_option maxHeartbeats 4000000 in
theorem lengthOf_is (w : World) (s : Int) (hs : inKind .i64 s) : Calls Try.prog 22 #[.int .i64 s] w fun e w' => e = .returned (trip (lenR s)) ∧ w = w' := by
  have hs := inKind_i64 hs
  by_cases h : s < 257 ∨ 285 < s
  · rw [lenR_out h]
    rcases h with h | h
    · go_enter Try.func22, Try.ntmps22
      go_wp2_with fail
      go_ret3
      exact ⟨rfl, rfl⟩
    · go_enter Try.func22, Try.ntmps22
      go_wp2_with fail
      go_ret3
      exact ⟨rfl, rfl⟩
  · clear hs
    rcases (show s = 257 ∨ s = 258 ∨ s = 259 ∨ s = 260 ∨ s = 261 ∨ s = 262 ∨ s = 263 ∨ s = 264 ∨ s = 265 ∨ s = 266 ∨ s = 267 ∨ s = 268 ∨ s = 269 ∨ s = 270 ∨ s = 271 ∨ s = 272 ∨ s = 273 ∨ s = 274 ∨ s = 275 ∨ s = 276 ∨ s = 277 ∨ s = 278 ∨ s = 279 ∨ s = 280 ∨ s = 281 ∨ s = 282 ∨ s = 283 ∨ s = 284 ∨ s = 285 by omega) with rfl | rfl | rfl | rfl | rfl | rfl | rfl | rfl | rfl | rfl | rfl | rfl | rfl | rfl | rfl | rfl | rfl | rfl | rfl | rfl | rfl | rfl | rfl | rfl | rfl | rfl | rfl | rfl | rfl
    all_goals
      go_enter Try.func22, Try.ntmps22
      go_wp2_with fail
      go_ret3
      exact ⟨rfl, rfl⟩
set_option maxRecDepth 8000 in
set_option maxHeartbeats 4000000 in
theorem refLengthOf_is (w : World) (s : Int) (hs : inKind .i64 s) : Calls Try.prog 23 #[.int .i64 s] w fun e w' => e = .returned (trip (lenR s)) ∧ w = w' := by
  have hs := inKind_i64 hs
  by_cases h : s < 257 ∨ 285 < s
  · rw [lenR_out h]
    rcases h with h | h
    · go_enter Try.func23, Try.ntmps23
      go_wp2_with fail
      go_ret3
      exact ⟨rfl, rfl⟩
    · go_enter Try.func23, Try.ntmps23
      go_wp2_with fail
      go_ret3
      exact ⟨rfl, rfl⟩
  · clear hs
    rcases (show s = 257 ∨ s = 258 ∨ s = 259 ∨ s = 260 ∨ s = 261 ∨ s = 262 ∨ s = 263 ∨ s = 264 ∨ s = 265 ∨ s = 266 ∨ s = 267 ∨ s = 268 ∨ s = 269 ∨ s = 270 ∨ s = 271 ∨ s = 272 ∨ s = 273 ∨ s = 274 ∨ s = 275 ∨ s = 276 ∨ s = 277 ∨ s = 278 ∨ s = 279 ∨ s = 280 ∨ s = 281 ∨ s = 282 ∨ s = 283 ∨ s = 284 ∨ s = 285 by omega) with rfl | rfl | rfl | rfl | rfl | rfl | rfl | rfl | rfl | rfl | rfl | rfl | rfl | rfl | rfl | rfl | rfl | rfl | rfl | rfl | rfl | rfl | rfl | rfl | rfl | rfl | rfl | rfl | rfl
    all_goals
      go_enter Try.func23, Try.ntmps23
      go_wp2_with fail
      go_ret3
      exact ⟨rfl, rfl⟩
set_option maxRecDepth 8000 in
set_option maxHeartbeats 4000000 in
theorem distanceOf_is (w : World) (s : Int) (hs : inKind .i64 s) : Calls Try.prog 24 #[.int .i64 s] w fun e w' => e = .returned (trip (dstR s)) ∧ w = w' := by
  have hs := inKind_i64 hs
  by_cases h : s < 0 ∨ 29 < s
  · rw [dstR_out h]
    rcases h with h | h
    · go_enter Try.func24, Try.ntmps24
      go_wp2_with fail
      go_ret3
      exact ⟨rfl, rfl⟩
    · go_enter Try.func24, Try.ntmps24
      go_wp2_with fail
      go_ret3
      exact ⟨rfl, rfl⟩
  · clear hs
    rcases (show s = 0 ∨ s = 1 ∨ s = 2 ∨ s = 3 ∨ s = 4 ∨ s = 5 ∨ s = 6 ∨ s = 7 ∨ s = 8 ∨ s = 9 ∨ s = 10 ∨ s = 11 ∨ s = 12 ∨ s = 13 ∨ s = 14 ∨ s = 15 ∨ s = 16 ∨ s = 17 ∨ s = 18 ∨ s = 19 ∨ s = 20 ∨ s = 21 ∨ s = 22 ∨ s = 23 ∨ s = 24 ∨ s = 25 ∨ s = 26 ∨ s = 27 ∨ s = 28 ∨ s = 29 by omega) with rfl | rfl | rfl | rfl | rfl | rfl | rfl | rfl | rfl | rfl | rfl | rfl | rfl | rfl | rfl | rfl | rfl | rfl | rfl | rfl | rfl | rfl | rfl | rfl | rfl | rfl | rfl | rfl | rfl | rfl
    all_goals
      go_enter Try.func24, Try.ntmps24
      go_wp2_with fail
      go_ret3
      exact ⟨rfl, rfl⟩
set_option maxRecDepth 8000 in
set_option maxHeartbeats 4000000 in
theorem refDistanceOf_is (w : World) (s : Int) (hs : inKind .i64 s) : Calls Try.prog 25 #[.int .i64 s] w fun e w' => e = .returned (trip (dstR s)) ∧ w = w' := by
  have hs := inKind_i64 hs
  by_cases h : s < 0 ∨ 29 < s
  · rw [dstR_out h]
    rcases h with h | h
    · go_enter Try.func25, Try.ntmps25
      go_wp2_with fail
      go_ret3
      exact ⟨rfl, rfl⟩
    · go_enter Try.func25, Try.ntmps25
      go_wp2_with fail
      go_ret3
      exact ⟨rfl, rfl⟩
  · clear hs
    rcases (show s = 0 ∨ s = 1 ∨ s = 2 ∨ s = 3 ∨ s = 4 ∨ s = 5 ∨ s = 6 ∨ s = 7 ∨ s = 8 ∨ s = 9 ∨ s = 10 ∨ s = 11 ∨ s = 12 ∨ s = 13 ∨ s = 14 ∨ s = 15 ∨ s = 16 ∨ s = 17 ∨ s = 18 ∨ s = 19 ∨ s = 20 ∨ s = 21 ∨ s = 22 ∨ s = 23 ∨ s = 24 ∨ s = 25 ∨ s = 26 ∨ s = 27 ∨ s = 28 ∨ s = 29 by omega) with rfl | rfl | rfl | rfl | rfl | rfl | rfl | rfl | rfl | rfl | rfl | rfl | rfl | rfl | rfl | rfl | rfl | rfl | rfl | rfl | rfl | rfl | rfl | rfl | rfl | rfl | rfl | rfl | rfl | rfl
    all_goals
      go_enter Try.func25, Try.ntmps25
      go_wp2_with fail
      go_ret3
      exact ⟨rfl, rfl⟩
theorem nums1_ci {k : IntKind} {w : World} {b : Nat} {x : Int} {e : TypeId} (h : w.heap[b]? = some (.cells #[.int k x] e (0, 0))) (hx : inKind k x) : Nums k w (some ⟨b, 0, none⟩) 1 1 [x] :=
  ⟨rfl, fun y hy => by rw [List.mem_singleton.1 hy]; exact hx, Nat.le_refl _, (fun h => nomatch h), fun _ => ⟨b, 0, rfl, fun j hj => by
    obtain rfl : j = 0 := by omega
    simpa using blk_cell h 0⟩⟩
/-- The fixed code's lengths. -/
def fixL : List Int := List.replicate 144 8 ++ List.replicate 112 9 ++ List.replicate 24 7 ++ List.replicate 8 8
def fixAt (i : Nat) : Int := if 144 ≤ i ∧ i < 256 then 9 else if 256 ≤ i ∧ i < 280 then 7 else 8
theorem fixL_take (i : Nat) (h : i < 288) : fixL.take i ++ [fixAt i] = fixL.take (i + 1) := by
  have hall : (List.range 288).all (fun j => fixL[j]? == some (fixAt j)) = true := by kernel_rfl
  have h1 : fixL[i]? = some (fixAt i) := by
    have h9 := List.all_eq_true.1 hall i (List.mem_range.2 h)
    simpa using h9
  obtain ⟨h2, h3⟩ := List.getElem?_eq_some_iff.1 h1
  rw [List.take_succ_eq_append_getElem h2, h3]
theorem fixL_len : fixL.length = 288 := by simp only [fixL, List.length_append, List.length_replicate]

set_option maxRecDepth 8000 in
set_option maxHeartbeats 1000000 in
theorem refFixed_is (w : World) : Calls Try.prog 28 #[] w fun e w' => ∃ A c, e = .returned (.slice A 288 c) ∧ w'.ownsRow w.heap.size 3 1 (.slice A 288 c) 288 (fixL.map (Value.int .i64)) ∧ Grow w w' := by
  go_enter Try.func28, Try.ntmps28
  go_wp2_with fail
  go_loopw [1, 2] (fun vo vi wr => ∃ i : Nat, i ≤ 288 ∧ vi = .int .i64 i ∧ Hid (wr.ownsRow w.heap.size 3 1 vo i ((fixL.take i).map (Value.int .i64))) ∧ Hid (Grow w wr)) (fun _ vi _ => 288 - (intOf vi).toNat)
  case atStart => exact ⟨0, by omega, rfl, own_nil _ _ _, Keeps.refl _ _⟩
  case round =>
    obtain ⟨i, hi, rfl, HO, HG⟩ := hrel
    obtain ⟨A2, c2, rfl⟩ := rowf_ci HO.out
    have hsz : w.heap.size ≤ wr.heap.size := HG.out.size
    by_cases hin : i < 288
    · have HT := Lib.hid (fixL_take i hin)
      have hv : fixAt i = if 144 ≤ i ∧ i < 256 then 9 else if 256 ≤ i ∧ i < 280 then 7 else 8 := rfl
      rcases (show i < 144 ∨ (144 ≤ i ∧ i < 256) ∨ (256 ≤ i ∧ i < 280) ∨ 280 ≤ i by omega) with h | ⟨h, h'⟩ | ⟨h, h'⟩ | h
      · have HV : Hid (fixAt i = 8) := by show _ = _; rw [hv, if_neg (by omega), if_neg (by omega)]
        clear hv
        rw [HV.out] at HT
        go_wp2_with (at_builtin; refine wpList_app1 rfl (.tmp 20) (.tmp 22) 39 3 rfl Try.underlying39 Try.info_ci rfl w.heap.size _ i _ rfl HO.out hsz rfl rfl (by unfold maxLen; omega) (by omega) ?_)
        intro g cap w3 ho3 hk3 _
        have HO3 : Hid (w3.ownsRow w.heap.size 3 1 (.slice (some ⟨g, 0, none⟩) (i + 1) cap) (i + 1) ((fixL.take (i + 1)).map (Value.int .i64))) := by
          show World.ownsRow _ _ _ _ _ _ _
          rw [← HT.out, List.map_append, List.map_take]
          exact ho3
        have HG3 := Lib.hid (grow_own HG.out HO.out (Nat.le_refl _) hk3)
        clear ho3 hk3
        go_wp2_with fail
        go_roundw
        case rel => exact ⟨i + 1, by omega, by go_num, HO3.out, HG3.out⟩
        case measure => simp [intOf]; omega
      · have HV : Hid (fixAt i = 9) := by show _ = _; rw [hv, if_pos ⟨h, h'⟩]
        clear hv
        rw [HV.out] at HT
        go_wp2_with (at_builtin; refine wpList_app1 rfl (.tmp 20) (.tmp 22) 39 3 rfl Try.underlying39 Try.info_ci rfl w.heap.size _ i _ rfl HO.out hsz rfl rfl (by unfold maxLen; omega) (by omega) ?_)
        intro g cap w3 ho3 hk3 _
        have HO3 : Hid (w3.ownsRow w.heap.size 3 1 (.slice (some ⟨g, 0, none⟩) (i + 1) cap) (i + 1) ((fixL.take (i + 1)).map (Value.int .i64))) := by
          show World.ownsRow _ _ _ _ _ _ _
          rw [← HT.out, List.map_append, List.map_take]
          exact ho3
        have HG3 := Lib.hid (grow_own HG.out HO.out (Nat.le_refl _) hk3)
        clear ho3 hk3
        go_wp2_with fail
        go_roundw
        case rel => exact ⟨i + 1, by omega, by go_num, HO3.out, HG3.out⟩
        case measure => simp [intOf]; omega
      · have HV : Hid (fixAt i = 7) := by show _ = _; rw [hv, if_neg (by omega), if_pos ⟨h, h'⟩]
        clear hv
        rw [HV.out] at HT
        go_wp2_with (at_builtin; refine wpList_app1 rfl (.tmp 20) (.tmp 22) 39 3 rfl Try.underlying39 Try.info_ci rfl w.heap.size _ i _ rfl HO.out hsz rfl rfl (by unfold maxLen; omega) (by omega) ?_)
        intro g cap w3 ho3 hk3 _
        have HO3 : Hid (w3.ownsRow w.heap.size 3 1 (.slice (some ⟨g, 0, none⟩) (i + 1) cap) (i + 1) ((fixL.take (i + 1)).map (Value.int .i64))) := by
          show World.ownsRow _ _ _ _ _ _ _
          rw [← HT.out, List.map_append, List.map_take]
          exact ho3
        have HG3 := Lib.hid (grow_own HG.out HO.out (Nat.le_refl _) hk3)
        clear ho3 hk3
        go_wp2_with fail
        go_roundw
        case rel => exact ⟨i + 1, by omega, by go_num, HO3.out, HG3.out⟩
        case measure => simp [intOf]; omega
      · have HV : Hid (fixAt i = 8) := by show _ = _; rw [hv, if_neg (by omega), if_neg (by omega)]
        clear hv
        rw [HV.out] at HT
        go_wp2_with (at_builtin; refine wpList_app1 rfl (.tmp 20) (.tmp 22) 39 3 rfl Try.underlying39 Try.info_ci rfl w.heap.size _ i _ rfl HO.out hsz rfl rfl (by unfold maxLen; omega) (by omega) ?_)
        intro g cap w3 ho3 hk3 _
        have HO3 : Hid (w3.ownsRow w.heap.size 3 1 (.slice (some ⟨g, 0, none⟩) (i + 1) cap) (i + 1) ((fixL.take (i + 1)).map (Value.int .i64))) := by
          show World.ownsRow _ _ _ _ _ _ _
          rw [← HT.out, List.map_append, List.map_take]
          exact ho3
        have HG3 := Lib.hid (grow_own HG.out HO.out (Nat.le_refl _) hk3)
        clear ho3 hk3
        go_wp2_with fail
        go_roundw
        case rel => exact ⟨i + 1, by omega, by go_num, HO3.out, HG3.out⟩
        case measure => simp [intOf]; omega
    · obtain rfl : i = 288 := by omega
      go_wp2_with fail
      go_ret
      have h9 := HO.out
      rw [List.take_of_length_le (by rw [fixL_len]; exact Nat.le_refl _)] at h9
      exact ⟨A2, c2, rfl, h9, HG.out⟩

set_option maxRecDepth 8000 in
set_option maxHeartbeats 1000000 in
theorem fixed_is (w : World) : Calls Try.prog 27 #[] w fun e w' => ∃ A c, e = .returned (.slice A 288 c) ∧ w'.ownsRow w.heap.size 3 1 (.slice A 288 c) 288 (fixL.map (Value.int .i64)) ∧ Grow w w' := by
  go_enter Try.func27, Try.ntmps27
  go_wp2_with fail
  refine (rpI_is (w.alloc (.cells #[.int .i64 8] 3)) (some ⟨w.heap.size, 0, none⟩) 1 144 8 (nums1_ci (heap_alloc_new _ _) ⟨by decide, by decide⟩) (by omega)).mono ?_
  rintro e w1 ⟨rfl, ho1, hg1⟩
  obtain ⟨g1, hgg1⟩ : ∃ g1, g1 = (w.alloc (.cells #[.int .i64 8] 3)).heap.size := ⟨_, rfl⟩
  rw [← hgg1] at ho1 ⊢
  have HO1 := Lib.hid ho1
  have HR1 : Hid (Grow w w1) := Grow.trans _ _ _ ((Keeps.refl (fun _ => False) w).alloc _) hg1
  clear ho1 hg1 hgg1
  go_wp2_with fail
  refine (rpI_is (w1.alloc (.cells #[.int .i64 9] 3)) (some ⟨w1.heap.size, 0, none⟩) 1 112 9 (nums1_ci (heap_alloc_new _ _) ⟨by decide, by decide⟩) (by omega)).mono ?_
  rintro e w2 ⟨rfl, ho2, hg2⟩
  obtain ⟨g2, hgg2⟩ : ∃ g2, g2 = (w1.alloc (.cells #[.int .i64 9] 3)).heap.size := ⟨_, rfl⟩
  rw [← hgg2] at ho2 ⊢
  have HO2 := Lib.hid ho2
  have HR2 : Hid (Grow w1 w2) := Grow.trans _ _ _ ((Keeps.refl (fun _ => False) w1).alloc _) hg2
  clear ho2 hg2 hgg2
  go_wp2_with fail
  refine (rpI_is (w2.alloc (.cells #[.int .i64 7] 3)) (some ⟨w2.heap.size, 0, none⟩) 1 24 7 (nums1_ci (heap_alloc_new _ _) ⟨by decide, by decide⟩) (by omega)).mono ?_
  rintro e w3 ⟨rfl, ho3, hg3⟩
  obtain ⟨g3, hgg3⟩ : ∃ g3, g3 = (w2.alloc (.cells #[.int .i64 7] 3)).heap.size := ⟨_, rfl⟩
  rw [← hgg3] at ho3 ⊢
  have HO3 := Lib.hid ho3
  have HR3 : Hid (Grow w2 w3) := Grow.trans _ _ _ ((Keeps.refl (fun _ => False) w2).alloc _) hg3
  clear ho3 hg3 hgg3
  go_wp2_with fail
  refine (rpI_is (w3.alloc (.cells #[.int .i64 8] 3)) (some ⟨w3.heap.size, 0, none⟩) 1 8 8 (nums1_ci (heap_alloc_new _ _) ⟨by decide, by decide⟩) (by omega)).mono ?_
  rintro e w4 ⟨rfl, ho4, hg4⟩
  obtain ⟨g4, hgg4⟩ : ∃ g4, g4 = (w3.alloc (.cells #[.int .i64 8] 3)).heap.size := ⟨_, rfl⟩
  rw [← hgg4] at ho4 ⊢
  have HO4 := Lib.hid ho4
  have HR4 : Hid (Grow w3 w4) := Grow.trans _ _ _ ((Keeps.refl (fun _ => False) w3).alloc _) hg4
  clear ho4 hg4 hgg4
  have HQ4 : Hid (Grow w3 w4) := HR4.out
  have HQ3 : Hid (Grow w2 w4) := Grow.trans _ _ _ HR3.out HR4.out
  have HQ2 : Hid (Grow w1 w4) := Grow.trans _ _ _ HR2.out HQ3.out
  have HG4 : Grow w w4 := Grow.trans _ _ _ HR1.out HQ2.out
  go_wp2_with fail
  have HF : Hid (Grow w w4) := HG4
  have hcon := concat_ci (w4.alloc (.cells #[.slice (some ⟨g1, 0, none⟩) 144 144, .slice (some ⟨g2, 0, none⟩) 112 112, .slice (some ⟨g3, 0, none⟩) 24 24, .slice (some ⟨g4, 0, none⟩) 8 8] 39)) w4.heap.size 4 4
    [(some ⟨g1, 0, none⟩, 144, 144, (List.replicate 144 (8 : Int)).map (Value.int .i64)), (some ⟨g2, 0, none⟩, 112, 112, (List.replicate 112 (9 : Int)).map (Value.int .i64)), (some ⟨g3, 0, none⟩, 24, 24, (List.replicate 24 (7 : Int)).map (Value.int .i64)), (some ⟨g4, 0, none⟩, 8, 8, (List.replicate 8 (8 : Int)).map (Value.int .i64))]
    rfl (fun j r hr => by
      match j, hr with
      | 0, hr => injection hr with hr; subst hr; exact blk_cell (heap_alloc_new _ _) 0
      | 1, hr => injection hr with hr; subst hr; exact blk_cell (heap_alloc_new _ _) 1
      | 2, hr => injection hr with hr; subst hr; exact blk_cell (heap_alloc_new _ _) 2
      | 3, hr => injection hr with hr; subst hr; exact blk_cell (heap_alloc_new _ _) 3)
    (fun r hr => by
      have hA : Grow w4 (w4.alloc (.cells #[.slice (some ⟨g1, 0, none⟩) 144 144, .slice (some ⟨g2, 0, none⟩) 112 112, .slice (some ⟨g3, 0, none⟩) 24 24, .slice (some ⟨g4, 0, none⟩) 8 8] 39)) := (Keeps.refl _ w4).alloc _
      simp only [List.mem_cons, List.not_mem_nil, or_false] at hr
      rcases hr with rfl | rfl | rfl | rfl
      · exact src_grow_ci (src_own (owns_keep HO1.out (Grow.trans _ _ _ HQ2.out hA) fun _ _ h => h) (fun u hu => by obtain ⟨y, _, rfl⟩ := List.mem_map.1 hu; rfl)) (Keeps.refl _ _)
      · exact src_grow_ci (src_own (owns_keep HO2.out (Grow.trans _ _ _ HQ3.out hA) fun _ _ h => h) (fun u hu => by obtain ⟨y, _, rfl⟩ := List.mem_map.1 hu; rfl)) (Keeps.refl _ _)
      · exact src_grow_ci (src_own (owns_keep HO3.out (Grow.trans _ _ _ HQ4.out hA) fun _ _ h => h) (fun u hu => by obtain ⟨y, _, rfl⟩ := List.mem_map.1 hu; rfl)) (Keeps.refl _ _)
      · exact src_grow_ci (src_own (owns_keep HO4.out hA fun _ _ h => h) (fun u hu => by obtain ⟨y, _, rfl⟩ := List.mem_map.1 hu; rfl)) (Keeps.refl _ _))
    (by simp [psum_ci]) (by omega)
  have HCON := Lib.hid hcon
  clear hcon
  go_wp2_with fail
  refine HCON.out.mono ?_
  rintro e w5 ⟨A5, c5, rfl, ho5, hg5⟩
  have HO5 := Lib.hid ho5
  have HG5 : Hid (Grow w w5) := Grow.trans _ _ _ (HF.out.alloc _) hg5
  clear ho5 hg5 HCON
  go_wp2_with fail
  go_ret
  have h9 := HO5.out
  have e9 : pjoin_ci [(some (⟨g1, 0, none⟩ : Addr), 144, 144, (List.replicate 144 (8 : Int)).map (Value.int .i64)), (some ⟨g2, 0, none⟩, 112, 112, (List.replicate 112 (9 : Int)).map (Value.int .i64)), (some ⟨g3, 0, none⟩, 24, 24, (List.replicate 24 (7 : Int)).map (Value.int .i64)), (some ⟨g4, 0, none⟩, 8, 8, (List.replicate 8 (8 : Int)).map (Value.int .i64))] = fixL.map (Value.int .i64) := by
    simp only [pjoin_ci, List.flatMap_cons, List.flatMap_nil, List.append_nil, fixL, List.map_append, List.append_assoc]
  rw [e9] at h9
  exact ⟨A5, c5, rfl, owns_any_base h9 (by have := HF.out.size; simp; omega), HG5.out⟩
def ordL : List Int := [16, 17, 18, 0, 8, 7, 9, 6, 10, 5, 11, 4, 12, 3, 13, 2, 14, 1, 15]
theorem ord_own (w : World) : (w.alloc (.cells (ordL.map (Value.int .i64)).toArray 3)).ownsRow w.heap.size 3 1 (.slice (some ⟨w.heap.size, 0, none⟩) 19 19) 19 (ordL.map (Value.int .i64)) :=
  ⟨rfl, .inr ⟨w.heap.size, 19, _, rfl, Nat.le_refl _, heap_alloc_new w _, Nat.le_refl _, by unfold maxLen; omega, rfl, rfl⟩⟩
theorem order_is (w : World) : Calls Try.prog 29 #[] w fun e w' => ∃ A c, e = .returned (.slice A 19 c) ∧ w'.ownsRow w.heap.size 3 1 (.slice A 19 c) 19 (ordL.map (Value.int .i64)) ∧ Grow w w' := by
  go_enter Try.func29, Try.ntmps29
  go_wp2_with fail
  go_ret
  exact ⟨_, _, rfl, ord_own w, (Keeps.refl _ w).alloc _⟩
theorem refOrder_is (w : World) : Calls Try.prog 30 #[] w fun e w' => ∃ A c, e = .returned (.slice A 19 c) ∧ w'.ownsRow w.heap.size 3 1 (.slice A 19 c) 19 (ordL.map (Value.int .i64)) ∧ Grow w w' := by
  go_enter Try.func30, Try.ntmps30
  go_wp2_with fail
  go_ret
  exact ⟨_, _, rfl, ord_own w, (Keeps.refl _ w).alloc _⟩
end Go.Proofs.Ytoeapobpdfidkaa
