/- suffix.Next, the program's: a counting sort. -/
import Derived.Test.YteccmnjcmmbhlaaNxR
import Derived.Test.YteccmnjcmmbhlaaRow
namespace Go.Proofs.Yteccmnjcmmbhlaa
open Go.RowKit
set_option linter.unusedVariables false
set_option linter.unusedSimpArgs false

theorem info_257 : (Try.prog.info? 51).map (fun i => (i.zero, i.size)) = some (some (.agg (Array.replicate 257 (.int .i64 0))), 257) := by kernel_rfl
theorem cntE_le (xs : List Int) (c : Nat) : cntE xs c ≤ xs.length := List.countP_le_length
theorem cntL_le (xs : List Int) (c : Nat) : cntL xs c ≤ xs.length := List.countP_le_length
theorem cntE_take (xs : List Int) (i c : Nat) : cntE (xs.take i) c ≤ i := Nat.le_trans (cntE_le _ _) (by rw [List.length_take]; omega)
theorem own_full {w : World} {B g n : Nat} {cs : Array Value} {e : TypeId} {ys : List Int} {k : IntKind} (hh : w.heap[g]? = some (.cells cs e (0, 0))) (hs : cs.size = n) (hl : ys.length = n) (hB : B ≤ g) (hm : n ≤ maxLen)
    (h : ∀ j, j < n → cs[j]? = some (.int k (ys.getD j 0))) : w.ownsRow B e 1 (.slice (some ⟨g, 0, none⟩) n n) n (ys.map (Value.int k)) := by
  refine ⟨by simp [hl], .inr ⟨g, n, cs, rfl, hB, hh, Nat.le_refl _, hm, by omega, ?_⟩⟩
  apply List.ext_getElem?
  intro j
  rw [List.getElem?_take, List.getElem?_map]
  by_cases hj : j < n
  · rw [if_pos (by omega), Array.getElem?_toList, h j hj]
    simp [List.getD_eq_getElem?_getD, show j < ys.length by omega]
  · rw [if_neg (by omega), List.getElem?_eq_none (by omega)]
    rfl

set_option maxRecDepth 4000 in
set_option maxHeartbeats 2000000 in
theorem next_is (w : World) (A : Option Addr) (n c : Nat) (xs : List Int) (h : Nums .u8 w A n c xs) (hn : n ≤ 9223372036854775807) :
    Calls Try.prog 11 #[.slice A n c] w fun e w' => ∃ A' c' k, e = .returned (.tuple #[.slice A' k c', .int .i64 (nextR xs).2]) ∧ w'.ownsRow w.heap.size 3 1 (.slice A' k c') k ((nextR xs).1.map (Value.int .i64)) ∧ Grow w w' := by
  have HL := Lib.hid h.len
  have hR : Hid (nextR xs = if 1048576 < n then ([], 3) else (nextL xs, 0)) := by show _ = _; rw [nextR, h.len]
  have H := Lib.hid h
  have HB := Lib.hid (fun x hx => inKind_u8 (h.rng x hx))
  generalize nextR xs = R at *
  clear h
  by_cases h1 : 1048576 < n
  · have hR2 : R = ([], 3) := by rw [hR.out, if_pos h1]
    subst hR2
    go_enter Try.func11, Try.ntmps11
    go_wp2_with fail
    go_ret2
    exact ⟨none, 0, 0, rfl, own_nil _ _ _, Keeps.refl _ _⟩
  have hR2 : R = (nextL xs, 0) := by rw [hR.out, if_neg h1]
  subst hR2
  clear hR
  have hz := (zero_of_info info_257).1
  go_enter Try.func11, Try.ntmps11
  go_wp2_with fail
  have hd2 : decide ((1048576 : Int) < (n : Int)) = false := by simp; omega
  simp only [hd2]
  clear hd2
  rw [rowv_zero]
  obtain ⟨w1, hw1⟩ : ∃ w1, w1 = w.alloc (.cells (rowv .i64 257 fun _ => 0) 51) := ⟨_, rfl⟩
  have hM : Rw w1 w.heap.size 51 .i64 257 (fun _ => 0) := by subst hw1; exact heap_alloc_new w _
  have hK : Grow w w1 := by subst hw1; exact (Keeps.refl (fun _ => False) _).alloc _
  have hz1 : w1.heap.size = w.heap.size + 1 := by subst hw1; simp
  rw [← hw1]
  clear hw1 hz
  go_loopw [6, 16] (fun _ vi wr => ∃ (i : Nat), i ≤ n ∧ vi = .int .i64 i ∧ Rw wr w.heap.size 51 .i64 257 (fun j => if j = 0 then 0 else cntE (xs.take i) (j - 1)) ∧ Grow w wr ∧ w.heap.size + 1 ≤ wr.heap.size) (fun _ vi _ => n - (intOf vi).toNat)
  case atStart => exact ⟨0, by omega, rfl, hM.congr (fun j _ => by by_cases hj : j = 0 <;> simp [hj, cntE]), hK, by omega⟩
  case round =>
    clear hM hK
    obtain ⟨i, hi, rfl, hM, hK, hzr⟩ := hrel
    have HM := Lib.hid hM
    have HK := Lib.hid hK
    by_cases hin : i < n
    · have H1 := H.out.grow hK
      have hxi := H1.byte i
      obtain ⟨ba, oa, rfl, hcell⟩ := H1.at_ (by omega)
      have hc := hcell i hin
      have HE := Lib.hid (cntE_take_succ xs i (by rw [HL.out]; exact hin))
      generalize xs.getD i 0 = x at *
      obtain ⟨b, rfl⟩ : ∃ b : Nat, x = (b : Int) := ⟨x.toNat, by omega⟩
      have hcc := hM.cell (b + 1) (by omega)
      have hff := blk_frozen hM (b + 1)
      rw [if_neg (by omega), Nat.add_sub_cancel] at hcc
      have hv := cntE_take xs i b
      obtain ⟨v, hvv⟩ : ∃ v, v = cntE (xs.take i) b := ⟨_, rfl⟩
      rw [← hvv] at hcc hv
      have HV := Lib.hid hvv
      clear hM hK hcell H1 hvv
      go_wp2_with fail
      go_roundw
      case rel =>
        refine ⟨i + 1, by omega, by go_num, ?_, Keeps.setCell HK.out (p := ⟨w.heap.size, b + 1, none⟩) (fun h => by simp at h) _, by simpa using hzr⟩
        rw [show ((v : Int) + 1) = ((v + 1 : Nat) : Int) by omega]
        refine Rw.congr (HM.out.put (b + 1) (v + 1) (by omega)) fun j hj => ?_
        by_cases hj0 : j = 0
        · subst hj0
          rw [if_neg (by omega), if_pos rfl, if_pos rfl]
        · rw [if_neg hj0, if_neg hj0, HE.out (j - 1)]
          by_cases hjb : j = b + 1
          · subst hjb
            rw [if_pos rfl, Nat.add_sub_cancel, if_pos rfl, HV.out]
          · rw [if_neg hjb, if_neg (by omega), Nat.add_zero]
      case measure => exact meas hin
    · obtain rfl : n = i := by omega
      have hM2 : Rw wr w.heap.size 51 .i64 257 (fun j => if j ≤ 0 then cntL xs j else cntE xs (j - 1)) := hM.congr fun j hj => by
        rw [List.take_of_length_le (by rw [HL.out]; omega)]
        by_cases hj0 : j = 0
        · subst hj0; rw [if_pos rfl, if_pos (by omega), cntL_zero xs fun x hx => (HB.out x hx).1]
        · rw [if_neg hj0, if_neg (by omega)]
      clear hM HM hi
      go_wp2_with fail
      obtain ⟨wo, rfl⟩ : ∃ wo : World, wo = wr := ⟨_, rfl⟩
      go_loopw [7, 28] (fun _ vi wr => ∃ (b : Nat), b ≤ 256 ∧ vi = .int .i64 b ∧ Rw wr w.heap.size 51 .i64 257 (fun j => if j ≤ b then cntL xs j else cntE xs (j - 1)) ∧ Grow w wr ∧ w.heap.size + 1 ≤ wr.heap.size) (fun _ vi _ => 256 - (intOf vi).toNat)
      case atStart => exact ⟨0, by omega, rfl, hM2, hK, hzr⟩
      case round =>
        clear hM2 hK hzr HK
        obtain ⟨b, hb, rfl, hM, hK, hzr⟩ := hrel
        have HM := Lib.hid hM
        have HK := Lib.hid hK
        by_cases hb2 : b < 256
        · have c1 := hM.cell (b + 1) (by omega)
          have c2 := hM.cell b (by omega)
          rw [if_neg (by omega), Nat.add_sub_cancel] at c1
          rw [if_pos (Nat.le_refl _)] at c2
          have hs := cntL_succ xs (fun x hx => (HB.out x hx).1) b
          have l1 := cntE_le xs b
          have l2 := cntL_le xs b
          rw [HL.out] at l1 l2
          obtain ⟨v, hvv⟩ : ∃ v, v = cntE xs b := ⟨_, rfl⟩
          obtain ⟨u, huu⟩ : ∃ u, u = cntL xs b := ⟨_, rfl⟩
          rw [← hvv] at c1 l1 hs
          rw [← huu] at c2 l2 hs
          have HS := Lib.hid hs
          have HF : Hid (∀ w7, Grow wr.drew w7 → w7.cell? ⟨w.heap.size, b + 1, none⟩ = some (.int .i64 v) ∧ w7.cell? ⟨w.heap.size, b, none⟩ = some (.int .i64 u)) := fun w7 k7 => ⟨cell_keep (show wr.drew.cell? _ = _ from c1) k7 (fun h => h), cell_keep (show wr.drew.cell? _ = _ from c2) k7 (fun h => h)⟩
          have hy : Hv.Hyp2 Grow Grow (fun _ _ _ => True) := ⟨Keeps.refl _, fun _ _ _ h k => Keeps.trans h k fun _ _ h => h, fun _ _ _ _ _ _ => trivial, Keeps.refl _, fun _ _ _ h k => Keeps.trans h k fun _ _ h => h, fun _ _ h => h⟩
          have HY := Lib.hid hy
          clear hM hK hvv huu hs c1 c2 hy
          go_wp2_with fail
          refine Hv.wp_region_hav2 Grow Grow (fun _ _ _ => True) HY.out [3, 6, 2, 5, 8] [1009] [(0, [0, 1, 4]), (1, [2]), (1, [3]), (1, [5]), (1, [6]), (0, [7]), (1, [8]), (4, [9])] [(0, 0, [?o0, ?o1, ?o4]), (1, 2, [?o2]), (1, 3, [?o3]), (1, 5, [?o5]), (1, 6, [?o6]), (0, 7, [?o7]), (1, 8, [?o8]), (4, 9, [?o9])] [?o0, ?o1, ?o2, ?o3, ?o4, ?o5, ?o6, ?o7, ?o8, ?o9] (by kernel_rfl) (by kernel_rfl) (by kernel_rfl) ?_
          have HMd : Rw wr.drew w.heap.size 51 .i64 257 (fun j => if j ≤ b then cntL xs j else cntE xs (j - 1)) := HM.out
          have hff := blk_frozen HMd (b + 1)
          have c1 := (HF.out _ (Keeps.refl _ _)).1
          have HMd := Lib.hid HMd
          refine Hv.seg_calm ?_
          go_wp2_with fail
          refine Hv.seg_held (by kernel_rfl) (.pointer (some ⟨w.heap.size, b + 1, none⟩)) (fun w7 hk7 => ?_) ?_
          · go_simp
            intro hx
            have := hx (by omega)
            omega
          refine Hv.seg_held (by kernel_rfl) (.int .i64 v) (fun w7 hk7 => ?_) ?_
          · have c7 := (HF.out w7 hk7).1
            go_simp
          refine Hv.seg_held (by kernel_rfl) (.pointer (some ⟨w.heap.size, b, none⟩)) (fun w7 hk7 => ?_) ?_
          · go_simp
            intro hx
            omega
          refine Hv.seg_held (by kernel_rfl) (.int .i64 u) (fun w7 hk7 => ?_) ?_
          · have c7 := (HF.out w7 hk7).2
            go_simp
          refine Hv.seg_calm ?_
          go_wp2_with fail
          refine Hv.seg_held (by kernel_rfl) (.pointer (some ⟨w.heap.size, b + 1, none⟩)) (fun w7 hk7 => ?_) ?_
          · go_simp
            intro hx
            have := hx (by omega)
            omega
          refine Hv.seg_last ?_
          go_wp2_with fail
          refine Hv.seg_end ⟨by kernel_rfl, ?_⟩
          go_wp2_with fail
          go_roundw
          case rel =>
            refine ⟨b + 1, by omega, by go_num, ?_, Keeps.setCell HK.out.drew (p := ⟨w.heap.size, b + 1, none⟩) (fun h => by simp at h) _, by simpa using hzr⟩
            rw [show ((v : Int) + (u : Int)) = ((v + u : Nat) : Int) by omega]
            refine Rw.congr (HMd.out.put (b + 1) (v + u) (by omega)) fun j hj => ?_
            by_cases hjb : j = b + 1
            · subst hjb
              rw [if_pos rfl, if_pos (Nat.le_refl _), HS.out, Nat.add_comm]
            · rw [if_neg hjb]
              by_cases hjl : j ≤ b
              · rw [if_pos hjl, if_pos (by omega)]
              · rw [if_neg hjl, if_neg (by omega)]
          case measure => exact meas hb2
        · obtain rfl : b = 256 := by omega
          have hM3 : Rw wr w.heap.size 51 .i64 257 (fun j => cntL xs j + cntE (xs.take 0) j) := hM.congr fun j hj => by rw [if_pos (by omega)]; simp [cntE]
          have hz0 : (Value.int .i64 0).cells = #[Value.int .i64 0] := rfl
          clear hM HM hb
          go_wp2_with (at_make; refine wpList_make rfl (.tmp 42) (.tmp 42) 28 3 rfl Try.underlying28 Try.infoI64 hz0 n rfl rfl (by omega) (by unfold maxLen; omega) ?_)
          intro w2 ho2 hg2 hz2
          obtain ⟨cs0, hcs0, hsz0⟩ : ∃ cs0 : Array Value, w2.heap[wr.heap.size]? = some (.cells cs0 3 (0, 0)) ∧ cs0.size = n := by
            rcases ho2.2 with ⟨hv, _⟩ | ⟨g, cap, cur, hv, _, hh, _, _, hcs, _⟩
            · cases hv
            · injection hv with hv _ hcap
              injection hv with hv
              injection hv with hv
              subst hv
              exact ⟨cur, hh, by omega⟩
          have hM4 : Rw w2 w.heap.size 51 .i64 257 (fun j => cntL xs j + cntE (xs.take 0) j) := hM3.keep hg2 (fun h => h)
          have hK4 : Grow w w2 := Grow.trans _ _ _ hK hg2
          have hG : ¬ w.heap.size = wr.heap.size := by omega
          obtain ⟨g, hgg⟩ : ∃ g, g = wr.heap.size := ⟨_, rfl⟩
          rw [← hgg] at hcs0 hG hzr ⊢
          clear hM3 ho2 hK HK hg2 hz2 hgg
          go_wp2_with fail
          go_loopw [9, 10, 46] (fun _ _ vi wq => ∃ (i : Nat) (cs : Array Value), i ≤ n ∧ vi = .int .i64 i ∧ Rw wq w.heap.size 51 .i64 257 (fun j => cntL xs j + cntE (xs.take i) j) ∧ Hid (Grow w wq) ∧ wq.heap[g]? = some (.cells cs 3 (0, 0)) ∧ cs.size = n ∧
              Hid (∀ b, b < 256 → ∀ k, cntL xs b ≤ k → k < cntL xs b + cntE (xs.take i) b → cs[k]? = some (.int .i64 ((nextL xs).getD k 0)))) (fun _ _ vi _ => n - (intOf vi).toNat)
          case atStart => exact ⟨0, cs0, by omega, rfl, hM4, hK4, hcs0, hsz0, fun b _ k h1 h2 => by simp [cntE] at h2; omega⟩
          case round =>
            clear hM4 hK4 hcs0 hsz0
            obtain ⟨i, cs, hi, rfl, hM, HK, hcs, hsz, HC⟩ := hrel
            by_cases hin2 : i < n
            · have H1 := H.out.grow HK.out
              have hxi := H1.byte i
              obtain ⟨ba, oa, rfl, hcell⟩ := H1.at_ (by omega)
              have hc := hcell i hin2
              have HE := Lib.hid (cntE_take_succ xs i (by rw [HL.out]; exact hin2))
              have hget := nextL_get xs HB.out i (by rw [HL.out]; exact hin2)
              generalize xs.getD i 0 = x at *
              obtain ⟨b, rfl⟩ : ∃ b : Nat, x = (b : Int) := ⟨x.toNat, by omega⟩
              have hget := hget b rfl (by omega)
              have hlt : cntL xs b + cntE (xs.take i) b < n := by
                have h9 := (List.getElem?_eq_some_iff.1 hget).1
                rw [nextL_len xs HB.out, HL.out] at h9
                exact h9
              have hcc := hM.cell b (by omega)
              have hff := blk_frozen hM b
              have hfg := blk_frozen hcs (cntL xs b + cntE (xs.take i) b)
              obtain ⟨uu, hcu⟩ : ∃ u, wr.cell? ⟨g, cntL xs b + cntE (xs.take i) b, none⟩ = some u := by
                rw [blk_cell hcs]
                exact ⟨_, Array.getElem?_eq_getElem (by omega)⟩
              obtain ⟨v, hvv⟩ : ∃ v, v = cntL xs b + cntE (xs.take i) b := ⟨_, rfl⟩
              rw [← hvv] at hcc hget hlt hfg hcu
              have HV := Lib.hid hvv
              have HGET := Lib.hid hget
              have HM := Lib.hid hM
              have HCS := Lib.hid hcs
              clear hM hcs hcell H1 hvv hget
              go_wp2_with fail
              go_roundw
              case rel =>
                have hM5 : Rw (wr.setCell ⟨g, v, none⟩ (.int .i64 (i : Int))) w.heap.size 51 .i64 257 (fun j => cntL xs j + cntE (xs.take i) j) := blk_far HM.out (p := ⟨g, v, none⟩) hG _
                refine ⟨i + 1, cs.setIfInBounds v (.int .i64 (i : Int)), by omega, by go_num, ?_, ?_, ?_, by simpa using hsz, ?_⟩
                · rw [show ((v : Int) + 1) = ((v + 1 : Nat) : Int) by omega]
                  refine Rw.congr (hM5.put b (v + 1) (by omega)) fun j hj => ?_
                  rw [HE.out j]
                  by_cases hjb : j = b
                  · subst hjb
                    rw [if_pos rfl, if_pos rfl, HV.out]
                    omega
                  · rw [if_neg hjb, if_neg (by omega)]
                    omega
                · exact Keeps.setCell (Keeps.setCell HK.out (p := ⟨g, v, none⟩) (fun h => absurd (show g < w.heap.size from h) (by omega)) _) (p := ⟨w.heap.size, b, none⟩) (fun h => by simp at h) _
                · exact blk_far (blk_set HCS.out v _) (p := ⟨w.heap.size, b, none⟩) (fun h => hG h.symm) _
                · intro b' hb' k h2 h3
                  by_cases hkv : k = v
                  · subst hkv
                    rw [Array.getElem?_setIfInBounds_self_of_lt (by omega)]
                    have h9 := HGET.out
                    simp [List.getD_eq_getElem?_getD, h9]
                  · rw [Array.getElem?_setIfInBounds_ne (fun h => hkv h.symm)]
                    refine HC.out b' hb' k h2 ?_
                    rw [HE.out b'] at h3
                    have h8 := HV.out
                    by_cases hbb : (b : Int) = (b' : Int)
                    · obtain rfl : b = b' := by omega
                      rw [if_pos rfl] at h3
                      omega
                    · rw [if_neg hbb] at h3
                      omega
              case measure => exact meas hin2
            · obtain rfl : n = i := by omega
              have hfull : wr.ownsRow w.heap.size 3 1 (.slice (some ⟨g, 0, none⟩) n n) n ((nextL xs).map (Value.int .i64)) := own_full hcs hsz (by rw [nextL_len xs HB.out, HL.out]) (by omega) (by unfold maxLen; omega) fun k hk => by
                obtain ⟨b, hb, h2, h3⟩ := cover xs HB.out k (by rw [HL.out]; exact hk)
                exact HC.out b hb k h2 (by rw [List.take_of_length_le (by rw [HL.out]; omega)]; exact h3)
              have HFL := Lib.hid hfull
              clear hM hcs hsz HC hfull
              go_wp2_with fail
              go_ret2
              exact ⟨_, _, _, rfl, HFL.out, HK.out⟩
end Go.Proofs.Yteccmnjcmmbhlaa
