/- runs.Pack, the program's. -/
import Derived.Test.YteccmnjcmmbhlaaPkP
import Derived.Test.YteccmnjcmmbhlaaNums
import Derived.Test.YteccmnjcmmbhlaaIdxF
import Derived.Test.YteccmnjcmmbhlaaSym
import Derived.Test.YteccmnjcmmbhlaaSp10
namespace Go.Proofs.Yteccmnjcmmbhlaa
open Go.RowKit
set_option linter.unusedVariables false
set_option linter.unusedSimpArgs false

theorem nums_old {k : IntKind} {w : World} {A : Option Addr} {n c : Nat} {xs : List Int} (h : Nums k w A n c xs) : 0 < n → ∀ b o, A = some ⟨b, o, none⟩ → b < w.heap.size := fun hn b o e => by
  obtain ⟨b9, o9, e9, h9⟩ := h.at_ hn
  rw [e] at e9
  injection e9 with e9
  injection e9 with e9 e8
  subst e9
  exact World.block_lt_of_cell? w _ (h9 0 hn)
theorem Nums.drop_lt {k : IntKind} {w : World} {b o n c : Nat} {xs : List Int} (h : Nums k w (some ⟨b, o, none⟩) n c xs) (m : Nat) (hm : m ≤ n) (hc : m < c) : Nums k w (some ⟨b, o + m, none⟩) (n - m) (c - m) (xs.drop m) := by
  have h9 := h.drop m hm
  have e : ((⟨b, o, none⟩ : Addr).add m) = ⟨b, o + m, none⟩ := Addr.add_mid b o m
  rw [Nums.off, if_neg (by omega), Option.map_some, e] at h9
  exact h9
def lenOf (v : Value) : Nat := match v with | .slice _ n _ => n | _ => 0
theorem lenOf_slice (A : Option Addr) (n c : Nat) : lenOf (.slice A n c) = n := rfl

set_option maxRecDepth 4000 in
set_option maxHeartbeats 4000000 in
theorem pack_is (w : World) (A : Option Addr) (n c : Nat) (xs : List Int) (h : Nums .u8 w A n c xs) (hn : n ≤ 70368744177664) :
    Calls Try.prog 26 #[.slice A n c] w fun e w' => ∃ A' c' k, e = .returned (.slice A' k c') ∧ w'.ownsRow w.heap.size 5 1 (.slice A' k c') k ((packL xs).map (Value.int .u8)) ∧ Grow w w' := by
  have HL := Lib.hid h.len
  have hR : Hid (packL xs = packL xs) := rfl
  have H := Lib.hid h
  have hcap := h.cap
  clear h
  generalize hRR : packL xs = R
  have HR := Lib.hid hRR
  clear hRR
  go_enter Try.func26, Try.ntmps26
  go_wp2_with fail
  go_loopw [0, 3] (fun vb vo wr => ∃ (A1 : Option Addr) (m c1 k : Nat) (l out : List Int), vb = .slice A1 m c1 ∧ m ≤ n ∧ 4 * k + 5 * m ≤ 5 * n ∧ Nums .u8 wr A1 m c1 l ∧ (0 < m → ∀ b o, A1 = some ⟨b, o, none⟩ → b < w.heap.size) ∧ wr.ownsRow w.heap.size 5 1 vo k (out.map (Value.int .u8)) ∧ Grow w wr ∧ Hid (out ++ packL l = R)) (fun vb _ _ => lenOf vb)
  case atStart => exact ⟨A, n, c, 0, xs, [], rfl, by omega, by omega, H.out, nums_old H.out, own_nil _ _ _, Keeps.refl _ _, by show _ = _; rw [List.nil_append, HR.out]⟩
  case round =>
    obtain ⟨A1, m, c1, k, l, out, rfl, hmn, hkm5, hN, hba, ho, hg, he⟩ := hrel
    obtain ⟨A2, c2, rfl⟩ := row_form ho
    have HN := Lib.hid hN
    have HO := Lib.hid ho
    have HG := Lib.hid hg
    have hsz : w.heap.size ≤ wr.heap.size := hg.size
    have hc1 := hN.cap
    have HBA := Lib.hid hba
    clear hba
    clear ho hg hN
    by_cases hm0 : 0 < m
    · obtain ⟨ba, oa, rfl, hcell⟩ := HN.out.at_ hm0
      clear hcell
      go_wp2_with fail
      obtain ⟨wo, hwo⟩ : ∃ wo, wo = wr := ⟨_, rfl⟩
      go_loopw [4] (fun vt wr => ∃ (t : Nat), vt = .int .i64 t ∧ 1 ≤ t ∧ t ≤ m ∧ t ≤ 259 ∧ Hid (∀ i, i < t → l.getD i 0 = l.getD 0 0) ∧ Grow wo wr) (fun vt _ => m - (intOf vt).toNat)
      case atStart => exact ⟨1, rfl, by omega, by omega, by omega, fun i hi => by rw [show i = 0 by omega], by rw [hwo]; exact Keeps.refl _ _⟩
      case round =>
        obtain ⟨t, rfl, ht1, htm, ht259, HA, hgo⟩ := hrel
        subst hwo
        have H1 := Lib.hid (HN.out.grow hgo)
        obtain ⟨M, hM⟩ : ∃ M, M = min m 259 := ⟨_, rfl⟩
        have hM1 : M ≤ m := by omega
        have hM2 : M ≤ 259 := by omega
        have htM : t ≤ M := by omega
        have hy : Hv.Hyp2 Grow Grow (fun _ _ _ => True) := ⟨Keeps.refl _, fun _ _ _ h k => Keeps.trans h k fun _ _ h => h, fun _ _ _ _ _ _ => trivial, Keeps.refl _, fun _ _ _ h k => Keeps.trans h k fun _ _ h => h, fun _ _ h => h⟩
        have HY2 := Lib.hid hy
        have HM := Lib.hid hM
        clear hy hM
        by_cases htl : t < M
        · have HC : Hid (∀ w7, Grow wr.drew w7 → w7.cell? ⟨ba, oa, none⟩ = some (.int .u8 (l.getD 0 0)) ∧ w7.cell? ⟨ba, oa + t, none⟩ = some (.int .u8 (l.getD t 0))) := fun w7 h7 => by
            obtain ⟨b9, o9, e9, h9⟩ := (H1.out.grow (Keeps.trans ((Keeps.refl (fun _ => False) _).drew) h7 fun _ _ h => h)).at_ hm0
            injection e9 with e9
            injection e9 with e9 e8
            subst e9; subst e8
            have h0 := h9 0 hm0
            rw [Nat.add_zero] at h0
            exact ⟨h0, h9 t (by omega)⟩
          obtain ⟨x, hx⟩ : ∃ x, x = l.getD 0 0 := ⟨_, rfl⟩
          obtain ⟨y, hy⟩ : ∃ y, y = l.getD t 0 := ⟨_, rfl⟩
          rw [← hx, ← hy] at HC
          have HX := Lib.hid hx
          have HY := Lib.hid hy
          clear hx hy
          by_cases heq : y = x
          · subst heq
            go_wp2_with fail
            refine Hv.wp_region_hav2 Grow Grow (fun _ _ _ => True) HY2.out [9, 12, 3, 8, 11] [] [(0, [0, 1, 2]), (1, [3]), (0, [4, 5, 6, 7, 10]), (1, [8]), (1, [9]), (1, [11]), (1, [12]), (0, [13, 14])] [(0, 0, [?o0, ?o1, ?o2]), (1, 3, [?o3]), (0, 4, [?o4, ?o5, ?o6, ?o7, ?o10]), (1, 8, [?o8]), (1, 9, [?o9]), (1, 11, [?o11]), (1, 12, [?o12]), (0, 13, [?o13, ?o14])] [?o0, ?o1, ?o2, ?o3, ?o4, ?o5, ?o6, ?o7, ?o8, ?o9, ?o10, ?o11, ?o12, ?o13, ?o14] (by kernel_rfl) (by kernel_rfl) (by kernel_rfl) ?_
            have HNd := Lib.hid ((HN.out.grow hgo).grow (Keeps.refl (fun _ => False) wr).drew)
            have HOd := Lib.hid (show wr.drew.ownsRow _ _ _ _ _ _ from owns_keep HO.out hgo.drew fun _ _ h => h)
            have HGd : Hid (Grow w wr.drew) := (Keeps.trans HG.out hgo fun _ _ h => h).drew
            have HGo : Hid (Grow wo wr.drew) := hgo.drew
            have hzd : w.heap.size ≤ wr.drew.heap.size := HGd.out.size
            clear hgo H1
            generalize wr.drew = wd at *
            refine Hv.seg_calm ?_
            go_wp2_with fail
            refine Hv.seg_held (by kernel_rfl) (.int .i64 M) (fun w7 hk7 => ?_) ?_
            · rcases (show m ≤ 259 ∨ 259 < m by omega) with h9 | h9
              · have e9 : M = m := by have := HM.out; omega
                rw [e9]
                go_simp
                intro _; omega
              · have e9 : M = 259 := by have := HM.out; omega
                rw [e9]
                go_simp
                intro _; omega
            refine Hv.seg_calm ?_
            go_wp2_with fail
            refine Hv.seg_held (by kernel_rfl) (.pointer (some ⟨ba, oa + t, none⟩)) (fun w7 hk7 => ?_) ?_
            · go_simp
              intro hx9
              omega
            refine Hv.seg_held (by kernel_rfl) (.int .u8 y) (fun w7 hk7 => ?_) ?_
            · have c7 := (HC.out w7 hk7).2
              go_simp
            refine Hv.seg_held (by kernel_rfl) (.pointer (some ⟨ba, oa, none⟩)) (fun w7 hk7 => ?_) ?_
            · go_simp
            refine Hv.seg_held (by kernel_rfl) (.int .u8 y) (fun w7 hk7 => ?_) ?_
            · have c7 := (HC.out w7 hk7).1
              go_simp
            refine Hv.seg_calm ?_
            go_wp2_with fail
            refine Hv.seg_end ⟨by kernel_rfl, ?_⟩
            go_wp2_with fail
            go_roundw
            case rel => exact ⟨t + 1, by go_num, by omega, by omega, by omega, fun i hi => by
              by_cases hit : i < t
              · exact HA.out i hit
              · rw [show i = t by omega, ← HX.out, ← HY.out], HGo.out⟩
            case measure => simp [intOf]; omega
          · have e5 : ((y : Int) == (x : Int)) = false := by simpa using heq
            have HRn : Hid (IsRun l t) := ⟨ht1, by rw [HN.out.len]; exact htm, ht259, HA.out, .inr (.inr (by rw [← HX.out, ← HY.out]; exact heq))⟩
            clear heq
            go_wp2_with fail
            refine Hv.wp_region_hav2 Grow Grow (fun _ _ _ => True) HY2.out [9, 12, 3, 8, 11] [] [(0, [0, 1, 2]), (1, [3]), (0, [4, 5, 6, 7, 10]), (1, [8]), (1, [9]), (1, [11]), (1, [12]), (0, [13, 14])] [(0, 0, [?o0, ?o1, ?o2]), (1, 3, [?o3]), (0, 4, [?o4, ?o5, ?o6, ?o7, ?o10]), (1, 8, [?o8]), (1, 9, [?o9]), (1, 11, [?o11]), (1, 12, [?o12]), (0, 13, [?o13, ?o14])] [?o0, ?o1, ?o2, ?o3, ?o4, ?o5, ?o6, ?o7, ?o8, ?o9, ?o10, ?o11, ?o12, ?o13, ?o14] (by kernel_rfl) (by kernel_rfl) (by kernel_rfl) ?_
            have HNd := Lib.hid ((HN.out.grow hgo).grow (Keeps.refl (fun _ => False) wr).drew)
            have HOd := Lib.hid (show wr.drew.ownsRow _ _ _ _ _ _ from owns_keep HO.out hgo.drew fun _ _ h => h)
            have HGd : Hid (Grow w wr.drew) := (Keeps.trans HG.out hgo fun _ _ h => h).drew
            have HGo : Hid (Grow wo wr.drew) := hgo.drew
            have hzd : w.heap.size ≤ wr.drew.heap.size := HGd.out.size
            clear hgo H1
            generalize wr.drew = wd at *
            refine Hv.seg_calm ?_
            go_wp2_with fail
            refine Hv.seg_held (by kernel_rfl) (.int .i64 M) (fun w7 hk7 => ?_) ?_
            · rcases (show m ≤ 259 ∨ 259 < m by omega) with h9 | h9
              · have e9 : M = m := by have := HM.out; omega
                rw [e9]
                go_simp
                intro _; omega
              · have e9 : M = 259 := by have := HM.out; omega
                rw [e9]
                go_simp
                intro _; omega
            refine Hv.seg_calm ?_
            go_wp2_with fail
            refine Hv.seg_held (by kernel_rfl) (.pointer (some ⟨ba, oa + t, none⟩)) (fun w7 hk7 => ?_) ?_
            · go_simp
              intro hx9
              omega
            refine Hv.seg_held (by kernel_rfl) (.int .u8 y) (fun w7 hk7 => ?_) ?_
            · have c7 := (HC.out w7 hk7).2
              go_simp
            refine Hv.seg_held (by kernel_rfl) (.pointer (some ⟨ba, oa, none⟩)) (fun w7 hk7 => ?_) ?_
            · go_simp
            refine Hv.seg_held (by kernel_rfl) (.int .u8 x) (fun w7 hk7 => ?_) ?_
            · have c7 := (HC.out w7 hk7).1
              go_simp
            refine Hv.seg_calm ?_
            go_wp2_with fail
            refine Hv.seg_end ⟨by kernel_rfl, ?_⟩
            by_cases h4 : 4 < t
            · have hr := packL_run HRn.out
              rw [if_pos (by omega), show min t 4 = 4 by omega, ← HRn.out.take 4 (by omega)] at hr
              have HRR := Lib.hid hr
              have HS := Lib.hid ((HNd.out.take 4 (by omega)).src)
              clear hr
              go_wp2_with (at_builtin; refine wpList_appS rfl (.tmp 25) (.tmp 29) 22 5 rfl Try.underlying22 Try.infoU8' rfl (by decide) w.heap.size _ k _ rfl HOd.out hzd _ 4 c1 _ rfl HS.out (by unfold maxLen; omega) (by omega) ?_)
              intro A3 c3 w3 ho3 hk3 _
              have HO3 : Hid (w3.ownsRow w.heap.size 5 1 (.slice A3 (k + 4) c3) (k + 4) ((out ++ l.take 4).map (Value.int .u8))) := by
                show World.ownsRow _ _ _ _ _ _ _
                simp only [List.map_append, List.map_take] at ho3 ⊢
                exact ho3
              have HG3 := Lib.hid (grow_own HGd.out HOd.out (Nat.le_refl _) hk3)
              have hz3 : w.heap.size ≤ w3.heap.size := HG3.out.size
              have HN3 := Lib.hid (HNd.out.keep hk3 (fun b o e hb => by have := own_ge HOd.out b hb; have := HBA.out hm0 b o e; omega))
              clear ho3 hk3
              go_wp2_with (at_builtin; refine wpList_app1 rfl (.tmp 33) (.tmp 37) 22 5 rfl Try.underlying22 Try.infoU8' rfl w.heap.size _ (k + 4) _ rfl HO3.out hz3 rfl rfl (by unfold maxLen; omega) (by omega) ?_)
              intro g cap w4 ho4 hk4 _
              have HO4 : Hid (w4.ownsRow w.heap.size 5 1 (.slice (some ⟨g, 0, none⟩) (k + 4 + 1) cap) (k + 4 + 1) ((out ++ l.take 4 ++ [(t : Int) - 4]).map (Value.int .u8))) := by
                show World.ownsRow _ _ _ _ _ _ _
                simp only [List.map_append, List.map_take, List.append_assoc] at ho4 ⊢
                exact ho4
              have HG4 := Lib.hid (grow_own HG3.out HO3.out (Nat.le_refl _) hk4)
              have HN4 := Lib.hid (HN3.out.keep hk4 (fun b o e hb => by have := own_ge HO3.out b hb; have := HBA.out hm0 b o e; omega))
              clear ho4 hk4
              go_wp2_with fail
              go_roundw
              case rel => exact ⟨_, m - t, c1 - t, k + 4 + 1, l.drop t, _, rfl, by omega, by omega, Nums.drop_lt HN4.out t (by omega) (by omega), fun _ b o e => HBA.out hm0 b _ (by injection e with e; injection e with e _; rw [e]), HO4.out, HG4.out, by show _ = _; rw [← he.out, HRR.out]; simp only [List.append_assoc]⟩
              case measure => simp only [lenOf_slice]; omega
            · by_cases h4b : 4 ≤ t
              · have hr := packL_run HRn.out
                rw [if_pos (by omega), show min t 4 = t by omega, ← HRn.out.take t (by omega)] at hr
                have HRR := Lib.hid hr
                have HS := Lib.hid ((HNd.out.take t (by omega)).src)
                clear hr
                go_wp2_with (at_builtin; refine wpList_appS rfl (.tmp 25) (.tmp 29) 22 5 rfl Try.underlying22 Try.infoU8' rfl (by decide) w.heap.size _ k _ rfl HOd.out hzd _ t c1 _ rfl HS.out (by unfold maxLen; omega) (by omega) ?_)
                intro A3 c3 w3 ho3 hk3 _
                have HO3 : Hid (w3.ownsRow w.heap.size 5 1 (.slice A3 (k + t) c3) (k + t) ((out ++ l.take t).map (Value.int .u8))) := by
                  show World.ownsRow _ _ _ _ _ _ _
                  simp only [List.map_append, List.map_take] at ho3 ⊢
                  exact ho3
                have HG3 := Lib.hid (grow_own HGd.out HOd.out (Nat.le_refl _) hk3)
                have hz3 : w.heap.size ≤ w3.heap.size := HG3.out.size
                have HN3 := Lib.hid (HNd.out.keep hk3 (fun b o e hb => by have := own_ge HOd.out b hb; have := HBA.out hm0 b o e; omega))
                clear ho3 hk3
                go_wp2_with (at_builtin; refine wpList_app1 rfl (.tmp 33) (.tmp 37) 22 5 rfl Try.underlying22 Try.infoU8' rfl w.heap.size _ (k + t) _ rfl HO3.out hz3 rfl rfl (by unfold maxLen; omega) (by omega) ?_)
                intro g cap w4 ho4 hk4 _
                have HO4 : Hid (w4.ownsRow w.heap.size 5 1 (.slice (some ⟨g, 0, none⟩) (k + t + 1) cap) (k + t + 1) ((out ++ l.take t ++ [(t : Int) - 4]).map (Value.int .u8))) := by
                  show World.ownsRow _ _ _ _ _ _ _
                  simp only [List.map_append, List.map_take, List.append_assoc] at ho4 ⊢
                  exact ho4
                have HG4 := Lib.hid (grow_own HG3.out HO3.out (Nat.le_refl _) hk4)
                have HN4 := Lib.hid (HN3.out.keep hk4 (fun b o e hb => by have := own_ge HO3.out b hb; have := HBA.out hm0 b o e; omega))
                clear ho4 hk4
                go_wp2_with fail
                go_roundw
                case rel => exact ⟨_, m - t, c1 - t, k + t + 1, l.drop t, _, rfl, by omega, by omega, Nums.drop_lt HN4.out t (by omega) (by omega), fun _ b o e => HBA.out hm0 b _ (by injection e with e; injection e with e _; rw [e]), HO4.out, HG4.out, by show _ = _; rw [← he.out, HRR.out]; simp only [List.append_assoc]⟩
                case measure => simp only [lenOf_slice]; omega
              · have hr := packL_run HRn.out
                rw [if_neg (by omega), show min t 4 = t by omega, ← HRn.out.take t (by omega)] at hr
                have HRR := Lib.hid hr
                have HS := Lib.hid ((HNd.out.take t (by omega)).src)
                clear hr
                go_wp2_with (at_builtin; refine wpList_appS rfl (.tmp 25) (.tmp 29) 22 5 rfl Try.underlying22 Try.infoU8' rfl (by decide) w.heap.size _ k _ rfl HOd.out hzd _ t c1 _ rfl HS.out (by unfold maxLen; omega) (by omega) ?_)
                intro A3 c3 w3 ho3 hk3 _
                have HO3 : Hid (w3.ownsRow w.heap.size 5 1 (.slice A3 (k + t) c3) (k + t) ((out ++ l.take t).map (Value.int .u8))) := by
                  show World.ownsRow _ _ _ _ _ _ _
                  simp only [List.map_append, List.map_take] at ho3 ⊢
                  exact ho3
                have HG3 := Lib.hid (grow_own HGd.out HOd.out (Nat.le_refl _) hk3)
                have hz3 : w.heap.size ≤ w3.heap.size := HG3.out.size
                have HN3 := Lib.hid (HNd.out.keep hk3 (fun b o e hb => by have := own_ge HOd.out b hb; have := HBA.out hm0 b o e; omega))
                clear ho3 hk3
                go_wp2_with fail
                go_roundw
                case rel => exact ⟨_, m - t, c1 - t, k + t, l.drop t, _, rfl, by omega, by omega, Nums.drop_lt HN3.out t (by omega) (by omega), fun _ b o e => HBA.out hm0 b _ (by injection e with e; injection e with e _; rw [e]), HO3.out, HG3.out, by show _ = _; rw [← he.out, HRR.out]; simp only [List.append_nil, List.append_assoc]⟩
                case measure => simp only [lenOf_slice]; omega
        · have HRn : Hid (IsRun l t) := ⟨ht1, by rw [HN.out.len]; exact htm, ht259, HA.out, by have := HM.out; rw [HN.out.len]; omega⟩
          obtain rfl : t = M := by omega
          go_wp2_with fail
          refine Hv.wp_region_hav2 Grow Grow (fun _ _ _ => True) HY2.out [9, 12, 3, 8, 11] [] [(0, [0, 1, 2]), (1, [3]), (0, [4, 5, 6, 7, 10]), (1, [8]), (1, [9]), (1, [11]), (1, [12]), (0, [13, 14])] [(0, 0, [?o0, ?o1, ?o2]), (1, 3, [?o3]), (0, 4, [?o4, ?o5, ?o6, ?o7, ?o10]), (1, 8, [?o8]), (1, 9, [?o9]), (1, 11, [?o11]), (1, 12, [?o12]), (0, 13, [?o13, ?o14])] [?o0, ?o1, ?o2, ?o3, ?o4, ?o5, ?o6, ?o7, ?o8, ?o9, ?o10, ?o11, ?o12, ?o13, ?o14] (by kernel_rfl) (by kernel_rfl) (by kernel_rfl) ?_
          have HNd := Lib.hid ((HN.out.grow hgo).grow (Keeps.refl (fun _ => False) wr).drew)
          have HOd := Lib.hid (show wr.drew.ownsRow _ _ _ _ _ _ from owns_keep HO.out hgo.drew fun _ _ h => h)
          have HGd : Hid (Grow w wr.drew) := (Keeps.trans HG.out hgo fun _ _ h => h).drew
          have HGo : Hid (Grow wo wr.drew) := hgo.drew
          have hzd : w.heap.size ≤ wr.drew.heap.size := HGd.out.size
          clear hgo H1
          generalize wr.drew = wd at *
          refine Hv.seg_calm ?_
          go_wp2_with fail
          refine Hv.seg_held (by kernel_rfl) (.int .i64 t) (fun w7 hk7 => ?_) ?_
          · rcases (show m ≤ 259 ∨ 259 < m by omega) with h9 | h9
            · have e9 : t = m := by have := HM.out; omega
              rw [e9]
              go_simp
              intro _; omega
            · have e9 : t = 259 := by have := HM.out; omega
              rw [e9]
              go_simp
              intro _; omega
          refine Hv.seg_calm ?_
          go_wp2_with fail
          refine Hv.seg_skip (by kernel_rfl) ?_
          refine Hv.seg_skip (by kernel_rfl) ?_
          refine Hv.seg_skip (by kernel_rfl) ?_
          refine Hv.seg_skip (by kernel_rfl) ?_
          refine Hv.seg_calm ?_
          go_wp2_with fail
          refine Hv.seg_end ⟨by kernel_rfl, ?_⟩
          by_cases hct : c1 = t
          · subst hct
            by_cases h4 : 4 < c1
            · have hr := packL_run HRn.out
              rw [if_pos (by omega), show min c1 4 = 4 by omega, ← HRn.out.take 4 (by omega)] at hr
              have HRR := Lib.hid hr
              have HS := Lib.hid ((HNd.out.take 4 (by omega)).src)
              clear hr
              go_wp2_with (at_builtin; refine wpList_appS rfl (.tmp 25) (.tmp 29) 22 5 rfl Try.underlying22 Try.infoU8' rfl (by decide) w.heap.size _ k _ rfl HOd.out hzd _ 4 c1 _ rfl HS.out (by unfold maxLen; omega) (by omega) ?_)
              intro A3 c3 w3 ho3 hk3 _
              have HO3 : Hid (w3.ownsRow w.heap.size 5 1 (.slice A3 (k + 4) c3) (k + 4) ((out ++ l.take 4).map (Value.int .u8))) := by
                show World.ownsRow _ _ _ _ _ _ _
                simp only [List.map_append, List.map_take] at ho3 ⊢
                exact ho3
              have HG3 := Lib.hid (grow_own HGd.out HOd.out (Nat.le_refl _) hk3)
              have hz3 : w.heap.size ≤ w3.heap.size := HG3.out.size
              have HN3 := Lib.hid (HNd.out.keep hk3 (fun b o e hb => by have := own_ge HOd.out b hb; have := HBA.out hm0 b o e; omega))
              clear ho3 hk3
              go_wp2_with (at_builtin; refine wpList_app1 rfl (.tmp 33) (.tmp 37) 22 5 rfl Try.underlying22 Try.infoU8' rfl w.heap.size _ (k + 4) _ rfl HO3.out hz3 rfl rfl (by unfold maxLen; omega) (by omega) ?_)
              intro g cap w4 ho4 hk4 _
              have HO4 : Hid (w4.ownsRow w.heap.size 5 1 (.slice (some ⟨g, 0, none⟩) (k + 4 + 1) cap) (k + 4 + 1) ((out ++ l.take 4 ++ [(c1 : Int) - 4]).map (Value.int .u8))) := by
                show World.ownsRow _ _ _ _ _ _ _
                simp only [List.map_append, List.map_take, List.append_assoc] at ho4 ⊢
                exact ho4
              have HG4 := Lib.hid (grow_own HG3.out HO3.out (Nat.le_refl _) hk4)
              have HN4 := Lib.hid (HN3.out.keep hk4 (fun b o e hb => by have := own_ge HO3.out b hb; have := HBA.out hm0 b o e; omega))
              clear ho4 hk4
              go_wp2_with fail
              go_roundw
              case rel => exact ⟨_, m - c1, c1 - c1, k + 4 + 1, l.drop c1, _, by rw [show m - c1 = 0 by omega, Nat.sub_self], by omega, by omega, by (have h9 := HN4.out.drop c1 (by omega)); rw [Nums.off, if_pos rfl] at h9; exact h9, fun h0 => absurd h0 (by omega), HO4.out, HG4.out, by show _ = _; rw [← he.out, HRR.out]; simp only [List.append_assoc]⟩
              case measure => simp only [lenOf_slice]; omega
            · by_cases h4b : 4 ≤ c1
              · have hr := packL_run HRn.out
                rw [if_pos (by omega), show min c1 4 = c1 by omega, ← HRn.out.take c1 (by omega)] at hr
                have HRR := Lib.hid hr
                have HS := Lib.hid ((HNd.out.take c1 (by omega)).src)
                clear hr
                go_wp2_with (at_builtin; refine wpList_appS rfl (.tmp 25) (.tmp 29) 22 5 rfl Try.underlying22 Try.infoU8' rfl (by decide) w.heap.size _ k _ rfl HOd.out hzd _ c1 c1 _ rfl HS.out (by unfold maxLen; omega) (by omega) ?_)
                intro A3 c3 w3 ho3 hk3 _
                have HO3 : Hid (w3.ownsRow w.heap.size 5 1 (.slice A3 (k + c1) c3) (k + c1) ((out ++ l.take c1).map (Value.int .u8))) := by
                  show World.ownsRow _ _ _ _ _ _ _
                  simp only [List.map_append, List.map_take] at ho3 ⊢
                  exact ho3
                have HG3 := Lib.hid (grow_own HGd.out HOd.out (Nat.le_refl _) hk3)
                have hz3 : w.heap.size ≤ w3.heap.size := HG3.out.size
                have HN3 := Lib.hid (HNd.out.keep hk3 (fun b o e hb => by have := own_ge HOd.out b hb; have := HBA.out hm0 b o e; omega))
                clear ho3 hk3
                go_wp2_with (at_builtin; refine wpList_app1 rfl (.tmp 33) (.tmp 37) 22 5 rfl Try.underlying22 Try.infoU8' rfl w.heap.size _ (k + c1) _ rfl HO3.out hz3 rfl rfl (by unfold maxLen; omega) (by omega) ?_)
                intro g cap w4 ho4 hk4 _
                have HO4 : Hid (w4.ownsRow w.heap.size 5 1 (.slice (some ⟨g, 0, none⟩) (k + c1 + 1) cap) (k + c1 + 1) ((out ++ l.take c1 ++ [(c1 : Int) - 4]).map (Value.int .u8))) := by
                  show World.ownsRow _ _ _ _ _ _ _
                  simp only [List.map_append, List.map_take, List.append_assoc] at ho4 ⊢
                  exact ho4
                have HG4 := Lib.hid (grow_own HG3.out HO3.out (Nat.le_refl _) hk4)
                have HN4 := Lib.hid (HN3.out.keep hk4 (fun b o e hb => by have := own_ge HO3.out b hb; have := HBA.out hm0 b o e; omega))
                clear ho4 hk4
                go_wp2_with fail
                go_roundw
                case rel => exact ⟨_, m - c1, c1 - c1, k + c1 + 1, l.drop c1, _, by rw [show m - c1 = 0 by omega, Nat.sub_self], by omega, by omega, by (have h9 := HN4.out.drop c1 (by omega)); rw [Nums.off, if_pos rfl] at h9; exact h9, fun h0 => absurd h0 (by omega), HO4.out, HG4.out, by show _ = _; rw [← he.out, HRR.out]; simp only [List.append_assoc]⟩
                case measure => simp only [lenOf_slice]; omega
              · have hr := packL_run HRn.out
                rw [if_neg (by omega), show min c1 4 = c1 by omega, ← HRn.out.take c1 (by omega)] at hr
                have HRR := Lib.hid hr
                have HS := Lib.hid ((HNd.out.take c1 (by omega)).src)
                clear hr
                go_wp2_with (at_builtin; refine wpList_appS rfl (.tmp 25) (.tmp 29) 22 5 rfl Try.underlying22 Try.infoU8' rfl (by decide) w.heap.size _ k _ rfl HOd.out hzd _ c1 c1 _ rfl HS.out (by unfold maxLen; omega) (by omega) ?_)
                intro A3 c3 w3 ho3 hk3 _
                have HO3 : Hid (w3.ownsRow w.heap.size 5 1 (.slice A3 (k + c1) c3) (k + c1) ((out ++ l.take c1).map (Value.int .u8))) := by
                  show World.ownsRow _ _ _ _ _ _ _
                  simp only [List.map_append, List.map_take] at ho3 ⊢
                  exact ho3
                have HG3 := Lib.hid (grow_own HGd.out HOd.out (Nat.le_refl _) hk3)
                have hz3 : w.heap.size ≤ w3.heap.size := HG3.out.size
                have HN3 := Lib.hid (HNd.out.keep hk3 (fun b o e hb => by have := own_ge HOd.out b hb; have := HBA.out hm0 b o e; omega))
                clear ho3 hk3
                go_wp2_with fail
                go_roundw
                case rel => exact ⟨_, m - c1, c1 - c1, k + c1, l.drop c1, _, by rw [show m - c1 = 0 by omega, Nat.sub_self], by omega, by omega, by (have h9 := HN3.out.drop c1 (by omega)); rw [Nums.off, if_pos rfl] at h9; exact h9, fun h0 => absurd h0 (by omega), HO3.out, HG3.out, by show _ = _; rw [← he.out, HRR.out]; simp only [List.append_nil, List.append_assoc]⟩
                case measure => simp only [lenOf_slice]; omega
          · by_cases h4 : 4 < t
            · have hr := packL_run HRn.out
              rw [if_pos (by omega), show min t 4 = 4 by omega, ← HRn.out.take 4 (by omega)] at hr
              have HRR := Lib.hid hr
              have HS := Lib.hid ((HNd.out.take 4 (by omega)).src)
              clear hr
              go_wp2_with (at_builtin; refine wpList_appS rfl (.tmp 25) (.tmp 29) 22 5 rfl Try.underlying22 Try.infoU8' rfl (by decide) w.heap.size _ k _ rfl HOd.out hzd _ 4 c1 _ rfl HS.out (by unfold maxLen; omega) (by omega) ?_)
              intro A3 c3 w3 ho3 hk3 _
              have HO3 : Hid (w3.ownsRow w.heap.size 5 1 (.slice A3 (k + 4) c3) (k + 4) ((out ++ l.take 4).map (Value.int .u8))) := by
                show World.ownsRow _ _ _ _ _ _ _
                simp only [List.map_append, List.map_take] at ho3 ⊢
                exact ho3
              have HG3 := Lib.hid (grow_own HGd.out HOd.out (Nat.le_refl _) hk3)
              have hz3 : w.heap.size ≤ w3.heap.size := HG3.out.size
              have HN3 := Lib.hid (HNd.out.keep hk3 (fun b o e hb => by have := own_ge HOd.out b hb; have := HBA.out hm0 b o e; omega))
              clear ho3 hk3
              go_wp2_with (at_builtin; refine wpList_app1 rfl (.tmp 33) (.tmp 37) 22 5 rfl Try.underlying22 Try.infoU8' rfl w.heap.size _ (k + 4) _ rfl HO3.out hz3 rfl rfl (by unfold maxLen; omega) (by omega) ?_)
              intro g cap w4 ho4 hk4 _
              have HO4 : Hid (w4.ownsRow w.heap.size 5 1 (.slice (some ⟨g, 0, none⟩) (k + 4 + 1) cap) (k + 4 + 1) ((out ++ l.take 4 ++ [(t : Int) - 4]).map (Value.int .u8))) := by
                show World.ownsRow _ _ _ _ _ _ _
                simp only [List.map_append, List.map_take, List.append_assoc] at ho4 ⊢
                exact ho4
              have HG4 := Lib.hid (grow_own HG3.out HO3.out (Nat.le_refl _) hk4)
              have HN4 := Lib.hid (HN3.out.keep hk4 (fun b o e hb => by have := own_ge HO3.out b hb; have := HBA.out hm0 b o e; omega))
              clear ho4 hk4
              go_wp2_with fail
              go_roundw
              case rel => exact ⟨_, m - t, c1 - t, k + 4 + 1, l.drop t, _, rfl, by omega, by omega, Nums.drop_lt HN4.out t (by omega) (by omega), fun _ b o e => HBA.out hm0 b _ (by injection e with e; injection e with e _; rw [e]), HO4.out, HG4.out, by show _ = _; rw [← he.out, HRR.out]; simp only [List.append_assoc]⟩
              case measure => simp only [lenOf_slice]; omega
            · by_cases h4b : 4 ≤ t
              · have hr := packL_run HRn.out
                rw [if_pos (by omega), show min t 4 = t by omega, ← HRn.out.take t (by omega)] at hr
                have HRR := Lib.hid hr
                have HS := Lib.hid ((HNd.out.take t (by omega)).src)
                clear hr
                go_wp2_with (at_builtin; refine wpList_appS rfl (.tmp 25) (.tmp 29) 22 5 rfl Try.underlying22 Try.infoU8' rfl (by decide) w.heap.size _ k _ rfl HOd.out hzd _ t c1 _ rfl HS.out (by unfold maxLen; omega) (by omega) ?_)
                intro A3 c3 w3 ho3 hk3 _
                have HO3 : Hid (w3.ownsRow w.heap.size 5 1 (.slice A3 (k + t) c3) (k + t) ((out ++ l.take t).map (Value.int .u8))) := by
                  show World.ownsRow _ _ _ _ _ _ _
                  simp only [List.map_append, List.map_take] at ho3 ⊢
                  exact ho3
                have HG3 := Lib.hid (grow_own HGd.out HOd.out (Nat.le_refl _) hk3)
                have hz3 : w.heap.size ≤ w3.heap.size := HG3.out.size
                have HN3 := Lib.hid (HNd.out.keep hk3 (fun b o e hb => by have := own_ge HOd.out b hb; have := HBA.out hm0 b o e; omega))
                clear ho3 hk3
                go_wp2_with (at_builtin; refine wpList_app1 rfl (.tmp 33) (.tmp 37) 22 5 rfl Try.underlying22 Try.infoU8' rfl w.heap.size _ (k + t) _ rfl HO3.out hz3 rfl rfl (by unfold maxLen; omega) (by omega) ?_)
                intro g cap w4 ho4 hk4 _
                have HO4 : Hid (w4.ownsRow w.heap.size 5 1 (.slice (some ⟨g, 0, none⟩) (k + t + 1) cap) (k + t + 1) ((out ++ l.take t ++ [(t : Int) - 4]).map (Value.int .u8))) := by
                  show World.ownsRow _ _ _ _ _ _ _
                  simp only [List.map_append, List.map_take, List.append_assoc] at ho4 ⊢
                  exact ho4
                have HG4 := Lib.hid (grow_own HG3.out HO3.out (Nat.le_refl _) hk4)
                have HN4 := Lib.hid (HN3.out.keep hk4 (fun b o e hb => by have := own_ge HO3.out b hb; have := HBA.out hm0 b o e; omega))
                clear ho4 hk4
                go_wp2_with fail
                go_roundw
                case rel => exact ⟨_, m - t, c1 - t, k + t + 1, l.drop t, _, rfl, by omega, by omega, Nums.drop_lt HN4.out t (by omega) (by omega), fun _ b o e => HBA.out hm0 b _ (by injection e with e; injection e with e _; rw [e]), HO4.out, HG4.out, by show _ = _; rw [← he.out, HRR.out]; simp only [List.append_assoc]⟩
                case measure => simp only [lenOf_slice]; omega
              · have hr := packL_run HRn.out
                rw [if_neg (by omega), show min t 4 = t by omega, ← HRn.out.take t (by omega)] at hr
                have HRR := Lib.hid hr
                have HS := Lib.hid ((HNd.out.take t (by omega)).src)
                clear hr
                go_wp2_with (at_builtin; refine wpList_appS rfl (.tmp 25) (.tmp 29) 22 5 rfl Try.underlying22 Try.infoU8' rfl (by decide) w.heap.size _ k _ rfl HOd.out hzd _ t c1 _ rfl HS.out (by unfold maxLen; omega) (by omega) ?_)
                intro A3 c3 w3 ho3 hk3 _
                have HO3 : Hid (w3.ownsRow w.heap.size 5 1 (.slice A3 (k + t) c3) (k + t) ((out ++ l.take t).map (Value.int .u8))) := by
                  show World.ownsRow _ _ _ _ _ _ _
                  simp only [List.map_append, List.map_take] at ho3 ⊢
                  exact ho3
                have HG3 := Lib.hid (grow_own HGd.out HOd.out (Nat.le_refl _) hk3)
                have hz3 : w.heap.size ≤ w3.heap.size := HG3.out.size
                have HN3 := Lib.hid (HNd.out.keep hk3 (fun b o e hb => by have := own_ge HOd.out b hb; have := HBA.out hm0 b o e; omega))
                clear ho3 hk3
                go_wp2_with fail
                go_roundw
                case rel => exact ⟨_, m - t, c1 - t, k + t, l.drop t, _, rfl, by omega, by omega, Nums.drop_lt HN3.out t (by omega) (by omega), fun _ b o e => HBA.out hm0 b _ (by injection e with e; injection e with e _; rw [e]), HO3.out, HG3.out, by show _ = _; rw [← he.out, HRR.out]; simp only [List.append_nil, List.append_assoc]⟩
                case measure => simp only [lenOf_slice]; omega
    · obtain rfl : m = 0 := by omega
      have he2 := he.out
      rw [List.eq_nil_of_length_eq_zero HN.out.len, packL, List.append_nil] at he2
      have HE2 := Lib.hid he2
      clear he2
      go_wp2_with fail
      go_ret
      rw [← HE2.out]
      exact ⟨_, _, k, rfl, HO.out, HG.out⟩
end Go.Proofs.Yteccmnjcmmbhlaa
