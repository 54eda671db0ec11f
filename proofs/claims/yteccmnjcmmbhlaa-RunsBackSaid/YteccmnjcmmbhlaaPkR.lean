/- The document's Pack. -/
import Derived.Test.YteccmnjcmmbhlaaPkW
namespace Go.Proofs.Yteccmnjcmmbhlaa
open Go.RowKit
set_option linter.unusedVariables false
set_option linter.unusedSimpArgs false

set_option maxRecDepth 4000 in
set_option maxHeartbeats 4000000 in
theorem refPack_is (w : World) (A : Option Addr) (n c : Nat) (xs : List Int) (h : Nums .u8 w A n c xs) (hn : n ≤ 70368744177664) :
    Calls Try.prog 24 #[.slice A n c] w fun e w' => ∃ A' c' k, e = .returned (.slice A' k c') ∧ w'.ownsRow w.heap.size 5 1 (.slice A' k c') k ((packL xs).map (Value.int .u8)) ∧ Grow w w' := by
  have HL := Lib.hid h.len
  have H := Lib.hid h
  have hcap := h.cap
  clear h
  generalize hRR : packL xs = R
  have HR := Lib.hid hRR
  clear hRR
  go_enter Try.func24, Try.ntmps24
  go_wp2_with fail
  go_loopw [3, 4] (fun vo va wr => ∃ (a k : Nat) (out : List Int), va = .int .i64 a ∧ a ≤ n ∧ 4 * k ≤ 5 * a ∧ wr.ownsRow w.heap.size 5 1 vo k (out.map (Value.int .u8)) ∧ Grow w wr ∧ Hid (out ++ packL (xs.drop a) = R)) (fun _ va _ => n - (intOf va).toNat)
  case atStart => exact ⟨0, 0, [], rfl, by omega, by omega, own_nil _ _ _, Keeps.refl _ _, by show _ = _; rw [List.nil_append, List.drop_zero, HR.out]⟩
  case round =>
    obtain ⟨a, k, out, rfl, han, hkm, ho, hg, he⟩ := hrel
    obtain ⟨A2, c2, rfl⟩ := row_form ho
    have HO := Lib.hid ho
    have HG := Lib.hid hg
    have hsz : w.heap.size ≤ wr.heap.size := hg.size
    clear ho hg
    by_cases hin : a < n
    · obtain ⟨ba, oa, rfl, hcell⟩ := H.out.at_ (by omega)
      clear hcell
      have hgt : ∀ j, (xs.drop a).getD j 0 = xs.getD (a + j) 0 := fun j => by simp [List.getD_eq_getElem?_getD, List.getElem?_drop]
      have hdl : (xs.drop a).length = n - a := by rw [List.length_drop, HL.out]
      have HDL := Lib.hid hdl
      have HGT := Lib.hid hgt
      have HC0 : Hid (∀ w7, Grow w w7 → w7.cell? ⟨ba, oa + a, none⟩ = some (.int .u8 ((xs.drop a).getD 0 0))) := fun w7 h7 => by
        obtain ⟨b9, o9, e9, h9⟩ := (H.out.grow h7).at_ (by omega)
        injection e9 with e9
        injection e9 with e9 e8
        subst e9; subst e8
        rw [hgt 0, Nat.add_zero, h9 a hin]
      clear hgt hdl
      go_wp2_with fail
      obtain ⟨wo, hwo⟩ : ∃ wo, wo = wr := ⟨_, rfl⟩
      go_loopw [5] (fun vt wr => ∃ (t : Nat), vt = .int .i64 t ∧ a + t ≤ n ∧ t ≤ 259 ∧ Hid (∀ i, i < t → (xs.drop a).getD i 0 = (xs.drop a).getD 0 0) ∧ Grow wo wr) (fun vt _ => n - (intOf vt).toNat)
      case atStart => exact ⟨0, rfl, by omega, by omega, fun i hi => by omega, by rw [hwo]; exact Keeps.refl _ _⟩
      case round =>
        obtain ⟨t, rfl, htn, ht259, HA, hgo⟩ := hrel
        subst hwo
        have H1 := Lib.hid (H.out.grow (Keeps.trans HG.out hgo fun _ _ h => h))
        by_cases htl : a + t < n
        · by_cases ht2 : t < 259
          · have HC : Hid (∀ w7, Grow wo w7 → w7.cell? ⟨ba, oa + (a + t), none⟩ = some (.int .u8 ((xs.drop a).getD t 0)) ∧ w7.cell? ⟨ba, oa + a, none⟩ = some (.int .u8 ((xs.drop a).getD 0 0))) := fun w7 h7 => by
              have h8 : Grow w w7 := Keeps.trans HG.out h7 fun _ _ h => h
              refine ⟨?_, HC0.out w7 h8⟩
              obtain ⟨b9, o9, e9, h9⟩ := (H.out.grow h8).at_ (by omega)
              injection e9 with e9
              injection e9 with e9 e8
              subst e9; subst e8
              rw [HGT.out t, h9 (a + t) (by omega)]
            obtain ⟨x, hx⟩ : ∃ x, x = (xs.drop a).getD 0 0 := ⟨_, rfl⟩
            obtain ⟨y, hy⟩ : ∃ y, y = (xs.drop a).getD t 0 := ⟨_, rfl⟩
            rw [← hx, ← hy] at HC
            have HX := Lib.hid hx
            have HY := Lib.hid hy
            clear hx hy
            by_cases heq : y = x
            · subst heq
              go_wp2_with fail
              refine wp_region_seq (by kernel_rfl) (by kernel_rfl) ?_
              have HNd := Lib.hid (H1.out.grow (Keeps.refl (fun _ => False) wr).drew)
              have HOd := Lib.hid (show wr.drew.ownsRow w.heap.size 5 1 (.slice A2 k c2) k (out.map (Value.int .u8)) from owns_keep HO.out hgo.drew fun _ _ h => h)
              have HGd : Hid (Grow w wr.drew) := (Keeps.trans HG.out hgo fun _ _ h => h).drew
              have HGo : Hid (Grow wo wr.drew) := hgo.drew
              have hzd : w.heap.size ≤ wr.drew.heap.size := HGd.out.size
              have cd := (HC.out _ HGo.out).1
              have ce := (HC.out _ HGo.out).2
              clear hgo H1
              generalize wr.drew = wd at *
              go_wp2_with fail
              refine ⟨by kernel_rfl, ?_⟩
              go_wp2_with fail
              go_roundw
              case rel => exact ⟨t + 1, by go_num, by omega, by omega, fun i hi => by
                by_cases hit : i < t
                · exact HA.out i hit
                · rw [show i = t by omega, ← HX.out, ← HY.out], HGo.out⟩
              case measure => simp [intOf]; omega
            · have e5 : ((y : Int) == (x : Int)) = false := by simpa using heq
              have HRn : Hid (IsRun (xs.drop a) t) := ⟨by
                by_cases ht0 : t = 0
                · subst ht0; exact absurd (by rw [HY.out, HX.out]) heq
                · omega, by rw [HDL.out]; omega, ht259, HA.out, .inr (.inr (by rw [← HX.out, ← HY.out]; exact heq))⟩
              clear heq
              go_wp2_with fail
              refine wp_region_seq (by kernel_rfl) (by kernel_rfl) ?_
              have HNd := Lib.hid (H1.out.grow (Keeps.refl (fun _ => False) wr).drew)
              have HOd := Lib.hid (show wr.drew.ownsRow w.heap.size 5 1 (.slice A2 k c2) k (out.map (Value.int .u8)) from owns_keep HO.out hgo.drew fun _ _ h => h)
              have HGd : Hid (Grow w wr.drew) := (Keeps.trans HG.out hgo fun _ _ h => h).drew
              have HGo : Hid (Grow wo wr.drew) := hgo.drew
              have hzd : w.heap.size ≤ wr.drew.heap.size := HGd.out.size
              have cd := (HC.out _ HGo.out).1
              have ce := (HC.out _ HGo.out).2
              clear hgo H1
              generalize wr.drew = wd at *
              go_wp2_with fail
              refine ⟨by kernel_rfl, ?_⟩
              have hpos := HRn.out.pos
              have hz9 := HC0.out _ HGd.out
              obtain ⟨z, hz⟩ : ∃ z, z = (xs.drop a).getD 0 0 := ⟨_, rfl⟩
              rw [← hz] at hz9
              have HX9 := Lib.hid hz
              clear hz
              go_wp2_with fail
              go_loopw [3, 6] (fun vo vi wr => ∃ (i : Nat) (o2 : List Int), vi = .int .i64 i ∧ i ≤ t ∧ i ≤ 4 ∧ wr.ownsRow w.heap.size 5 1 vo (k + i) (o2.map (Value.int .u8)) ∧ Grow w wr ∧ Hid (o2 = out ++ List.replicate i z)) (fun _ vi _ => 4 - (intOf vi).toNat)
              case atStart => exact ⟨0, out, rfl, by omega, by omega, HOd.out, HGd.out, by simp [Hid]⟩
              case round =>
                clear hz9
                obtain ⟨i, o2, rfl, hit, hi4, ho2, hg2, he2⟩ := hrel
                obtain ⟨A3, c3, rfl⟩ := row_form ho2
                have HO2 := Lib.hid ho2
                have HG2 := Lib.hid hg2
                have hz2 : w.heap.size ≤ wr.heap.size := hg2.size
                have hc9 := HC0.out _ hg2
                rw [← HX9.out] at hc9
                clear ho2 hg2
                by_cases hgo : i < t ∧ i < 4
                · obtain ⟨hg1, hg3⟩ := hgo
                  go_wp2_with (at_builtin; refine wpList_app1 rfl (.tmp 45) (.tmp 50) 22 5 rfl Try.underlying22 Try.infoU8' rfl w.heap.size _ (k + i) _ rfl HO2.out hz2 rfl rfl (by unfold maxLen; omega) (by omega) ?_)
                  intro g cap w3 ho3 hk3 _
                  have HO3 : Hid (w3.ownsRow w.heap.size 5 1 (.slice (some ⟨g, 0, none⟩) (k + i + 1) cap) (k + i + 1) ((o2 ++ [z]).map (Value.int .u8))) := by
                    show World.ownsRow _ _ _ _ _ _ _
                    rw [List.map_append]
                    exact ho3
                  have HG3 := Lib.hid (grow_own HG2.out HO2.out (Nat.le_refl _) hk3)
                  clear ho3 hk3
                  go_wp2_with fail
                  go_roundw
                  case rel => exact ⟨i + 1, _, by go_num, by omega, by omega, HO3.out, HG3.out, by show _ = _; rw [he2.out, List.append_assoc, ← List.replicate_succ']⟩
                  case measure => simp [intOf]; omega
                · have hr := packL_run HRn.out
                  by_cases h4 : 4 ≤ t
                  · obtain rfl : i = 4 := by omega
                    rw [if_pos h4, Nat.min_eq_right h4, ← HX9.out] at hr
                    have HRR := Lib.hid hr
                    clear hr hgo hc9
                    rcases Nat.lt_or_ge 4 t with h44 | h44
                    all_goals
                     go_wp2_with (at_builtin; refine wpList_app1 rfl (.tmp 54) (.tmp 58) 22 5 rfl Try.underlying22 Try.infoU8' rfl w.heap.size _ (k + 4) _ rfl HO2.out hz2 rfl rfl (by unfold maxLen; omega) (by omega) ?_)
                     intro g cap w3 ho3 hk3 _
                     have HO3 : Hid (w3.ownsRow w.heap.size 5 1 (.slice (some ⟨g, 0, none⟩) (k + 4 + 1) cap) (k + 4 + 1) ((o2 ++ [(t : Int) - 4]).map (Value.int .u8))) := by
                       show World.ownsRow _ _ _ _ _ _ _
                       rw [List.map_append]
                       exact ho3
                     have HG3 := Lib.hid (grow_own HG2.out HO2.out (Nat.le_refl _) hk3)
                     clear ho3 hk3
                     go_wp2_with fail
                     go_roundw
                     case rel => exact ⟨a + t, k + 4 + 1, _, by go_num, by omega, by omega, HO3.out, HG3.out, by show _ = _; rw [← he.out, HRR.out, he2.out, List.drop_drop]; simp only [List.append_assoc]⟩
                     case measure => simp [intOf]; omega
                  · obtain rfl : i = t := by omega
                    rw [if_neg h4, Nat.min_eq_left (by omega), ← HX9.out] at hr
                    have HRR := Lib.hid hr
                    clear hr hgo hc9
                    go_wp2_with fail
                    go_roundw
                    case rel => exact ⟨a + i, k + i, _, by go_num, by omega, by omega, HO2.out, HG2.out, by show _ = _; rw [← he.out, HRR.out, he2.out, List.drop_drop]; simp only [List.append_nil, List.append_assoc]⟩
                    case measure => simp [intOf]; omega
          · have HRn : Hid (IsRun (xs.drop a) t) := ⟨by omega, by rw [HDL.out]; omega, by omega, HA.out, .inr (.inl (by omega))⟩
            go_wp2_with fail
            refine wp_region_seq (by kernel_rfl) (by kernel_rfl) ?_
            have HNd := Lib.hid (H1.out.grow (Keeps.refl (fun _ => False) wr).drew)
            have HOd := Lib.hid (show wr.drew.ownsRow w.heap.size 5 1 (.slice A2 k c2) k (out.map (Value.int .u8)) from owns_keep HO.out hgo.drew fun _ _ h => h)
            have HGd : Hid (Grow w wr.drew) := (Keeps.trans HG.out hgo fun _ _ h => h).drew
            have HGo : Hid (Grow wo wr.drew) := hgo.drew
            have hzd : w.heap.size ≤ wr.drew.heap.size := HGd.out.size
            clear hgo H1
            generalize wr.drew = wd at *
            go_wp2_with fail
            refine ⟨by kernel_rfl, ?_⟩
            have hpos := HRn.out.pos
            have hx9 := HC0.out _ HGd.out
            obtain ⟨x, hx⟩ : ∃ x, x = (xs.drop a).getD 0 0 := ⟨_, rfl⟩
            rw [← hx] at hx9
            have HX := Lib.hid hx
            clear hx
            go_wp2_with fail
            go_loopw [3, 6] (fun vo vi wr => ∃ (i : Nat) (o2 : List Int), vi = .int .i64 i ∧ i ≤ t ∧ i ≤ 4 ∧ wr.ownsRow w.heap.size 5 1 vo (k + i) (o2.map (Value.int .u8)) ∧ Grow w wr ∧ Hid (o2 = out ++ List.replicate i x)) (fun _ vi _ => 4 - (intOf vi).toNat)
            case atStart => exact ⟨0, out, rfl, by omega, by omega, HOd.out, HGd.out, by simp [Hid]⟩
            case round =>
              clear hx9
              obtain ⟨i, o2, rfl, hit, hi4, ho2, hg2, he2⟩ := hrel
              obtain ⟨A3, c3, rfl⟩ := row_form ho2
              have HO2 := Lib.hid ho2
              have HG2 := Lib.hid hg2
              have hz2 : w.heap.size ≤ wr.heap.size := hg2.size
              have hc9 := HC0.out _ hg2
              rw [← HX.out] at hc9
              clear ho2 hg2
              by_cases hgo : i < t ∧ i < 4
              · obtain ⟨hg1, hg3⟩ := hgo
                go_wp2_with (at_builtin; refine wpList_app1 rfl (.tmp 45) (.tmp 50) 22 5 rfl Try.underlying22 Try.infoU8' rfl w.heap.size _ (k + i) _ rfl HO2.out hz2 rfl rfl (by unfold maxLen; omega) (by omega) ?_)
                intro g cap w3 ho3 hk3 _
                have HO3 : Hid (w3.ownsRow w.heap.size 5 1 (.slice (some ⟨g, 0, none⟩) (k + i + 1) cap) (k + i + 1) ((o2 ++ [x]).map (Value.int .u8))) := by
                  show World.ownsRow _ _ _ _ _ _ _
                  rw [List.map_append]
                  exact ho3
                have HG3 := Lib.hid (grow_own HG2.out HO2.out (Nat.le_refl _) hk3)
                clear ho3 hk3
                go_wp2_with fail
                go_roundw
                case rel => exact ⟨i + 1, _, by go_num, by omega, by omega, HO3.out, HG3.out, by show _ = _; rw [he2.out, List.append_assoc, ← List.replicate_succ']⟩
                case measure => simp [intOf]; omega
              · have hr := packL_run HRn.out
                by_cases h4 : 4 ≤ t
                · obtain rfl : i = 4 := by omega
                  rw [if_pos h4, Nat.min_eq_right h4, ← HX.out] at hr
                  have HRR := Lib.hid hr
                  clear hr hgo hc9
                  have h44 : 4 < t := by omega
                  all_goals
                   go_wp2_with (at_builtin; refine wpList_app1 rfl (.tmp 54) (.tmp 58) 22 5 rfl Try.underlying22 Try.infoU8' rfl w.heap.size _ (k + 4) _ rfl HO2.out hz2 rfl rfl (by unfold maxLen; omega) (by omega) ?_)
                   intro g cap w3 ho3 hk3 _
                   have HO3 : Hid (w3.ownsRow w.heap.size 5 1 (.slice (some ⟨g, 0, none⟩) (k + 4 + 1) cap) (k + 4 + 1) ((o2 ++ [(t : Int) - 4]).map (Value.int .u8))) := by
                     show World.ownsRow _ _ _ _ _ _ _
                     rw [List.map_append]
                     exact ho3
                   have HG3 := Lib.hid (grow_own HG2.out HO2.out (Nat.le_refl _) hk3)
                   clear ho3 hk3
                   go_wp2_with fail
                   go_roundw
                   case rel => exact ⟨a + t, k + 4 + 1, _, by go_num, by omega, by omega, HO3.out, HG3.out, by show _ = _; rw [← he.out, HRR.out, he2.out, List.drop_drop]; simp only [List.append_assoc]⟩
                   case measure => simp [intOf]; omega
                · omega
        · have HRn : Hid (IsRun (xs.drop a) t) := ⟨by omega, by rw [HDL.out]; omega, ht259, HA.out, .inl (by rw [HDL.out]; omega)⟩
          go_wp2_with fail
          refine wp_region_seq (by kernel_rfl) (by kernel_rfl) ?_
          have HNd := Lib.hid (H1.out.grow (Keeps.refl (fun _ => False) wr).drew)
          have HOd := Lib.hid (show wr.drew.ownsRow w.heap.size 5 1 (.slice A2 k c2) k (out.map (Value.int .u8)) from owns_keep HO.out hgo.drew fun _ _ h => h)
          have HGd : Hid (Grow w wr.drew) := (Keeps.trans HG.out hgo fun _ _ h => h).drew
          have HGo : Hid (Grow wo wr.drew) := hgo.drew
          have hzd : w.heap.size ≤ wr.drew.heap.size := HGd.out.size
          clear hgo H1
          generalize wr.drew = wd at *
          go_wp2_with fail
          refine ⟨by kernel_rfl, ?_⟩
          have hpos := HRn.out.pos
          have hx9 := HC0.out _ HGd.out
          obtain ⟨x, hx⟩ : ∃ x, x = (xs.drop a).getD 0 0 := ⟨_, rfl⟩
          rw [← hx] at hx9
          have HX := Lib.hid hx
          clear hx
          go_wp2_with fail
          go_loopw [3, 6] (fun vo vi wr => ∃ (i : Nat) (o2 : List Int), vi = .int .i64 i ∧ i ≤ t ∧ i ≤ 4 ∧ wr.ownsRow w.heap.size 5 1 vo (k + i) (o2.map (Value.int .u8)) ∧ Grow w wr ∧ Hid (o2 = out ++ List.replicate i x)) (fun _ vi _ => 4 - (intOf vi).toNat)
          case atStart => exact ⟨0, out, rfl, by omega, by omega, HOd.out, HGd.out, by simp [Hid]⟩
          case round =>
            clear hx9
            obtain ⟨i, o2, rfl, hit, hi4, ho2, hg2, he2⟩ := hrel
            obtain ⟨A3, c3, rfl⟩ := row_form ho2
            have HO2 := Lib.hid ho2
            have HG2 := Lib.hid hg2
            have hz2 : w.heap.size ≤ wr.heap.size := hg2.size
            have hc9 := HC0.out _ hg2
            rw [← HX.out] at hc9
            clear ho2 hg2
            by_cases hgo : i < t ∧ i < 4
            · obtain ⟨hg1, hg3⟩ := hgo
              go_wp2_with (at_builtin; refine wpList_app1 rfl (.tmp 45) (.tmp 50) 22 5 rfl Try.underlying22 Try.infoU8' rfl w.heap.size _ (k + i) _ rfl HO2.out hz2 rfl rfl (by unfold maxLen; omega) (by omega) ?_)
              intro g cap w3 ho3 hk3 _
              have HO3 : Hid (w3.ownsRow w.heap.size 5 1 (.slice (some ⟨g, 0, none⟩) (k + i + 1) cap) (k + i + 1) ((o2 ++ [x]).map (Value.int .u8))) := by
                show World.ownsRow _ _ _ _ _ _ _
                rw [List.map_append]
                exact ho3
              have HG3 := Lib.hid (grow_own HG2.out HO2.out (Nat.le_refl _) hk3)
              clear ho3 hk3
              go_wp2_with fail
              go_roundw
              case rel => exact ⟨i + 1, _, by go_num, by omega, by omega, HO3.out, HG3.out, by show _ = _; rw [he2.out, List.append_assoc, ← List.replicate_succ']⟩
              case measure => simp [intOf]; omega
            · have hr := packL_run HRn.out
              by_cases h4 : 4 ≤ t
              · obtain rfl : i = 4 := by omega
                rw [if_pos h4, Nat.min_eq_right h4, ← HX.out] at hr
                have HRR := Lib.hid hr
                clear hr hgo hc9
                rcases Nat.lt_or_ge 4 t with h44 | h44
                all_goals
                 go_wp2_with (at_builtin; refine wpList_app1 rfl (.tmp 54) (.tmp 58) 22 5 rfl Try.underlying22 Try.infoU8' rfl w.heap.size _ (k + 4) _ rfl HO2.out hz2 rfl rfl (by unfold maxLen; omega) (by omega) ?_)
                 intro g cap w3 ho3 hk3 _
                 have HO3 : Hid (w3.ownsRow w.heap.size 5 1 (.slice (some ⟨g, 0, none⟩) (k + 4 + 1) cap) (k + 4 + 1) ((o2 ++ [(t : Int) - 4]).map (Value.int .u8))) := by
                   show World.ownsRow _ _ _ _ _ _ _
                   rw [List.map_append]
                   exact ho3
                 have HG3 := Lib.hid (grow_own HG2.out HO2.out (Nat.le_refl _) hk3)
                 clear ho3 hk3
                 go_wp2_with fail
                 go_roundw
                 case rel => exact ⟨a + t, k + 4 + 1, _, by go_num, by omega, by omega, HO3.out, HG3.out, by show _ = _; rw [← he.out, HRR.out, he2.out, List.drop_drop]; simp only [List.append_assoc]⟩
                 case measure => simp [intOf]; omega
              · obtain rfl : i = t := by omega
                rw [if_neg h4, Nat.min_eq_left (by omega), ← HX.out] at hr
                have HRR := Lib.hid hr
                clear hr hgo hc9
                go_wp2_with fail
                go_roundw
                case rel => exact ⟨a + i, k + i, _, by go_num, by omega, by omega, HO2.out, HG2.out, by show _ = _; rw [← he.out, HRR.out, he2.out, List.drop_drop]; simp only [List.append_nil, List.append_assoc]⟩
                case measure => simp [intOf]; omega
    · obtain rfl : n = a := by omega
      have he2 := he.out
      rw [List.drop_eq_nil_of_le (by rw [HL.out]; omega), packL, List.append_nil] at he2
      have HE2 := Lib.hid he2
      clear he2
      go_wp2_with fail
      go_ret
      rw [← HE2.out]
      exact ⟨_, _, k, rfl, HO.out, HG.out⟩
end Go.Proofs.Yteccmnjcmmbhlaa
