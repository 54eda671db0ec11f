/- The document's Unpack. -/
import Derived.Test.YteccmnjcmmbhlaaUnW
namespace Go.Proofs.Yteccmnjcmmbhlaa
open Go.RowKit
set_option linter.unusedVariables false
set_option linter.unusedSimpArgs false

set_option maxRecDepth 4000 in
set_option maxHeartbeats 4000000 in
theorem refUnpack_is (w : World) (A : Option Addr) (n c : Nat) (xs : List Int) (most : Int) (h : Nums .u8 w A n c xs) (hm : inKind .i64 most) (hn : n ≤ 1099511627776) :
    Calls Try.prog 23 #[.slice A n c, .int .i64 most] w fun e w' => ∃ A' c' k, e = .returned (.tuple #[.slice A' k c', .int .i64 (unpR xs most).2]) ∧ w'.ownsRow w.heap.size 5 1 (.slice A' k c') k ((unpR xs most).1.map (Value.int .u8)) ∧ Grow w w' := by
  have hm := inKind_i64 hm
  have HL := Lib.hid h.len
  have hR : Hid (unpR xs most = if most < 0 then ([], 2) else unp most xs 0 0 []) := rfl
  have H := Lib.hid h
  have hcap := h.cap
  generalize unpR xs most = R at *
  clear h
  by_cases h1 : most < 0
  · have hR2 : R = ([], 2) := by rw [hR.out, if_pos h1]
    subst hR2
    go_enter Try.func23, Try.ntmps23
    go_wp2_with fail
    go_ret2
    exact ⟨none, 0, 0, rfl, own_nil _ _ _, Keeps.refl _ _⟩
  have HR : Hid (R = unp most xs 0 0 []) := by show _ = _; rw [hR.out, if_neg h1]
  clear hR
  go_enter Try.func23, Try.ntmps23
  go_wp2_with fail
  go_loopw [6, 7, 8] (fun vo vl vi wr => ∃ (i like k : Nat) (out : List Int), vi = .int .i64 i ∧ i ≤ n ∧ vl = .int .i64 like ∧ like ≤ 4 ∧ like ≤ i ∧ k + 52 * like ≤ 52 * i + like ∧ (k : Int) ≤ most ∧ wr.ownsRow w.heap.size 5 1 vo k (out.map (Value.int .u8)) ∧ Grow w wr ∧ Hid (unp most (xs.drop i) (xs.getD (i - 1) 0) like out = unp most xs 0 0 [])) (fun _ _ vi _ => n - (intOf vi).toNat)
  case atStart => exact ⟨0, 0, 0, [], rfl, by omega, rfl, by omega, by omega, by omega, by omega, own_nil _ _ _, Keeps.refl _ _, unp_p _ _ _ _ _⟩
  case round =>
    obtain ⟨i, like, k, out, rfl, hi, rfl, hl4, hli, hkb, hkm, ho, hg, he⟩ := hrel
    obtain ⟨A1, c1, rfl⟩ := row_form ho
    have hlo : out.length = k := by have := ho.1; simpa using this
    have HO := Lib.hid ho
    have HG := Lib.hid hg
    have hsz : w.heap.size ≤ wr.heap.size := hg.size
    have H1 := Lib.hid (H.out.grow hg)
    clear ho hg
    by_cases hin : i < n
    · have Hd := unp_step most (xs.getD (i - 1) 0) xs i like out (by rw [HL.out]; exact hin)
      rw [hlo] at Hd
      clear hlo
      have hx := H1.out.byte i
      have hy := H1.out.byte (i - 1)
      obtain ⟨ba, oa, rfl, hcell⟩ := H1.out.at_ (by omega)
      have hc := hcell i hin
      have hp := hcell (i - 1) (by omega)
      obtain ⟨b, hbx⟩ : ∃ b : Nat, xs.getD i 0 = (b : Int) := ⟨(xs.getD i 0).toNat, by omega⟩
      obtain ⟨p, hpx⟩ : ∃ p : Nat, xs.getD (i - 1) 0 = (p : Int) := ⟨(xs.getD (i - 1) 0).toNat, by omega⟩
      rw [hbx] at hx hc Hd
      rw [hpx] at hy hp Hd he
      have HBX := Lib.hid hbx
      have HPX := Lib.hid hpx
      have hbn : b < 256 := by omega
      have hpn : p < 256 := by omega
      clear hcell hbx hpx hx hy
      by_cases h4 : like = 4
      · subst h4
        rw [if_pos rfl] at Hd
        obtain ⟨j, rfl⟩ : ∃ j, i = j + 1 := ⟨i - 1, by omega⟩
        simp only [Nat.add_sub_cancel] at *
        by_cases hb : most - (k : Int) < b
        · rw [if_pos hb] at Hd
          have HR2 : Hid (R = ([], 3)) := by show _ = _; rw [HR.out, ← he.out, Hd]
          clear Hd he
          go_wp2_with fail
          go_ret2
          rw [HR2.out]
          exact ⟨none, 0, 0, rfl, own_nil _ _ _, HG.out⟩
        · rw [if_neg hb] at Hd
          have HD := Lib.hid Hd
          clear Hd
          have HP : Hid (∀ w7, Grow w w7 → w7.cell? ⟨ba, oa + j, none⟩ = some (.int .u8 (p : Int))) := fun w7 h7 => by
            obtain ⟨b9, o9, e9, h9⟩ := (H.out.grow h7).at_ (by omega)
            injection e9 with e9
            injection e9 with e9 e8
            subst e9; subst e8
            rw [h9 j (by omega), HPX.out]
          clear hp
          go_wp2_with fail
          clear hc
          go_loopw [6, 10] (fun vo vt wr => ∃ (t : Nat) (o2 : List Int), vt = .int .i64 t ∧ t ≤ b ∧ wr.ownsRow w.heap.size 5 1 vo (k + t) (o2.map (Value.int .u8)) ∧ Grow w wr ∧ Hid (o2 = out ++ List.replicate t (p : Int))) (fun _ vt _ => b - (intOf vt).toNat)
          case atStart => exact ⟨0, out, rfl, by omega, HO.out, HG.out, by simp [Hid]⟩
          case round =>
            obtain ⟨t, o2, rfl, htb, ho2, hg2, he2⟩ := hrel
            obtain ⟨A2, c2, rfl⟩ := row_form ho2
            have HO2 := Lib.hid ho2
            have HG2 := Lib.hid hg2
            have hz2 : w.heap.size ≤ wr.heap.size := hg2.size
            have hp := HP.out _ hg2
            clear ho2 hg2
            by_cases htb2 : t < b
            · go_wp2_with (at_builtin; refine wpList_app1 rfl (.tmp 37) (.tmp 43) 22 5 rfl Try.underlying22 Try.infoU8' rfl w.heap.size _ (k + t) _ rfl HO2.out hz2 rfl rfl (by unfold maxLen; omega) (by omega) ?_)
              intro g cap w3 ho3 hk3 _
              have HO3 : Hid (w3.ownsRow w.heap.size 5 1 (.slice (some ⟨g, 0, none⟩) (k + t + 1) cap) (k + t + 1) ((o2 ++ [(p : Int)]).map (Value.int .u8))) := by
                show World.ownsRow _ _ _ _ _ _ _
                rw [List.map_append]
                exact ho3
              have HG3 := Lib.hid (grow_own HG2.out HO2.out (Nat.le_refl _) hk3)
              clear ho3 hk3
              go_wp2_with fail
              go_roundw
              case rel => exact ⟨t + 1, _, by go_num, by omega, HO3.out, HG3.out, by show _ = _; rw [he2.out, List.append_assoc, ← List.replicate_succ']⟩
              case measure => simp [intOf]; omega
            · obtain rfl : b = t := by omega
              clear hp
              go_wp2_with fail
              go_roundw
              case rel => exact ⟨j + 1 + 1, 0, k + b, _, by go_num, by omega, rfl, by omega, by omega, by omega, by omega, HO2.out, HG2.out, by show _ = _; rw [he2.out, ← he.out, HD.out, Nat.add_sub_cancel, HBX.out, Int.toNat_natCast]⟩
              case measure => simp [intOf]; omega
      · rw [if_neg h4] at Hd
        have e4 : ((like : Int) == 4) = false := by simp; omega
        have HGd : Hid (Grow w wr.drew) := HG.out.drew
        by_cases hk0 : (k : Int) = most
        · rw [if_pos hk0] at Hd
          have HR2 : Hid (R = ([], 3)) := by show _ = _; rw [HR.out, ← he.out, Hd]
          subst hk0
          clear Hd he
          by_cases hl0 : like = 0
          · subst hl0
            go_wp2_with fail
            refine wp_region_seq (by kernel_rfl) (by kernel_rfl) ?_
            have hcd : wr.drew.cell? ⟨ba, oa + i, none⟩ = _ := hc
            have hpd : wr.drew.cell? ⟨ba, oa + (i - 1), none⟩ = _ := hp
            have HOd : Hid (wr.drew.ownsRow w.heap.size 5 1 (.slice A1 k c1) k (out.map (Value.int .u8))) := HO.out
            have hzd : w.heap.size ≤ wr.drew.heap.size := HGd.out.size
            clear hc hp HO HG hsz H1
            generalize wr.drew = wd at *
            go_wp2_with fail
            refine ⟨by kernel_rfl, ?_⟩
            go_wp2_with fail
            go_ret2
            rw [HR2.out]
            exact ⟨none, 0, 0, rfl, own_nil _ _ _, HGd.out⟩
          · have hl1 : 0 < like := by omega
            by_cases hbp : b = p
            · subst hbp
              go_wp2_with fail
              refine wp_region_seq (by kernel_rfl) (by kernel_rfl) ?_
              have hcd : wr.drew.cell? ⟨ba, oa + i, none⟩ = _ := hc
              have hpd : wr.drew.cell? ⟨ba, oa + (i - 1), none⟩ = _ := hp
              have HOd : Hid (wr.drew.ownsRow w.heap.size 5 1 (.slice A1 k c1) k (out.map (Value.int .u8))) := HO.out
              have hzd : w.heap.size ≤ wr.drew.heap.size := HGd.out.size
              clear hc hp HO HG hsz H1
              generalize wr.drew = wd at *
              go_wp2_with fail
              refine ⟨by kernel_rfl, ?_⟩
              go_wp2_with fail
              go_ret2
              rw [HR2.out]
              exact ⟨none, 0, 0, rfl, own_nil _ _ _, HGd.out⟩
            · have e5 : ((b : Int) == (p : Int)) = false := by simp; omega
              go_wp2_with fail
              refine wp_region_seq (by kernel_rfl) (by kernel_rfl) ?_
              have hcd : wr.drew.cell? ⟨ba, oa + i, none⟩ = _ := hc
              have hpd : wr.drew.cell? ⟨ba, oa + (i - 1), none⟩ = _ := hp
              have HOd : Hid (wr.drew.ownsRow w.heap.size 5 1 (.slice A1 k c1) k (out.map (Value.int .u8))) := HO.out
              have hzd : w.heap.size ≤ wr.drew.heap.size := HGd.out.size
              clear hc hp HO HG hsz H1
              generalize wr.drew = wd at *
              go_wp2_with fail
              refine ⟨by kernel_rfl, ?_⟩
              go_wp2_with fail
              go_ret2
              rw [HR2.out]
              exact ⟨none, 0, 0, rfl, own_nil _ _ _, HGd.out⟩
        · rw [if_neg hk0] at Hd
          have HD := Lib.hid Hd
          clear Hd
          by_cases hl0 : like = 0
          · subst hl0
            go_wp2_with fail
            refine wp_region_seq (by kernel_rfl) (by kernel_rfl) ?_
            have hcd : wr.drew.cell? ⟨ba, oa + i, none⟩ = _ := hc
            have hpd : wr.drew.cell? ⟨ba, oa + (i - 1), none⟩ = _ := hp
            have HOd : Hid (wr.drew.ownsRow w.heap.size 5 1 (.slice A1 k c1) k (out.map (Value.int .u8))) := HO.out
            have hzd : w.heap.size ≤ wr.drew.heap.size := HGd.out.size
            clear hc hp HO HG hsz H1
            generalize wr.drew = wd at *
            go_wp2_with fail
            refine ⟨by kernel_rfl, ?_⟩
            go_wp2_with (at_builtin; refine wpList_app1 rfl (.tmp 65) (.tmp 70) 22 5 rfl Try.underlying22 Try.infoU8' rfl w.heap.size _ k _ rfl HOd.out hzd rfl rfl (by unfold maxLen; omega) (by omega) ?_)
            intro g cap w3 ho3 hk3 _
            have HO3 : Hid (w3.ownsRow w.heap.size 5 1 (.slice (some ⟨g, 0, none⟩) (k + 1) cap) (k + 1) ((out ++ [(b : Int)]).map (Value.int .u8))) := by
              show World.ownsRow _ _ _ _ _ _ _
              rw [List.map_append]
              exact ho3
            have HG3 := Lib.hid (grow_own HGd.out HOd.out (Nat.le_refl _) hk3)
            clear ho3 hk3
            go_wp2_with fail
            go_roundw
            case rel => exact ⟨i + 1, 1, k + 1, _, by go_num, by omega, by go_num, by omega, by omega, by omega, by omega, HO3.out, HG3.out, by show _ = _; rw [← he.out, HD.out, Nat.add_sub_cancel, HBX.out, if_neg (by omega)]⟩
            case measure => simp [intOf]; omega
          · have hl1 : 0 < like := by omega
            by_cases hbp : b = p
            · subst hbp
              go_wp2_with fail
              refine wp_region_seq (by kernel_rfl) (by kernel_rfl) ?_
              have hcd : wr.drew.cell? ⟨ba, oa + i, none⟩ = _ := hc
              have hpd : wr.drew.cell? ⟨ba, oa + (i - 1), none⟩ = _ := hp
              have HOd : Hid (wr.drew.ownsRow w.heap.size 5 1 (.slice A1 k c1) k (out.map (Value.int .u8))) := HO.out
              have hzd : w.heap.size ≤ wr.drew.heap.size := HGd.out.size
              clear hc hp HO HG hsz H1
              generalize wr.drew = wd at *
              go_wp2_with fail
              refine ⟨by kernel_rfl, ?_⟩
              go_wp2_with (at_builtin; refine wpList_app1 rfl (.tmp 65) (.tmp 70) 22 5 rfl Try.underlying22 Try.infoU8' rfl w.heap.size _ k _ rfl HOd.out hzd rfl rfl (by unfold maxLen; omega) (by omega) ?_)
              intro g cap w3 ho3 hk3 _
              have HO3 : Hid (w3.ownsRow w.heap.size 5 1 (.slice (some ⟨g, 0, none⟩) (k + 1) cap) (k + 1) ((out ++ [(b : Int)]).map (Value.int .u8))) := by
                show World.ownsRow _ _ _ _ _ _ _
                rw [List.map_append]
                exact ho3
              have HG3 := Lib.hid (grow_own HGd.out HOd.out (Nat.le_refl _) hk3)
              clear ho3 hk3
              go_wp2_with fail
              go_roundw
              case rel => exact ⟨i + 1, like + 1, k + 1, _, by go_num, by omega, by go_num, by omega, by omega, by omega, by omega, HO3.out, HG3.out, by show _ = _; rw [← he.out, HD.out, Nat.add_sub_cancel, HBX.out, if_pos (by simpa using hl1)]⟩
              case measure => simp [intOf]; omega
            · have e5 : ((b : Int) == (p : Int)) = false := by simp; omega
              go_wp2_with fail
              refine wp_region_seq (by kernel_rfl) (by kernel_rfl) ?_
              have hcd : wr.drew.cell? ⟨ba, oa + i, none⟩ = _ := hc
              have hpd : wr.drew.cell? ⟨ba, oa + (i - 1), none⟩ = _ := hp
              have HOd : Hid (wr.drew.ownsRow w.heap.size 5 1 (.slice A1 k c1) k (out.map (Value.int .u8))) := HO.out
              have hzd : w.heap.size ≤ wr.drew.heap.size := HGd.out.size
              clear hc hp HO HG hsz H1
              generalize wr.drew = wd at *
              go_wp2_with fail
              refine ⟨by kernel_rfl, ?_⟩
              go_wp2_with (at_builtin; refine wpList_app1 rfl (.tmp 65) (.tmp 70) 22 5 rfl Try.underlying22 Try.infoU8' rfl w.heap.size _ k _ rfl HOd.out hzd rfl rfl (by unfold maxLen; omega) (by omega) ?_)
              intro g cap w3 ho3 hk3 _
              have HO3 : Hid (w3.ownsRow w.heap.size 5 1 (.slice (some ⟨g, 0, none⟩) (k + 1) cap) (k + 1) ((out ++ [(b : Int)]).map (Value.int .u8))) := by
                show World.ownsRow _ _ _ _ _ _ _
                rw [List.map_append]
                exact ho3
              have HG3 := Lib.hid (grow_own HGd.out HOd.out (Nat.le_refl _) hk3)
              clear ho3 hk3
              go_wp2_with fail
              go_roundw
              case rel => exact ⟨i + 1, 1, k + 1, _, by go_num, by omega, by go_num, by omega, by omega, by omega, by omega, HO3.out, HG3.out, by show _ = _; rw [← he.out, HD.out, Nat.add_sub_cancel, HBX.out, if_neg (by omega)]⟩
              case measure => simp [intOf]; omega
    · obtain rfl : n = i := by omega
      have he2 := he.out
      rw [List.drop_eq_nil_of_le (by rw [HL.out]; omega), unp_end] at he2
      by_cases h4 : like = 4
      · subst h4
        have HR2 : Hid (R = ([], 10)) := by show _ = _; rw [HR.out, ← he2, if_pos rfl]
        clear he2 he
        go_wp2_with fail
        go_ret2
        rw [HR2.out]
        exact ⟨none, 0, 0, rfl, own_nil _ _ _, HG.out⟩
      · have HR2 : Hid (R = (out, 0)) := by show _ = _; rw [HR.out, ← he2, if_neg h4]
        have e4 : ((like : Int) == 4) = false := by simp; omega
        clear he2 he
        go_wp2_with fail
        go_ret2
        rw [HR2.out]
        exact ⟨_, _, k, rfl, HO.out, HG.out⟩
end Go.Proofs.Yteccmnjcmmbhlaa
