/- runs.Unfront walked. -/
import Derived.Test.YteccmnjcmmbhlaaFrB
namespace Go.Proofs.Yteccmnjcmmbhlaa
open Go.RowKit
set_option linter.unusedVariables false
set_option linter.unusedSimpArgs false

/-- Each is greater than the one ahead of it. -/
def Asc (us : List Int) : Prop := ∀ j, j + 1 < us.length → us.getD j 0 < us.getD (j + 1) 0
theorem asc_le {us : List Int} (h : Asc us) (hb : ∀ x ∈ us, inKind .u8 x) : us.length ≤ 256 := by
  rcases Nat.eq_zero_or_pos us.length with h0 | h0
  · omega
  have hin : ∀ j, j < us.length → 0 ≤ us.getD j 0 ∧ us.getD j 0 < 256 := fun j hj => by
    rw [List.getD_eq_getElem?_getD, List.getElem?_eq_getElem hj]
    exact inKind_u8 (hb _ (List.getElem_mem hj))
  have hge : ∀ j, j < us.length → (j : Int) ≤ us.getD j 0 := by
    intro j
    induction j with
    | zero => intro hj; exact (hin 0 hj).1
    | succ j ih =>
      intro hj
      have h1 := ih (by omega)
      have h2 := h j hj
      omega
  have h1 := hge (us.length - 1) (by omega)
  have h2 := hin (us.length - 1) (by omega)
  omega
theorem asc_of {us : List Int} (h : us.Pairwise (fun a b => a < b)) : Asc us := fun j hj => by
  have := List.pairwise_iff_getElem.1 h j (j + 1) (by omega) hj (by omega)
  simpa [List.getD_eq_getElem?_getD, hj, show j < us.length by omega] using this
def outP (o : Option (List Int)) (outs : List Int) : List Int × Int := match o with | some t => (outs ++ t, 0) | none => ([], 2)
open Classical in
noncomputable def unfR (us zs : List Int) : List Int × Int := if Asc us then outP (unfP us zs) [] else ([], 2)
set_option maxRecDepth 8000 in
set_option maxHeartbeats 4000000 in
theorem unfront_is (w : World) (A1 Az : Option Addr) (m c2 n c : Nat) (us zs : List Int) (h : Nums .u8 w A1 m c2 us) (hz : Nums .i64 w Az n c zs) (hmb : m ≤ 1048576) (hnb : n ≤ 1048576) :
    Calls Try.prog 29 #[.slice A1 m c2, .slice Az n c] w fun e w' => ∃ A' c' k, e = .returned (.tuple #[.slice A' k c', .int .i64 (unfR us zs).2]) ∧ w'.ownsRow w.heap.size 5 1 (.slice A' k c') k ((unfR us zs).1.map (Value.int .u8)) ∧ Grow w w' := by
  obtain ⟨R, hR⟩ : ∃ R, R = unfR us zs := ⟨_, rfl⟩
  rw [← hR]
  have HRR : Hid (R = unfR us zs) := hR
  have H := Lib.hid h
  have HZ := Lib.hid hz
  have HM : Hid (us.length = m) := h.len
  have HUI := Lib.hid h.rng
  have hmi : (m : Int) ≤ 1048576 := by omega
  have hni : (n : Int) ≤ 1048576 := by omega
  clear hR h hz
  go_enter Try.func29, Try.ntmps29
  go_wp2_with fail
  go_loopw [6] (fun vi wr => ∃ (i : Nat), 1 ≤ i ∧ vi = .int .i64 (i : Nat) ∧ i ≤ m + 1 ∧ Hid (∀ j, j + 1 < i → us.getD j 0 < us.getD (j + 1) 0) ∧ Hid (Grow w wr)) (fun vi _ => m + 1 - (intOf vi).toNat)
  case atStart => exact ⟨1, Nat.le_refl _, by simp, by omega, fun j hj => by omega, Keeps.refl _ _⟩
  case round =>
    obtain ⟨i, hi1, rfl, hi2, HA, HG⟩ := hrel
    by_cases him : i < m
    · obtain ⟨t, rfl⟩ : ∃ t, i = t + 1 := ⟨i - 1, by omega⟩
      have hNr := H.out.grow HG.out
      have y1 := hNr.byte t
      have y2 := hNr.byte (t + 1)
      obtain ⟨ba, oa, rfl, hcell⟩ := hNr.at_ (by omega)
      have c1 := hcell t (by omega)
      have c0 := hcell (t + 1) him
      obtain ⟨x, hx⟩ : ∃ x, x = us.getD t 0 := ⟨_, rfl⟩
      obtain ⟨y, hy⟩ : ∃ y, y = us.getD (t + 1) 0 := ⟨_, rfl⟩
      rw [← hx] at c1 y1
      rw [← hy] at c0 y2
      have htc : ((t + 1 : Nat) : Int) = (t : Int) + 1 := by omega
      have hts : (t : Int) + 1 - 1 = (t : Int) := by omega
      have htm : (t : Int) + 1 < (m : Int) := by omega
      have HXY := Lib.hid (And.intro hx hy)
      have c0 : wr.cell? ⟨ba, oa + t + 1, none⟩ = some (.int .u8 y) := by rw [Nat.add_assoc]; exact c0
      simp only [htc]
      clear hcell hNr hx hy htc
      by_cases hxy : y ≤ x
      · have hR2 : R = ([], 2) := by
          rw [HRR.out, unfR, if_neg]
          intro hasc
          have := hasc t (by rw [HM.out]; omega)
          rw [← HXY.out.1, ← HXY.out.2] at this
          omega
        subst hR2
        have hd : decide (y ≤ x) = true := decide_eq_true hxy
        go_wp2_with fail
        go_quiet (fail)
        have HGd : Hid (Grow w (wr.drewN nq)) := Keeps.drewN HG.out nq
        generalize wr.drewN nq = w5 at *
        go_wp2_with fail
        go_ret2
        exact ⟨none, 0, 0, rfl, own_nil _ _ _, HGd.out⟩
      · have hd : decide (y ≤ x) = false := decide_eq_false hxy
        have HA2 : Hid (∀ j, j + 1 < t + 1 + 1 → us.getD j 0 < us.getD (j + 1) 0) := fun j hj => by
          rcases Nat.lt_or_ge (j + 1) (t + 1) with h9 | h9
          · exact HA.out j h9
          · have : j = t := by omega
            subst this
            rw [← HXY.out.1, ← HXY.out.2]
            omega
        go_wp2_with fail
        go_quiet (fail)
        have HGd : Hid (Grow w (wr.drewN nq)) := Keeps.drewN HG.out nq
        generalize wr.drewN nq = w5 at *
        go_wp2_with fail
        go_roundw
        case rel => exact ⟨t + 1 + 1, by omega, by go_num, by omega, HA2.out, HGd.out⟩
        case measure => simp [intOf]; omega
    · have hasc : Asc us := fun j hj => HA.out j (by rw [HM.out] at hj; omega)
      have hR2 : outP (unfP us zs) [] = R := by
        rw [HRR.out, unfR, if_pos hasc]
      have HR2 := Lib.hid hR2
      have hm256 : m ≤ 256 := by rw [← HM.out]; exact asc_le hasc HUI.out
      have him' : ¬ (i : Int) < (m : Int) := by omega
      have HN3 := Lib.hid (H.out.grow HG.out)
      have HZ3 := Lib.hid (HZ.out.grow HG.out)
      clear hasc hR2 HRR HA
      go_upto_region 6 with fail
      refine wp_region_lit ?_
      iterate 6 go_step
      refine wpList_val rfl (.agg (rowZ m)) (by go_simp; rfl) ?_
      go_upto_region 7 with fail
      obtain ⟨g, hgz⟩ : ∃ g, g = wr.heap.size := ⟨_, rfl⟩
      have hw4 : (wr.alloc (.cells (rowZ m) 64)).heap[g]? = some (.cells (rowZ m) 64 (0, 0)) := by
        rw [hgz]; exact heap_alloc_new wr _
      have k4 : Grow wr (wr.alloc (.cells (rowZ m) 64)) := (Keeps.refl _ wr).alloc _
      have HN4 := Lib.hid (HN3.out.grow k4)
      have HG4 := Lib.hid (Grow.trans _ _ _ HG.out k4)
      have hgw : Hid (w.heap.size ≤ g) := by
        show _ ≤ _
        rw [hgz]; exact HG.out.size
      simp only [← hgz]
      clear k4 HN3 HG hgz HZ3
      generalize wr.alloc (.cells (rowZ m) 64) = w4 at *
      obtain ⟨cs, hcs⟩ : ∃ cs, cs = us.map (Value.int .u8) := ⟨_, rfl⟩
      have hcl : cs.length = m := by rw [hcs, List.length_map]; exact HM.out
      have hmin : cs.length = Nat.min m 256 := by rw [hcl]; exact (Nat.min_eq_left hm256).symm
      have hone : ∀ v ∈ cs, v.oneCell' = true := fun v hv => by
        rw [hcs] at hv
        obtain ⟨y, _, rfl⟩ := List.mem_map.1 hv
        rfl
      have hpos : 0 < cs.length → (some ⟨g, 0, none⟩ : Option Addr) = some ⟨g, 0, none⟩ ∧ ∃ ad, A1 = some ad ∧ ∀ j v, cs[j]? = some v → w4.cell? (ad.add j) = some v := fun h0 => by
        refine ⟨rfl, ?_⟩
        obtain ⟨b0, o0, hb0, hc0⟩ := HN4.out.at_ (by omega)
        refine ⟨_, hb0, fun j v hj => ?_⟩
        have hjm : j < m := by have := (List.getElem?_eq_some_iff.1 hj).1; omega
        rw [show ((⟨b0, o0, none⟩ : Addr).add j) = ⟨b0, o0 + j, none⟩ by simp [Addr.add_lit], hc0 j hjm]
        have hjl : j < us.length := by rw [HM.out]; exact hjm
        rw [hcs, List.getElem?_map, List.getElem?_eq_getElem hjl] at hj
        rw [← hj, List.getD_eq_getElem?_getD, List.getElem?_eq_getElem hjl]
        rfl
      have hfit : 0 + cs.length ≤ (rowL m).length := by rw [rowL_len, hcl]; omega
      have HCS := Lib.hid (And.intro hcs (And.intro hmin (And.intro hone (And.intro hpos (And.intro hfit hcl)))))
      clear hcs hmin hone hpos hfit hcl
      go_wp2_with (refine wpList_copy_keep rfl (.tmp 34) (.tmp 35) 22 22 rfl 5 Try.underlying22 Try.sizeU8 (some ⟨g, 0, none⟩) A1 256 256 m c2 rfl rfl g 0 (rowL m) 64 hw4 cs HCS.out.2.1 HCS.out.2.2.2.1 HCS.out.2.2.2.2.1 HCS.out.2.2.1 ?_; intro w5 hg5 hk5)
      have HR5 := Lib.hid (rowS_new hg5.out HCS.out.1 HM.out hm256 HUI.out)
      clear hg5 HCS
      have HG5 : Hid (Grow w w5) := Keeps.trans HG4.out hk5.out fun i hi e => by have h1 : w.heap.size ≤ g := hgw; omega
      clear hk5 HN4 HG4 hw4
      go_wp2_with fail
      go_loopw [8, 10, 39] (fun v8 _ vi wr => ∃ (i : Nat) (A2 : Option Addr) (c3 : Nat) (l outs : List Int), i ≤ n ∧ vi = .int .i64 (i : Nat) ∧ v8 = .slice A2 i c3 ∧ Hid (RowS wr g l) ∧ Hid (l.length = m) ∧ Hid (wr.ownsRow (g + 1) 5 1 (.slice A2 i c3) i (outs.map (Value.int .u8))) ∧ Hid (outP (unfP l (zs.drop i)) outs = R) ∧ Hid (Grow w wr)) (fun _ _ vi _ => n - (intOf vi).toNat)
      case atStart => exact ⟨0, none, 0, us, [], Nat.zero_le _, by simp, rfl, HR5.out, HM.out, own_nil _ _ _, by show _ = _; rw [List.drop_zero]; exact HR2.out, HG5.out⟩
      case round =>
        clear HR5 HG5 HR2 him him' hi1 hi2
        obtain ⟨i, A2, c3, l, outs, hi, rfl, rfl, HR, HLL, HO, HE, HG⟩ := hrel
        by_cases hin : i < n
        · have hini : (i : Int) < (n : Int) := by omega
          have HNr := Lib.hid (HZ.out.grow HG.out)
          obtain ⟨bz, oz, rfl, hcell⟩ := HNr.out.at_ (by omega)
          have cz := hcell i hin
          have hzl : i < zs.length := by rw [HZ.out.len]; exact hin
          obtain ⟨z, hz⟩ : ∃ z, z = zs.getD i 0 := ⟨_, rfl⟩
          rw [← hz] at cz
          have hdr : zs.drop i = z :: zs.drop (i + 1) := by
            rw [List.drop_eq_getElem_cons hzl, hz, List.getD_eq_getElem?_getD, List.getElem?_eq_getElem hzl]; rfl
          have hE0 := HE.out
          rw [hdr, unfP, HLL.out] at hE0
          have c256 := HR.out.n
          rw [HLL.out] at c256
          have HE0 := Lib.hid hE0
          clear hcell hz hzl hdr HE hE0
          by_cases hz0 : z < 0
          · have hR2 : R = ([], 2) := by
              have h9 := HE0.out
              rw [if_pos (Or.inl hz0)] at h9
              exact h9.symm
            subst hR2
            have hd : decide (z < 0) = true := decide_eq_true hz0
            go_wp2_with fail
            go_ret2
            exact ⟨none, 0, 0, rfl, own_nil _ _ _, HG.out⟩
          · obtain ⟨k, rfl⟩ : ∃ k : Nat, z = (k : Int) := ⟨z.toNat, by omega⟩
            by_cases hkm : m ≤ k
            · have hR2 : R = ([], 2) := by
                have h9 := HE0.out
                rw [if_pos (Or.inr (by omega))] at h9
                exact h9.symm
              subst hR2
              have hki : (m : Int) ≤ (k : Int) := by omega
              go_wp2_with fail
              go_ret2
              exact ⟨none, 0, 0, rfl, own_nil _ _ _, HG.out⟩
            · have hki : ¬ (m : Int) ≤ (k : Int) := by omega
              have hkl : k < l.length := by rw [HLL.out]; omega
              have HE1 : Hid (outP (unfP (takeP l k) (zs.drop (i + 1))) (outs ++ [l.getD k 0]) = R) := by
                show _ = _
                have h9 := HE0.out
                rw [if_neg (by omega), Int.toNat_natCast] at h9
                rw [← h9]
                cases unfP (takeP l k) (zs.drop (i + 1)) with
                | none => rfl
                | some t => simp [outP]
              have HLT2 : Hid ((takeP l k).length = m) := by
                show _ = _
                rw [takeP_len hkl]; exact HLL.out
              have hzg := HG.out.size
              clear HE0 hz0
              go_wp2_with fail
              refine (take_is wr g k l HR.out hkl).mono ?_
              rintro e w8 ⟨rfl, hr8, hk8⟩
              have HR8 := Lib.hid hr8
              have HO8 := Lib.hid (owns_keep HO.out hk8 (fun b hb e => by have h1 := own_ge HO.out b hb; omega))
              have HG8 : Hid (Grow w w8) := Keeps.trans HG.out hk8 fun b hb e => by have h2 : w.heap.size ≤ g := hgw; omega
              clear hr8 hk8 HR HO HG
              have hz8 := HR8.out.lt
              obtain ⟨x, hx⟩ : ∃ x, x = l.getD k 0 := ⟨_, rfl⟩
              rw [← hx] at HE1
              simp only [← hx]
              clear hx cz c256 HNr
              go_wp2_with (at_builtin; refine wpList_app1 rfl (.tmp 53) (.tmp 57) 22 5 rfl Try.underlying22 Try.infoU8b rfl (g + 1) _ i _ rfl HO8.out (by omega) rfl rfl (by unfold maxLen; omega) (by omega) ?_)
              intro g2 c4 w7 ho7 hk7 hm7
              have HO7 : Hid (w7.ownsRow (g + 1) 5 1 (.slice (some ⟨g2, 0, none⟩) (i + 1) c4) (i + 1) ((outs ++ [x]).map (Value.int .u8))) := by
                show World.ownsRow _ _ _ _ _ _ _
                rw [List.map_append]
                exact ho7
              have HZG : Hid (∀ b, (Value.slice A2 i c3).ownBlock = some b → g + 1 ≤ b) := fun b hb => own_ge HO8.out b hb
              have HR7 := Lib.hid (HR8.out.keep hk7 fun e => by have := HZG.out g e; omega)
              have HG7 : Hid (Grow w w7) := Keeps.trans HG8.out hk7 fun b hb e => by have h1 := HZG.out b e; have h2 : w.heap.size ≤ g := hgw; omega
              clear ho7 hk7 hm7 HO8 HR8 HG8 HZG
              go_wp2_with fail
              go_roundw
              case rel => exact ⟨i + 1, _, _, _, _, hin, by go_num, rfl, HR7.out, HLT2.out, HO7.out, HE1.out, HG7.out⟩
              case measure => simp [intOf]; omega
        · obtain rfl : n = i := by omega
          have hE1 : R = (outs, 0) := by
            have h9 := HE.out
            rw [List.drop_eq_nil_of_le (by rw [HZ.out.len]; exact Nat.le_refl _), unfP] at h9
            rw [← h9]
            simp [outP]
          subst hE1
          go_wp2_with fail
          go_ret2
          exact ⟨A2, c3, _, rfl, owns_any_base HO.out (by have h2 : w.heap.size ≤ g := hgw; omega), HG.out⟩
end Go.Proofs.Yteccmnjcmmbhlaa
