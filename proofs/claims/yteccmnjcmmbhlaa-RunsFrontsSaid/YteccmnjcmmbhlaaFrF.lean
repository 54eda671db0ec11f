/- The document's Unfront walked. -/
import Derived.Test.YteccmnjcmmbhlaaFrE
namespace Go.Proofs.Yteccmnjcmmbhlaa
open Go.RowKit
set_option linter.unusedVariables false
set_option linter.unusedSimpArgs false

theorem nums_blk {k : IntKind} {w : World} {A : Option Addr} {n c : Nat} {xs : List Int} (h : Nums k w A n c xs) (hn : 0 < n) : ∀ b o, A = some ⟨b, o, none⟩ → b < w.heap.size := fun b o e => by
  obtain ⟨b1, o1, e1, hc⟩ := h.at_ hn
  rw [e] at e1
  injection e1 with e1
  injection e1 with e1 e2
  subst e1
  exact World.block_lt_of_cell? w _ (hc 0 hn)
set_option maxRecDepth 8000 in
set_option maxHeartbeats 4000000 in
theorem refUnfront_is (w : World) (A1 Az : Option Addr) (m c2 n c : Nat) (us zs : List Int) (h : Nums .u8 w A1 m c2 us) (hz : Nums .i64 w Az n c zs) (hmb : m ≤ 1048576) (hnb : n ≤ 1048576) :
    Calls Try.prog 30 #[.slice A1 m c2, .slice Az n c] w fun e w' => ∃ A' c' k, e = .returned (.tuple #[.slice A' k c', .int .i64 (unfR us zs).2]) ∧ w'.ownsRow w.heap.size 5 1 (.slice A' k c') k ((unfR us zs).1.map (Value.int .u8)) ∧ Grow w w' := by
  obtain ⟨R, hR⟩ : ∃ R, R = unfR us zs := ⟨_, rfl⟩
  rw [← hR]
  have HRR : Hid (R = unfR us zs) := hR
  have H := Lib.hid h
  have HZ := Lib.hid hz
  have HM : Hid (us.length = m) := h.len
  have HUI := Lib.hid h.rng
  have hmi : (m : Int) ≤ 1048576 := by omega
  have hni : (n : Int) ≤ 1048576 := by omega
  clear hR h hz
  go_enter Try.func30, Try.ntmps30
  go_wp2_with fail
  go_loopw [6] (fun vi wr => ∃ (i : Nat), 1 ≤ i ∧ vi = .int .i64 (i : Nat) ∧ i ≤ m + 1 ∧ Hid (∀ j, j + 1 < i → us.getD j 0 < us.getD (j + 1) 0) ∧ Hid (Grow w wr)) (fun vi _ => m + 1 - (intOf vi).toNat)
  case atStart => exact ⟨1, Nat.le_refl _, by simp, by omega, fun j hj => by omega, Keeps.refl _ _⟩
  case round =>
    obtain ⟨i, hi1, rfl, hi2, HA, HG⟩ := hrel
    by_cases him : i < m
    · obtain ⟨t, rfl⟩ : ∃ t, i = t + 1 := ⟨i - 1, by omega⟩
      have hNr := H.out.grow HG.out
      have y1 := hNr.byte t
      have y2 := hNr.byte (t + 1)
      obtain ⟨ba, oa, rfl, hcell⟩ := hNr.at_ (by omega)
      have c1 := hcell t (by omega)
      have c0 := hcell (t + 1) him
      obtain ⟨x, hx⟩ : ∃ x, x = us.getD t 0 := ⟨_, rfl⟩
      obtain ⟨y, hy⟩ : ∃ y, y = us.getD (t + 1) 0 := ⟨_, rfl⟩
      rw [← hx] at c1 y1
      rw [← hy] at c0 y2
      have htc : ((t + 1 : Nat) : Int) = (t : Int) + 1 := by omega
      have hts : (t : Int) + 1 - 1 = (t : Int) := by omega
      have htm : (t : Int) + 1 < (m : Int) := by omega
      have HXY := Lib.hid (And.intro hx hy)
      have c0 : wr.cell? ⟨ba, oa + t + 1, none⟩ = some (.int .u8 y) := by rw [Nat.add_assoc]; exact c0
      simp only [htc]
      clear hcell hNr hx hy htc
      by_cases hxy : y ≤ x
      · have hR2 : R = ([], 2) := by
          rw [HRR.out, unfR, if_neg]
          intro hasc
          have := hasc t (by rw [HM.out]; omega)
          rw [← HXY.out.1, ← HXY.out.2] at this
          omega
        subst hR2
        have hd : decide (y ≤ x) = true := decide_eq_true hxy
        go_wp2_with fail
        go_quiet (fail)
        have HGd : Hid (Grow w (wr.drewN nq)) := Keeps.drewN HG.out nq
        generalize wr.drewN nq = w5 at *
        go_wp2_with fail
        go_ret2
        exact ⟨none, 0, 0, rfl, own_nil _ _ _, HGd.out⟩
      · have hd : decide (y ≤ x) = false := decide_eq_false hxy
        have HA2 : Hid (∀ j, j + 1 < t + 1 + 1 → us.getD j 0 < us.getD (j + 1) 0) := fun j hj => by
          rcases Nat.lt_or_ge (j + 1) (t + 1) with h9 | h9
          · exact HA.out j h9
          · have : j = t := by omega
            subst this
            rw [← HXY.out.1, ← HXY.out.2]
            omega
        go_wp2_with fail
        go_quiet (fail)
        have HGd : Hid (Grow w (wr.drewN nq)) := Keeps.drewN HG.out nq
        generalize wr.drewN nq = w5 at *
        go_wp2_with fail
        go_roundw
        case rel => exact ⟨t + 1 + 1, by omega, by go_num, by omega, HA2.out, HGd.out⟩
        case measure => simp [intOf]; omega
    · have hasc : Asc us := fun j hj => HA.out j (by rw [HM.out] at hj; omega)
      have hR2 : outP (unfP us zs) [] = R := by
        rw [HRR.out, unfR, if_pos hasc]
      have HR2 := Lib.hid hR2
      have hm256 : m ≤ 256 := by rw [← HM.out]; exact asc_le hasc HUI.out
      have him' : ¬ (i : Int) < (m : Int) := by omega
      have HN3 := Lib.hid (H.out.grow HG.out)
      have HZ3 := Lib.hid (HZ.out.grow HG.out)
      clear hasc hR2 HRR HA
      generalize wr = w5 at *
      have HBW := Lib.hid HG.out.size
      go_wp2_with fail
      go_loopw [7, 8, 9, 10] (fun vl v8 vi _ wr => ∃ (i : Nat) (A3 A2 : Option Addr) (c4 c3 : Nat) (l outs : List Int), i ≤ n ∧ vi = .int .i64 (i : Nat) ∧ vl = .slice A3 m c4 ∧ v8 = .slice A2 i c3 ∧ Hid (Nums .u8 wr A3 m c4 l) ∧ Hid (wr.ownsRow w.heap.size 5 1 (.slice A2 i c3) i (outs.map (Value.int .u8))) ∧ Hid (0 < m → ∀ b o, A3 = some ⟨b, o, none⟩ → (Value.slice A2 i c3).ownBlock ≠ some b) ∧ Hid (outP (unfP l (zs.drop i)) outs = R) ∧ Hid (Grow w wr)) (fun _ _ vi _ _ => n - (intOf vi).toNat)
      case atStart => exact ⟨0, A1, none, c2, 0, us, [], Nat.zero_le _, by simp, rfl, rfl, HN3.out, own_nil _ _ _, fun _ b o _ => by simp [Value.ownBlock], by show _ = _; rw [List.drop_zero]; exact HR2.out, HG.out⟩
      case round =>
        clear HR2 him him' hi1 hi2 HG HN3 HZ3
        obtain ⟨i, A3, A2, c4, c3, l, outs, hi, rfl, rfl, rfl, HN, HO, HD, HE, HG⟩ := hrel
        have HLL := Lib.hid HN.out.len
        by_cases hin : i < n
        · have hini : (i : Int) < (n : Int) := by omega
          have HNr := Lib.hid (HZ.out.grow HG.out)
          obtain ⟨bz, oz, rfl, hcell⟩ := HNr.out.at_ (by omega)
          have cz := hcell i hin
          have hzl : i < zs.length := by rw [HZ.out.len]; exact hin
          obtain ⟨z, hz⟩ : ∃ z, z = zs.getD i 0 := ⟨_, rfl⟩
          rw [← hz] at cz
          have hdr : zs.drop i = z :: zs.drop (i + 1) := by
            rw [List.drop_eq_getElem_cons hzl, hz, List.getD_eq_getElem?_getD, List.getElem?_eq_getElem hzl]; rfl
          have hE0 := HE.out
          rw [hdr, unfP, HLL.out] at hE0
          have HE0 := Lib.hid hE0
          clear hcell hz hzl hdr HE hE0
          by_cases hz0 : z < 0
          · have hR2 : R = ([], 2) := by
              have h9 := HE0.out
              rw [if_pos (Or.inl hz0)] at h9
              exact h9.symm
            subst hR2
            have hd : decide (z < 0) = true := decide_eq_true hz0
            go_wp2_with fail
            go_ret2
            exact ⟨none, 0, 0, rfl, own_nil _ _ _, HG.out⟩
          · obtain ⟨k, rfl⟩ : ∃ k : Nat, z = (k : Int) := ⟨z.toNat, by omega⟩
            by_cases hkm : m ≤ k
            · have hR2 : R = ([], 2) := by
                have h9 := HE0.out
                rw [if_pos (Or.inr (by omega))] at h9
                exact h9.symm
              subst hR2
              have hki : (m : Int) ≤ (k : Int) := by omega
              go_wp2_with fail
              go_ret2
              exact ⟨none, 0, 0, rfl, own_nil _ _ _, HG.out⟩
            · have hki : ¬ (m : Int) ≤ (k : Int) := by omega
              have hkl : k < l.length := by rw [HLL.out]; omega
              have HE1 : Hid (outP (unfP (takeP l k) (zs.drop (i + 1))) (outs ++ [l.getD k 0]) = R) := by
                show _ = _
                have h9 := HE0.out
                rw [if_neg (by omega), Int.toNat_natCast] at h9
                rw [← h9]
                cases unfP (takeP l k) (zs.drop (i + 1)) with
                | none => rfl
                | some t => simp [outP]
              have HTR : Hid (∀ y ∈ takeP l k, inKind .u8 y) := fun y hy => HN.out.rng y ((takeP_mem hkl y).1 hy)
              have hzg := HG.out.size
              have hmk : k < m := by omega
              have hmki : (k : Int) < (m : Int) := by omega
              obtain ⟨bl, ol, rfl, hcl⟩ := HN.out.at_ (by omega)
              have cl := hcl k hmk
              obtain ⟨x, hx⟩ : ∃ x, x = l.getD k 0 := ⟨_, rfl⟩
              rw [← hx] at HE1 cl
              clear HE0 hz0 hcl hx
              go_wp2_with (at_builtin; refine wpList_app1 rfl (.tmp 46) (.tmp 51) 22 5 rfl Try.underlying22 Try.infoU8b rfl w.heap.size _ i _ rfl HO.out hzg rfl rfl (by unfold maxLen; omega) (by omega) ?_)
              intro g2 c5 w7 ho7 hk7 hm7
              have HO7 : Hid (w7.ownsRow w.heap.size 5 1 (.slice (some ⟨g2, 0, none⟩) (i + 1) c5) (i + 1) ((outs ++ [x]).map (Value.int .u8))) := by
                show World.ownsRow _ _ _ _ _ _ _
                rw [List.map_append]
                exact ho7
              have HG7 : Hid (Grow w w7) := Keeps.trans HG.out hk7 fun b hb e => by have h1 := own_ge HO.out b e; omega
              have HN7 := Lib.hid (HN.out.keep hk7 (fun b o e h9 => HD.out (by omega) b o e h9))
              have HLT7 : Hid (∀ b, (Value.slice (some ⟨g2, 0, none⟩) (i + 1) c5).ownBlock = some b → b < w7.heap.size) := fun b hb => (HO7.out.lt b hb).2
              clear ho7 hk7 hm7 HO HG HN HD cz cl HNr
              go_wp2_with fail
              refine (rfront_is w7 _ m c4 k l HN7.out hmb hmk).mono ?_
              rintro e w8 ⟨A4, c6, rfl, ho8, hg8⟩
              have HO8 := Lib.hid (owns_keep HO7.out hg8 (fun _ _ h => h))
              have HN8 := Lib.hid (Nums.of_own ho8 HTR.out)
              have HD8 : Hid (0 < m → ∀ b o, A4 = some ⟨b, o, none⟩ → (Value.slice (some ⟨g2, 0, none⟩) (i + 1) c5).ownBlock ≠ some b) := fun _ b o e h9 => by
                have h1 := HLT7.out b h9
                have h2 := own_ge ho8 b (by rw [e]; rfl)
                omega
              have HG8 := Lib.hid (Grow.trans _ _ _ HG7.out hg8)
              clear ho8 hg8 HO7 HG7 HN7
              go_wp2_with fail
              go_roundw
              case rel => exact ⟨i + 1, _, _, _, _, _, _, hin, by go_num, rfl, rfl, HN8.out, HO8.out, HD8.out, HE1.out, HG8.out⟩
              case measure => simp [intOf]; omega
        · obtain rfl : n = i := by omega
          have hE1 : R = (outs, 0) := by
            have h9 := HE.out
            rw [List.drop_eq_nil_of_le (by rw [HZ.out.len]; exact Nat.le_refl _), unfP] at h9
            rw [← h9]
            simp [outP]
          subst hE1
          go_wp2_with fail
          go_ret2
          exact ⟨A2, c3, _, rfl, HO.out, HG.out⟩
end Go.Proofs.Yteccmnjcmmbhlaa
