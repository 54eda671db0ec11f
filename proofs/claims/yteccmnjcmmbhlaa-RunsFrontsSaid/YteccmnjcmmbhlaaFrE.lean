/- The document's Front walked. -/
import Derived.Test.YteccmnjcmmbhlaaFrD
namespace Go.Proofs.Yteccmnjcmmbhlaa
open Go.RowKit
set_option linter.unusedVariables false
set_option linter.unusedSimpArgs false

/-- The bytes below a number that come. -/
def usedTo (b : List Int) (i : Nat) : List Int := ((List.range i).map (fun c : Nat => (c : Int))).filter (fun c => decide (c ∈ b))
theorem usedTo_succ (b : List Int) (i : Nat) : usedTo b (i + 1) = usedTo b i ++ (if (i : Int) ∈ b then [(i : Int)] else []) := by
  unfold usedTo
  rw [List.range_succ, List.map_append, List.filter_append]
  by_cases h : (i : Int) ∈ b <;> simp [h]
theorem usedTo_256 (b : List Int) : usedTo b 256 = usedP b := rfl
set_option maxRecDepth 8000 in
set_option maxHeartbeats 4000000 in
theorem refFront_is (w : World) (A : Option Addr) (n c : Nat) (xs : List Int) (h : Nums .u8 w A n c xs) (hnb : n ≤ 1048576) :
    Calls Try.prog 28 #[.slice A n c] w fun e w' => ∃ A1 c1 A2 c2, e = .returned (.tuple #[.slice A1 (usedP xs).length c1, .slice A2 n c2]) ∧ w'.ownsRow w.heap.size 5 1 (.slice A1 (usedP xs).length c1) (usedP xs).length ((usedP xs).map (Value.int .u8)) ∧ w'.ownsRow w.heap.size 3 1 (.slice A2 n c2) n ((mtfP (usedP xs) xs).map (Value.int .i64)) ∧ (∀ b, (Value.slice A2 n c2).ownBlock = some b → (Value.slice A1 (usedP xs).length c1).ownBlock ≠ some b) ∧ Grow w w' := by
  have H := Lib.hid h
  have hni : (n : Int) ≤ 1048576 := by omega
  clear h
  go_enter Try.func28, Try.ntmps28
  go_wp2_with fail
  go_loopw [4, 5] (fun vo vi wr => ∃ (i m : Nat) (A1 : Option Addr) (c1 : Nat), i ≤ 256 ∧ vi = .int .i64 (i : Nat) ∧ vo = .slice A1 m c1 ∧ m ≤ i ∧ Hid (wr.ownsRow w.heap.size 5 1 (.slice A1 m c1) m ((usedTo xs i).map (Value.int .u8))) ∧ Hid (Grow w wr)) (fun _ vi _ => 256 - (intOf vi).toNat)
  case atStart => exact ⟨0, 0, none, 0, by omega, by simp, rfl, Nat.le_refl _, own_nil _ _ _, Keeps.refl _ _⟩
  case round =>
    obtain ⟨i, m, A1, c1, hi, rfl, rfl, hmi, HO, HG⟩ := hrel
    by_cases hin : i < 256
    · have hini : (i : Int) < 256 := by omega
      have hwr : IntKind.u8.wrap (i : Int) = (i : Int) := by rw [IntKind.wrap_u8]; omega
      have HH := Lib.hid (rhas_is wr A n c xs (i : Int) (H.out.grow HG.out) hnb (by omega) hini)
      have HS := Lib.hid (usedTo_succ xs i)
      have hgz := HG.out.size
      by_cases hx : (i : Int) ∈ xs
      · have HH2 : Hid (Calls Try.prog 40 #[.slice A n c, .int .u8 (i : Nat)] wr fun e w' => e = .returned (.bool true) ∧ w' = wr) := by
          have h9 := HH.out
          simp only [hx, decide_true] at h9
          exact h9
        have HS2 : Hid (usedTo xs (i + 1) = usedTo xs i ++ [(i : Int)]) := by
          have h9 := HS.out
          rw [if_pos hx] at h9
          exact h9
        clear HH HS hx
        go_wp2_with fail
        refine HH2.out.mono ?_
        rintro e wr ⟨rfl, rfl⟩
        clear HH2
        go_wp2_with (at_builtin; refine wpList_app1 rfl (.tmp 18) (.tmp 21) 22 5 rfl Try.underlying22 Try.infoU8b rfl w.heap.size _ m _ rfl HO.out hgz rfl rfl (by unfold maxLen; omega) (by omega) ?_)
        intro g cap w1 ho1 hk1 hm1
        have HO1 : Hid (w1.ownsRow w.heap.size 5 1 (.slice (some ⟨g, 0, none⟩) (m + 1) cap) (m + 1) ((usedTo xs (i + 1)).map (Value.int .u8))) := by
          show World.ownsRow _ _ _ _ _ _ _
          rw [HS2.out, List.map_append]
          exact ho1
        have HG1 : Hid (Grow w w1) := Keeps.trans HG.out hk1 fun b hb e => by have := own_ge HO.out b e; omega
        clear ho1 hk1 hm1 HO HG HS2
        go_wp2_with fail
        go_roundw
        case rel => exact ⟨i + 1, m + 1, _, _, by omega, by go_num, rfl, by omega, HO1.out, HG1.out⟩
        case measure => simp [intOf]; omega
      · have HH2 : Hid (Calls Try.prog 40 #[.slice A n c, .int .u8 (i : Nat)] wr fun e w' => e = .returned (.bool false) ∧ w' = wr) := by
          have h9 := HH.out
          simp only [hx, decide_false] at h9
          exact h9
        have HS2 : Hid (usedTo xs (i + 1) = usedTo xs i) := by
          have h9 := HS.out
          rw [if_neg hx, List.append_nil] at h9
          exact h9
        clear HH HS hx
        go_wp2_with fail
        refine HH2.out.mono ?_
        rintro e wr ⟨rfl, rfl⟩
        clear HH2
        have HO1 : Hid (wr.ownsRow w.heap.size 5 1 (.slice A1 m c1) m ((usedTo xs (i + 1)).map (Value.int .u8))) := by
          show World.ownsRow _ _ _ _ _ _ _
          rw [HS2.out]
          exact HO.out
        clear HO HS2
        go_wp2_with fail
        go_roundw
        case rel => exact ⟨i + 1, m, _, _, by omega, by go_num, rfl, by omega, HO1.out, HG.out⟩
        case measure => simp [intOf]; omega
    · obtain rfl : i = 256 := by omega
      have HM : Hid ((usedP xs).length = m) := by
        have h9 := HO.out.1
        simp at h9
        show _ = _
        rw [← usedTo_256]
        omega
      have HU0 := Lib.hid (mem_usedP H.out.rng)
      obtain ⟨us, hus⟩ : ∃ us, us = usedP xs := ⟨_, rfl⟩
      have HUS := Lib.hid hus
      have HO1 : Hid (wr.ownsRow w.heap.size 5 1 (.slice A1 m c1) m (us.map (Value.int .u8))) := by
        show World.ownsRow _ _ _ _ _ _ _
        rw [hus]
        exact HO.out
      rw [← hus] at HM HU0
      have HUR : Hid (∀ x ∈ us, inKind .u8 x) := fun x hx => by rw [hus] at hx; exact usedP_in x hx
      have HLT : Hid (∀ k, (Value.slice A1 m c1).ownBlock = some k → k < wr.heap.size) := fun k hk => (HO1.out.lt k hk).2
      have HUX : Hid (∀ x ∈ xs, x ∈ us) := fun x hx => (HU0.out x).2 hx
      clear hus HO hin HU0
      generalize hB : wr.heap.size = B at *
      have HBW : Hid (w.heap.size ≤ B) := by rw [← hB]; exact HG.out.size
      have HBR : Hid (B ≤ wr.heap.size) := by rw [← hB]; exact Nat.le_refl _
      clear hB
      generalize wr = w3 at *
      go_wp2_with fail
      go_loopw [6, 7, 8, 9] (fun vl vp vi _ wr => ∃ (i : Nat) (A2 A3 : Option Addr) (c2 c3 : Nat) (l zs : List Int), i ≤ n ∧ vi = .int .i64 (i : Nat) ∧ vl = .slice A2 m c2 ∧ vp = .slice A3 i c3 ∧ Hid (wr.ownsRow w.heap.size 5 1 (.slice A2 m c2) m (l.map (Value.int .u8))) ∧ Hid (∀ x ∈ l, inKind .u8 x) ∧ Hid (wr.ownsRow B 3 1 (.slice A3 i c3) i (zs.map (Value.int .i64))) ∧ Hid (∀ k, (Value.slice A3 i c3).ownBlock = some k → (Value.slice A2 m c2).ownBlock ≠ some k) ∧ Hid (wr.ownsRow w.heap.size 5 1 (.slice A1 m c1) m (us.map (Value.int .u8))) ∧ Hid (zs ++ mtfP l (xs.drop i) = mtfP us xs) ∧ Hid (∀ x ∈ xs, x ∈ l) ∧ Hid (Grow w wr) ∧ Hid (B ≤ wr.heap.size)) (fun _ _ vi _ _ => n - (intOf vi).toNat)
      case atStart => exact ⟨0, A1, none, c1, 0, us, [], Nat.zero_le _, by simp, rfl, rfl, HO1.out, HUR.out, own_nil _ _ _, fun k hk => by simp [Value.ownBlock] at hk, HO1.out, rfl, HUX.out, HG.out, HBR.out⟩
      case round =>
        clear HO1 HG HBR
        obtain ⟨i, A2, A3, c2, c3, l, zs, hi, rfl, rfl, rfl, HL, HLR, HZ, HD, HO, HE, HME, HG, HBR⟩ := hrel
        by_cases hin : i < n
        · have hini : (i : Int) < (n : Int) := by omega
          have hxl : i < xs.length := by rw [H.out.len]; exact hin
          obtain ⟨x, hx⟩ : ∃ x, x = xs.getD i 0 := ⟨_, rfl⟩
          have hxm : x ∈ l := HME.out x (by rw [hx, List.getD_eq_getElem?_getD, List.getElem?_eq_getElem hxl]; exact List.getElem_mem hxl)
          have hE1 : zs ++ (((idxP l x : Nat) : Int) :: mtfP (takeP l (idxP l x)) (xs.drop (i + 1))) = mtfP us xs := by
            rw [← HE.out, List.drop_eq_getElem_cons hxl, mtfP]
            have hxx : xs[i] = x := by rw [hx, List.getD_eq_getElem?_getD, List.getElem?_eq_getElem hxl]; rfl
            rw [hxx]
          have hll : l.length = m := by have h9 := HL.out.1; simp at h9; exact h9
          have hkl := idxP_lt hxm
          rw [hll] at hkl
          have HIG := Lib.hid (idxP_get hxm)
          have HIN : Hid (∀ j, j < idxP l x → l.getD j 0 ≠ x) := fun j hj => idxP_not hj
          have HLM : Hid (∀ y ∈ xs, y ∈ takeP l (idxP l x)) := fun y hy => (takeP_mem (by rw [hll]; exact hkl) y).2 (HME.out y hy)
          have HTR : Hid (∀ y ∈ takeP l (idxP l x), inKind .u8 y) := fun y hy => HLR.out y ((takeP_mem (by rw [hll]; exact hkl) y).1 hy)
          obtain ⟨k, hk⟩ : ∃ k, k = idxP l x := ⟨_, rfl⟩
          rw [← hk] at hE1 hkl HIG HIN HLM HTR
          have HE1 := Lib.hid hE1
          have HX := Lib.hid hx
          clear hE1 hk hxm hll hx hxl HE HME
          generalize wr = w4 at *
          go_wp2_with fail
          go_loopw [9] (fun vk wr => ∃ (j : Nat), j ≤ k ∧ vk = .int .i64 (j : Nat) ∧ Hid (Grow w4 wr)) (fun vk _ => k + 1 - (intOf vk).toNat)
          case atStart => exact ⟨0, Nat.zero_le _, by simp, Keeps.refl _ _⟩
          case round =>
            obtain ⟨j, hj, rfl, HJ⟩ := hrel
            have HNr := Lib.hid (H.out.grow (Grow.trans _ _ _ HG.out HJ.out))
            obtain ⟨ba, oa, rfl, hcell⟩ := HNr.out.at_ (by omega)
            have cx := hcell i hin
            rw [← HX.out] at cx
            have HLr := Lib.hid (Nums.of_own (owns_keep HL.out HJ.out (fun _ _ h => h)) HLR.out)
            obtain ⟨bl, ol, rfl, hcl⟩ := HLr.out.at_ (by omega)
            have cl := hcl j (by omega)
            obtain ⟨y, hy⟩ : ∃ y, y = l.getD j 0 := ⟨_, rfl⟩
            rw [← hy] at cl
            have hjm : (j : Int) < (m : Int) := by omega
            clear hcell hcl
            by_cases hjk : j < k
            · have hyx : y ≠ x := by rw [hy]; exact HIN.out j hjk
              have hq1 : decide (y = x) = false := decide_eq_false hyx
              have hq2 : (y == x) = false := by simpa using hyx
              clear hy
              go_wp2_with fail
              go_quiet (fail)
              have HJd : Hid (Grow w4 (wr.drewN nq)) := Keeps.drewN HJ.out nq
              clear cx cl
              generalize wr.drewN nq = w5 at *
              go_wp2_with fail
              go_roundw
              case rel => exact ⟨j + 1, by omega, by go_num, HJd.out⟩
              case measure => simp [intOf]; omega
            · obtain rfl : j = k := by omega
              have hyx : y = x := by rw [hy]; exact HIG.out
              subst hyx
              clear hy
              go_wp2_with fail
              go_quiet (fail)
              have HJd : Hid (Grow w4 (wr.drewN nq)) := Keeps.drewN HJ.out nq
              clear cx cl HJ HNr HLr
              generalize wr.drewN nq = w5 at *
              have HL5 := Lib.hid (owns_keep HL.out HJd.out (fun _ _ h => h))
              have HZ5 := Lib.hid (owns_keep HZ.out HJd.out (fun _ _ h => h))
              have HO5 := Lib.hid (owns_keep HO.out HJd.out (fun _ _ h => h))
              have HG5 := Lib.hid (Grow.trans _ _ _ HG.out HJd.out)
              have hB5 : B ≤ w5.heap.size := Nat.le_trans HBR.out HJd.out.size
              clear HL HZ HO HG HBR HJd
              go_wp2_with (at_builtin; refine wpList_app1 rfl (.tmp 41) (.tmp 43) 28 3 rfl Try.underlying28 Try.infoI64 rfl B _ i _ rfl HZ5.out hB5 rfl rfl (by unfold maxLen; omega) (by omega) ?_)
              intro g cap w6 ho6 hk6 hm6
              have HO6 : Hid (w6.ownsRow B 3 1 (.slice (some ⟨g, 0, none⟩) (i + 1) cap) (i + 1) ((zs ++ [(j : Int)]).map (Value.int .i64))) := by
                show World.ownsRow _ _ _ _ _ _ _
                rw [List.map_append]
                exact ho6
              have HL6 := Lib.hid (owns_keep HL5.out hk6 (fun b hb e => HD.out b e hb))
              have HUL : Hid (∀ b, (Value.slice A3 i c3).ownBlock = some b → ¬ (Value.slice A1 m c1).ownBlock = some b) := fun b hb e => by
                have h1 := own_ge HZ5.out b hb
                have h2 := HLT.out b e
                omega
              have HU6 := Lib.hid (owns_keep HO5.out hk6 (fun b hb e => HUL.out b e hb))
              have HG6 : Hid (Grow w w6) := Keeps.trans HG5.out hk6 fun b hb e => by have h1 := own_ge HZ5.out b e; have := HBW.out; omega
              have hB6 : Hid (B ≤ w6.heap.size) := Nat.le_trans hB5 hk6.size
              have HLT6 : Hid (∀ b, (Value.slice (some ⟨g, 0, none⟩) (i + 1) cap).ownBlock = some b → b < w6.heap.size) := fun b hb => (HO6.out.lt b hb).2
              have HN6 := Lib.hid (Nums.of_own HL6.out HLR.out)
              clear ho6 hk6 hm6 HZ5 HL5 HO5 HG5 HD HL6
              go_wp2_with fail
              refine (rfront_is w6 _ m c2 j l HN6.out (by have := HN6.out.len; omega) hkl).mono ?_
              rintro e w7 ⟨A4, c4, rfl, ho7, hg7⟩
              have HO7 := Lib.hid (owns_base ho7 (fun b hb => Nat.le_trans HG6.out.size (own_ge ho7 b hb)))
              have HZ7 := Lib.hid (owns_keep HO6.out hg7 (fun _ _ h => h))
              have HU7 := Lib.hid (owns_keep HU6.out hg7 (fun _ _ h => h))
              have HD7 : Hid (∀ b, (Value.slice (some ⟨g, 0, none⟩) (i + 1) cap).ownBlock = some b → (Value.slice A4 m c4).ownBlock ≠ some b) := fun b hb e => by
                have h1 := own_ge ho7 b e
                have h2 := HLT6.out b hb
                omega
              have HG7 := Lib.hid (Grow.trans _ _ _ HG6.out hg7)
              have HB7 : Hid (B ≤ w7.heap.size) := Nat.le_trans hB6.out hg7.size
              clear ho7 hg7 HO6 HU6 HG6 HN6
              go_wp2_with fail
              go_roundw
              case rel =>
                repeat apply Exists.intro
                exact ⟨⟨i + 1, _, _, _, _, _, _, hin, by go_num, rfl, rfl, HO7.out, HTR.out, HZ7.out, HD7.out, HU7.out, by show _ = _; rw [List.append_assoc]; exact HE1.out, HLM.out, HG7.out, HB7.out⟩, rfl⟩
              case measure => simp [intOf]; omega
        · obtain rfl : n = i := by omega
          have hE1 : zs = mtfP us xs := by
            have h9 := HE.out
            rw [List.drop_eq_nil_of_le (by rw [H.out.len]; exact Nat.le_refl _), mtfP, List.append_nil] at h9
            exact h9
          have HE1 := Lib.hid hE1
          clear hE1
          go_wp2_with fail
          go_ret2
          refine ⟨A1, c1, A3, c3, by rw [← HUS.out, HM.out]; rfl, ?_, ?_, ?_, HG.out⟩
          · rw [← HUS.out, HM.out]; exact HO.out
          · rw [← HUS.out, ← HE1.out]
            exact owns_any_base HZ.out HBW.out
          · intro b hb e
            rw [← HUS.out, HM.out] at e
            have h1 := own_ge HZ.out b hb
            have h2 := HLT.out b e
            omega
end Go.Proofs.Yteccmnjcmmbhlaa
