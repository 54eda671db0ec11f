/- The walk of hamperlaw21.VolumeJoins. -/
import Derived.Test.YtnjdhkaabpmahaaVjV
namespace Go.Proofs.Ytnjdhkaabpmahaa
open Go.RowKit
set_option linter.unusedVariables false
set_option linter.unusedSimpArgs false

set_option maxRecDepth 8000 in
set_option maxHeartbeats 2000000 in
theorem kept_is (w : World) (A B : Option Addr) (n c d : Nat) (l : List (List Int)) (hA : LentR w A n c l) (hB : RowsR w B n d l) :
    Calls Try.prog 11 #[.slice A n c, .slice B n d] w fun e w' => e = .returned (.bool true) ∧ Grow w w' := by
  have HA := Lib.hid hA
  have HB := Lib.hid hB
  have hni : (n : Int) ≤ 1048576 := by have := hB.few; omega
  clear hA hB
  go_enter Try.func11, Try.ntmps11
  go_wp2_with fail
  go_loopw [5] (fun vi wr => ∃ (i : Nat), i ≤ n ∧ vi = .int .i64 (i : Nat) ∧ Hid (Grow w wr)) (fun vi _ => n - (intOf vi).toNat)
  case atStart => exact ⟨0, Nat.zero_le _, rfl, Keeps.refl _ _⟩
  case round =>
    obtain ⟨i, hi, rfl, HG⟩ := hrel
    by_cases hin : i < n
    · have hin' : (i : Int) < (n : Int) := by omega
      obtain ⟨ba, rfl, hca⟩ := (HA.out.grow HG.out).at_ (by omega)
      obtain ⟨bb, ob, rfl, hcb⟩ := (HB.out.grow HG.out).at_ (by omega)
      obtain ⟨A1, c1, g1, g2, g3⟩ := hca i hin
      obtain ⟨B1, d1, g4, g5⟩ := hcb i hin
      obtain ⟨y, hy⟩ : ∃ y, y = l.getD i [] := ⟨_, rfl⟩
      obtain ⟨m, hm⟩ : ∃ m, m = y.length := ⟨_, rfl⟩
      have hmb := HB.out.sm i hin
      rw [← hy, ← hm] at g1 g2 g3 g4 g5 hmb
      obtain ⟨ga, oa, rfl, hc9⟩ := g3.at_ (by omega)
      have h90 := hc9 m (by omega)
      have h91 : (y ++ [90]).getD m 0 = 90 := by rw [hm, List.getD_eq_getElem?_getD, List.getElem?_append_right (Nat.le_refl _), Nat.sub_self]; rfl
      rw [h91] at h90
      have hNa := g3.take m (by omega)
      rw [hm, List.take_left' rfl, ← hm] at hNa
      obtain ⟨Z, hZ⟩ : ∃ Z, Z = strOfNums y := ⟨_, rfl⟩
      have hva : ∀ k, (convert 24 9 (.slice (some ⟨ga, oa, none⟩) m c1)).run Try.prog (wr.drewN k) = .ok (.string Z) (wr.drewN k) := fun k => by
        rw [hZ]
        exact run_str_src (P := Try.prog) (w := wr.drewN k) (xs := y) Try.underlying24 Try.underlying5 Try.underlying9 (hNa.grow ((Keeps.refl _ wr).drewN k)).src
      have hvb : ∀ k, (convert 24 9 (.slice B1 m d1)).run Try.prog (wr.drewN k) = .ok (.string Z) (wr.drewN k) := fun k => by
        rw [hZ]
        exact run_str_src (P := Try.prog) (w := wr.drewN k) (xs := y) Try.underlying24 Try.underlying5 Try.underlying9 (g5.grow ((Keeps.refl _ wr).drewN k)).src
      obtain ⟨m1, hm1⟩ : ∃ m1, m1 = m + 1 := ⟨_, rfl⟩
      have hm1i : (m : Int) + 1 = (m1 : Int) := by omega
      have hsl : ∀ w : World, (Instr.slice 24 (.slice (some ⟨ga, oa, none⟩) m c1) none (some (.int .i64 (m1 : Nat))) none).run Try.prog w = .ok (.slice (some ⟨ga, oa, none⟩) m1 c1) w := fun w =>
        run_pre (P := Try.prog) (t := 24) Try.underlying24 rfl _ _ _ m1 (by omega) w
      have hmi : (m : Int) ≤ 140737488355328 := by omega
      have hmm : (m : Int) < (m1 : Int) := by omega
      have hz1 : (Z.toList == Z.toList) = true := by simp
      clear hca hcb g2 g3 g5 hc9 h91 hNa hm1 hy hm hZ hmb
      go_wp2_with fail
      go_quiet (fail)
      go_wp2_with fail
      have HG2 : Hid (Grow w (wr.drewN nq)) := HG.out.drewN _
      go_roundw
      case rel => exact ⟨i + 1, by omega, by go_num, HG2.out⟩
      case measure => simp [intOf]; omega
    · obtain rfl : i = n := by omega
      go_wp2_with fail
      go_ret
      exact ⟨rfl, HG.out⟩
theorem namesj_is (w : World) : Calls Try.prog 14 #[] w fun e w' => e = .returned (.bool true) ∧ w = w' := by
  go_enter Try.func14, Try.ntmps14
  go_wp2_with fail
  go_ret
  exact ⟨rfl, rfl⟩
theorem shareN_rng {l : List (List Int)} (h : ∀ y ∈ l, ∀ x ∈ y, inKind .u8 x) (k : Nat) : ∀ x ∈ shareN l k, inKind .u8 x := fun x hx => by
  unfold shareN at hx
  cases hf : l.find? fun b => numB b == k with
  | none => rw [hf] at hx; simp at hx
  | some b =>
    rw [hf] at hx
    exact h b (List.mem_of_find?_eq_some hf) x (List.mem_of_mem_drop hx)
theorem joinP_rng {l : List (List Int)} (h : ∀ y ∈ l, ∀ x ∈ y, inKind .u8 x) : ∀ x ∈ (joinP l).2, inKind .u8 x := fun x hx => by
  unfold joinP at hx
  split at hx
  · cases hx
  split at hx
  · cases hx
  unfold tellP at hx
  split at hx
  · cases hx
  split at hx
  · cases hx
  split at hx
  · cases hx
  obtain ⟨ys, hy, hxy⟩ := List.mem_flatten.1 hx
  obtain ⟨k, _, rfl⟩ := List.mem_map.1 hy
  exact shareN_rng h k x hxy
theorem joinP_len {l : List (List Int)} (hb : (l.map List.length).sum ≤ 1048575) : (joinP l).2.length ≤ 1048575 := by
  by_cases hs : scanE l = 0
  · by_cases ha : ∀ k, k < cntL l → hasN l k = true
    · have h1 := shares_le hs ha
      rw [joinP_all hs ha]
      unfold tellP
      split
      · exact Nat.zero_le _
      split
      · exact Nat.zero_le _
      split
      · exact Nat.zero_le _
      exact Nat.le_trans h1 hb
    · obtain ⟨k, hk⟩ := Classical.not_forall.1 ha
      obtain ⟨hk1, hk2⟩ := Classical.not_imp.1 hk
      rw [joinP_lack hs hk1 (by simpa using hk2)]
      exact Nat.zero_le _
  · rw [joinP_bad hs]; exact Nat.zero_le _
theorem own_addr {w : World} {B e n c : Nat} {A : Option Addr} {xs : List Value} (h : w.ownsRow B e 1 (.slice A n c) n xs) (hn : 0 < n) : ∃ g, A = some ⟨g, 0, none⟩ ∧ B ≤ g ∧ g < w.heap.size := by
  rcases h.2 with ⟨_, h0⟩ | ⟨g, cap, cur, e, hB, hh, _⟩
  · omega
  · injection e with e _ _
    exact ⟨g, e, hB, blk_lt hh⟩
theorem own_src8 {w : World} {B n c : Nat} {A : Option Addr} {xs : List Int} (h : w.ownsRow B 5 1 (.slice A n c) n (xs.map (Value.int .u8))) : Src w 1 A n c (xs.map (Value.int .u8)) := src_own h (fun u hu => by obtain ⟨y, _, rfl⟩ := List.mem_map.1 hu; rfl)
set_option maxRecDepth 8000 in
set_option maxHeartbeats 8000000 in
theorem walkVolumeJoins (W : World) (a0 : Option Addr) (c0 : Nat) (x0 : List (List (Int))) (_h0 : Sh.Rd W (.sl 24 (.sl 1 (.int .u8))) [.slice a0 x0.length c0] x0) (_hk : Sh.bulk (.sl 24 (.sl 1 (.int .u8))) x0 ≤ 1048576) :
    Calls Try.prog 3 #[.slice a0 x0.length c0] W fun e w' => e = .returned (.bool true) ∧ Below W.heap.size W w' := by
  obtain ⟨hR, hbk⟩ := rows_of_rd _h0 _hk
  have HR := Lib.hid hR
  have HBK := Lib.hid hbk
  have hrng : ∀ y ∈ x0, ∀ x ∈ y, inKind .u8 x := fun y hy => by
    obtain ⟨j, hj, rfl⟩ := mem_at.1 hy
    obtain ⟨_, _, _, hc⟩ := hR.at_ (by omega)
    obtain ⟨_, _, _, hn⟩ := hc j hj
    exact hn.rng
  obtain ⟨n, hn⟩ : ∃ n, n = x0.length := ⟨_, rfl⟩
  rw [← hn] at HR ⊢
  have HNE := Lib.hid hn
  have hni : (n : Int) ≤ 1048576 := by omega
  obtain ⟨J, hJ⟩ : ∃ J, J = joinP x0 := ⟨_, rfl⟩
  obtain ⟨Q, hQ⟩ : ∃ Q, Q = lacksP x0 := ⟨_, rfl⟩
  have HJR : Hid (∀ x ∈ J.2, inKind .u8 x) := by rw [hJ]; exact joinP_rng hrng
  have hKb : J.2.length ≤ 1048575 := by rw [hJ]; exact joinP_len (by omega)
  have hQb : Q.2.length ≤ 1024 := by
    rw [hQ]
    by_cases hs : scanE x0 = 0
    · rw [lacksP_good hs]
      have h1 := List.length_filter_le (fun k => !hasN x0 k) (List.range (cntL x0))
      rw [List.length_range] at h1
      have hCb : cntL x0 ≤ 1024 := (readE_zero ((good_of hs).each 0 (List.length_pos_iff.2 (good_of hs).ne)).1).2.2.2.1
      exact Nat.le_trans h1 hCb
    · rw [lacksP_bad hs]; exact Nat.zero_le _
  have HJ := Lib.hid (And.intro hJ hQ)
  clear hR hbk hrng hn _h0 _hk hJ hQ
  go_enter Try.func3, Try.ntmps3
  go_wp2_with fail
  refine (lent_is W a0 n c0 x0 HR.out HBK.out).mono ?_
  rintro x w1 ⟨Ai, ci, rfl, hl1, hg1⟩
  have HL1 := Lib.hid hl1
  have HG1 := Lib.hid hg1
  clear hl1 hg1
  go_wp2_with fail
  refine (join_v w1 Ai n ci x0 (HL1.out.rows HBK.out)).mono ?_
  rintro x w2 ⟨Ax, mx, cx, rfl, hmx, hox, hg2⟩
  rw [← HJ.out.1] at hmx hox ⊢
  obtain ⟨E, rs⟩ := J
  simp only at hmx hox hKb ⊢
  have HKX := Lib.hid hmx
  have HOX := Lib.hid hox
  have HG2 := Lib.hid hg2
  clear hmx hox hg2
  go_wp2_with fail
  refine (join_v w2 Ai n ci x0 ((HL1.out.grow HG2.out).rows HBK.out)).mono ?_
  rintro x w3 ⟨Ay, my, cy, rfl, hmy, hoy, hg3⟩
  rw [← HJ.out.1] at hmy hoy ⊢
  simp only at hmy hoy ⊢
  rw [← HKX.out] at hmy
  subst hmy
  have HOY := Lib.hid hoy
  have HG3 := Lib.hid hg3
  have HG13 : Hid (Grow w1 w3) := Grow.trans _ _ _ HG2.out HG3.out
  clear hoy hg3
  go_wp2_with fail
  refine (rjoin_v w3 a0 n c0 x0 (HR.out.grow (Grow.trans _ _ _ HG1.out HG13.out))).mono ?_
  rintro x w4 ⟨Aw, mw, cw, rfl, hmw, how, hg4⟩
  rw [← HJ.out.1] at hmw how ⊢
  simp only at hmw how ⊢
  rw [← HKX.out] at hmw
  subst hmw
  have HOW := Lib.hid how
  have HG4 := Lib.hid hg4
  have HG14 : Hid (Grow w1 w4) := Grow.trans _ _ _ HG13.out HG4.out
  clear how hg4
  go_wp2_with fail
  refine (lacks_is w4 Ai n ci x0 ((HL1.out.grow HG14.out).rows HBK.out)).mono ?_
  rintro x w5 ⟨An, mn, cn, rfl, hmn, hon, hg5⟩
  rw [← HJ.out.2] at hmn hon ⊢
  obtain ⟨F, qs⟩ := Q
  simp only at hmn hon hQb ⊢
  have HKN := Lib.hid hmn
  have HON := Lib.hid hon
  have HG5 := Lib.hid hg5
  have HG15 : Hid (Grow w1 w5) := Grow.trans _ _ _ HG14.out HG5.out
  clear hmn hon hg5
  go_wp2_with fail
  refine (rlacks_is w5 a0 n c0 x0 (HR.out.grow (Grow.trans _ _ _ HG1.out HG15.out))).mono ?_
  rintro x w6 ⟨Ak, mk, ck, rfl, hmk, hok, hg6⟩
  rw [← HJ.out.2] at hmk hok ⊢
  simp only at hmk hok ⊢
  rw [← HKN.out] at hmk
  subst hmk
  have HOK := Lib.hid hok
  have HG6 := Lib.hid hg6
  have HG16 : Hid (Grow w1 w6) := Grow.trans _ _ _ HG15.out HG6.out
  have HGW : Hid (Grow W w6) := Grow.trans _ _ _ HG1.out HG16.out
  have HG46 : Hid (Grow w4 w6) := Grow.trans _ _ _ HG5.out HG6.out
  have HG36 : Hid (Grow w3 w6) := Grow.trans _ _ _ HG4.out HG46.out
  have HG26 : Hid (Grow w2 w6) := Grow.trans _ _ _ HG3.out HG36.out
  clear hok hg6
  obtain ⟨Z, hZ⟩ : ∃ Z, Z = strOfNums rs := ⟨_, rfl⟩
  have hcx := run_str_src (P := Try.prog) (w := w6) (xs := rs) Try.underlying24 Try.underlying5 Try.underlying9 (own_src8 (owns_keep HOX.out HG26.out (fun _ _ h => h)))
  have hcw := run_str_src (P := Try.prog) (w := w6) (xs := rs) Try.underlying24 Try.underlying5 Try.underlying9 (own_src8 (owns_keep HOW.out HG46.out (fun _ _ h => h)))
  rw [← hZ] at hcx hcw
  have HZ := Lib.hid hZ
  have hz2 : (Z.toList == Z.toList) = true := by simp
  have hz3 : ((E : Int) != (E : Int)) = false := by simp
  have hz4 : ((F : Int) != (F : Int)) = false := by simp
  have hz5 : ((mk : Int) != (mk : Int)) = false := by simp
  have hKi : (mw : Int) ≤ 1048575 := by have := HKX.out; omega
  have hQi : (mk : Int) ≤ 1024 := by have := HKN.out; omega
  clear hZ
  go_wp2_with fail
  refine (kept_is w6 Ai a0 n ci c0 x0 (HL1.out.grow HG16.out) (HR.out.grow HGW.out)).mono ?_
  rintro x w7 ⟨rfl, hg7⟩
  have HG7 := Lib.hid hg7
  clear hg7 hcx hcw
  go_wp2_with fail
  go_loopw [14] (fun vi wr => ∃ (i : Nat), i ≤ mk ∧ vi = .int .i64 (i : Nat) ∧ Hid (Grow w7 wr)) (fun vi _ => mk - (intOf vi).toNat)
  case atStart => exact ⟨0, Nat.zero_le _, rfl, Keeps.refl _ _⟩
  case round =>
    obtain ⟨i, hi, rfl, HG⟩ := hrel
    by_cases hin : i < mk
    · have hin' : (i : Int) < (mk : Int) := by omega
      have hG5 : Grow w5 wr := Grow.trans _ _ _ HG6.out (Grow.trans _ _ _ HG7.out HG.out)
      have hG6 : Grow w6 wr := Grow.trans _ _ _ HG7.out HG.out
      have hrn := owns_keep HON.out hG5 (fun _ _ h => h)
      have hrk := owns_keep HOK.out hG6 (fun _ _ h => h)
      obtain ⟨v, hv⟩ : ∃ v : Nat, qs[i]? = some v := ⟨_, List.getElem?_eq_getElem (by rw [← HKN.out]; exact hin)⟩
      obtain ⟨gn, en, _, _⟩ := own_addr hrn (by omega)
      obtain ⟨gk9, ek, _, _⟩ := own_addr hrk (by omega)
      subst en
      subst ek
      have hcn := hrn.cellAt i (by omega)
      have hck := hrk.cellAt i (by omega)
      rw [List.getElem?_map, hv] at hcn hck
      have hcn' : wr.cell? ⟨gn, i, none⟩ = some (.int .i64 (v : Nat)) := hcn
      have hck' : wr.cell? ⟨gk9, i, none⟩ = some (.int .i64 (v : Nat)) := hck
      clear hG5 hG6 hrn hrk hv hcn hck
      go_wp2_with fail
      go_quiet (fail)
      go_wp2_with fail
      have HG2 : Hid (Grow w7 (wr.drewN nq)) := HG.out.drewN _
      go_roundw
      case rel => exact ⟨i + 1, by omega, by go_num, HG2.out⟩
      case measure => simp [intOf]; omega
    · obtain rfl : i = mk := by omega
      obtain ⟨w8, hw8⟩ : ∃ w8, w8 = wr := ⟨_, rfl⟩
      have HG18 : Hid (Grow w1 w8) := by rw [hw8]; exact Grow.trans _ _ _ HG16.out (Grow.trans _ _ _ HG7.out HG.out)
      have HG28 : Hid (Grow w2 w8) := by rw [hw8]; exact Grow.trans _ _ _ HG26.out (Grow.trans _ _ _ HG7.out HG.out)
      have HG38 : Hid (Grow w3 w8) := by rw [hw8]; exact Grow.trans _ _ _ HG36.out (Grow.trans _ _ _ HG7.out HG.out)
      have HG48 : Hid (Grow w4 w8) := by rw [hw8]; exact Grow.trans _ _ _ HG46.out (Grow.trans _ _ _ HG7.out HG.out)
      rw [← hw8]
      clear HG HON HOK hw8
      go_wp2_with fail
      go_loopw [15] (fun vi wr => ∃ (j : Nat), j ≤ n ∧ vi = .int .i64 (j : Nat) ∧ Hid (Grow w8 wr)) (fun vi _ => n - (intOf vi).toNat)
      case atStart => exact ⟨0, Nat.zero_le _, rfl, Keeps.refl _ _⟩
      case round =>
        obtain ⟨j, hj, rfl, HG⟩ := hrel
        by_cases hjn : j < n
        · have hjn' : (j : Int) < (n : Int) := by omega
          have HG1r : Hid (Grow w1 wr) := Grow.trans _ _ _ HG18.out HG.out
          have HGWr : Hid (Grow W wr) := Grow.trans _ _ _ HG1.out HG1r.out
          obtain ⟨bi, oi, rfl, hci⟩ := ((HL1.out.rows HBK.out).grow HG1r.out).at_ (by omega)
          obtain ⟨ba, oa, rfl, hca⟩ := (HR.out.grow HGWr.out).at_ (by omega)
          obtain ⟨A1, c1, g1, g2⟩ := hci j hjn
          obtain ⟨B1, d1, g3, g4⟩ := hca j hjn
          have hmb := HR.out.sm j hjn
          obtain ⟨y, hy⟩ : ∃ y, y = x0.getD j [] := ⟨_, rfl⟩
          rw [← hy] at g1 g2 g3 g4 hmb
          obtain ⟨m, hm⟩ : ∃ m, m = y.length := ⟨_, rfl⟩
          rw [← hm] at g1 g2 g3 g4 hmb
          have hmi : (m : Int) ≤ 140737488355328 := by omega
          have HM := Lib.hid hmb
          have HY1 := Lib.hid g2
          have HY2 := Lib.hid g4
          have HC1 := Lib.hid g1
          have HC2 := Lib.hid g3
          obtain ⟨r, hr⟩ : ∃ r, r = decide (y.take 4 = magicN) := ⟨_, rfl⟩
          have HRR := Lib.hid hr
          clear hci hca g2 g4 hmb hy hm hr
          go_wp2_with fail
          refine wp_region_hold Grow Grow.refl Grow.trans [3, 8] [(0, [0, 1, 2, 5, 6, 7]), (1, [3]), (1, [8]), (2, [4]), (2, [9]), (0, [10])] [(0, [?o0, ?o1, ?o2, ?o5, ?o6, ?o7]), (1, [?o3]), (1, [?o8]), (2, [?o4]), (2, [?o9]), (0, [?o10])] [?o0, ?o1, ?o2, ?o3, ?o4, ?o5, ?o6, ?o7, ?o8, ?o9, ?o10] (by kernel_rfl) (by kernel_rfl) (by kernel_rfl) ?_
          have qd : Grow wr wr.drew := (Keeps.refl _ wr).drew
          have HC1d := Lib.hid (ckp HC1.out qd (fun h => h))
          have HC2d := Lib.hid (ckp HC2.out qd (fun h => h))
          have HY1d := Lib.hid (HY1.out.grow qd)
          have HY2d := Lib.hid (HY2.out.grow qd)
          have HGd : Hid (Grow w8 wr.drew) := Grow.trans _ _ _ HG.out qd
          clear qd g1 g3 HC1 HC2 HY1 HY2 HG HG1r HGWr
          generalize wr.drew = wd at *
          refine seg_calm ?_
          go_wp2_with fail
          refine seg_held (by kernel_rfl) (.slice A1 m c1) (fun w9 hk9 => ?_) ?_
          · have c7 := ckp HC1d.out hk9 (fun h => h)
            go_simp
          refine seg_held (by kernel_rfl) (.slice B1 m d1) (fun w9 hk9 => ?_) ?_
          · have c7 := ckp HC2d.out hk9 (fun h => h)
            go_simp
          refine seg_call ?_
          go_wp2_with fail
          refine (is_is wd A1 m c1 y HY1d.out HM.out).mono ?_
          rintro x w9 ⟨rfl, hg9⟩
          have HG9 := Lib.hid hg9
          rw [← HRR.out]
          clear hg9
          go_wp2_with fail
          refine ⟨HG9.out, ?_⟩
          refine seg_call ?_
          go_wp2_with fail
          refine (ris_is w9 B1 m d1 y (HY2d.out.grow HG9.out) HM.out).mono ?_
          rintro x wa ⟨rfl, hwa⟩
          rw [← hwa]
          clear hwa
          rw [← HRR.out]
          go_wp2_with fail
          refine ⟨Keeps.refl _ _, ?_⟩
          refine seg_calm ?_
          have hrr : (r != r) = false := by simp
          have HGe : Hid (Grow w8 w9) := Grow.trans _ _ _ HGd.out HG9.out
          go_wp2_with fail
          refine seg_end ⟨by kernel_rfl, ?_⟩
          go_wp2_with fail
          go_roundw
          case rel => exact ⟨j + 1, by omega, by go_num, HGe.out⟩
          case measure => simp [intOf]; omega
        · obtain rfl : j = n := by omega
          obtain ⟨w9, hw9⟩ : ∃ w9, w9 = wr := ⟨_, rfl⟩
          have HG19 : Hid (Grow w1 w9) := by rw [hw9]; exact Grow.trans _ _ _ HG18.out HG.out
          have HG29 : Hid (Grow w2 w9) := by rw [hw9]; exact Grow.trans _ _ _ HG28.out HG.out
          have HG39 : Hid (Grow w3 w9) := by rw [hw9]; exact Grow.trans _ _ _ HG38.out HG.out
          have HG49 : Hid (Grow w4 w9) := by rw [hw9]; exact Grow.trans _ _ _ HG48.out HG.out
          rw [← hw9]
          clear HG hw9
          have HX9 : Hid (0 < mw → ∃ bx cur, Ax = some ⟨bx, 0, none⟩ ∧ w1.heap.size ≤ bx ∧ bx < w2.heap.size ∧ w9.heap[bx]? = some (.cells cur 5 (0, 0)) ∧ ∀ k, k < mw → ∃ x : Nat, x < 256 ∧ cur[k]? = some (.int .u8 (x : Nat))) := fun hpos => by
            have hrow := owns_keep HOX.out HG29.out (fun _ _ h => h)
            obtain ⟨bx, ex, hB, _⟩ := own_addr hrow hpos
            obtain ⟨bx2, ex2, _, hlt⟩ := own_addr HOX.out hpos
            rw [ex] at ex2
            injection ex2 with ex2
            injection ex2 with ex2 _
            subst ex2
            subst ex
            have hnb := Nums.of_own hrow HJR.out
            rcases hrow.2 with ⟨e9, _⟩ | ⟨g9, cap9, cur9, e9, _, hh, _⟩
            · cases e9
            · injection e9 with e9 _ _
              injection e9 with e9
              injection e9 with e9 _
              subst e9
              refine ⟨bx, cur9, rfl, hB, hlt, hh, fun k hk => ?_⟩
              obtain ⟨b9, o9, e8, hc9⟩ := hnb.at_ (by omega)
              injection e8 with e8
              injection e8 with e8 e7
              subst e8
              subst e7
              have h1 := hc9 k hk
              rw [Nat.zero_add, blk_cell hh] at h1
              have h2 := hnb.byte k
              refine ⟨(rs.getD k 0).toNat, by omega, ?_⟩
              rw [h1, Int.toNat_of_nonneg h2.1]
          go_wp2_with fail
          go_loopw [16] (fun vi wr => ∃ (k : Nat), k ≤ mw ∧ vi = .int .i64 (k : Nat) ∧ Hid (Keeps (fun b => w1.heap.size ≤ b ∧ b < w2.heap.size) w9 wr) ∧ Hid (0 < mw → ∃ bx cur, Ax = some ⟨bx, 0, none⟩ ∧ w1.heap.size ≤ bx ∧ bx < w2.heap.size ∧ wr.heap[bx]? = some (.cells cur 5 (0, 0)) ∧ ∀ k, k < mw → ∃ x : Nat, x < 256 ∧ cur[k]? = some (.int .u8 (x : Nat)))) (fun vi _ => mw - (intOf vi).toNat)
          case atStart => exact ⟨0, Nat.zero_le _, rfl, Keeps.refl _ _, HX9.out⟩
          case round =>
            clear HX9
            obtain ⟨k, hk, rfl, HK, HX⟩ := hrel
            by_cases hkm : k < mw
            · have hkm' : (k : Int) < (mw : Int) := by omega
              obtain ⟨bx, cur, rfl, hB1, hB2, hcu, hcx⟩ := HX.out (by omega)
              obtain ⟨x, hxb, hxc⟩ := hcx k hkm
              have d1 := blk_cell hcu k
              have f1 := blk_frozen hcu k
              rw [hxc] at d1
              have HCX := Lib.hid hcx
              have HXC := Lib.hid hxc
              have HBB : Hid (w1.heap.size ≤ bx ∧ bx < w2.heap.size) := ⟨hB1, hB2⟩
              have hxi : (x : Int) < 256 := by omega
              have hxn : ((x : Int) + 1) % 256 = (((x + 1) % 256 : Nat) : Int) := by omega
              obtain ⟨x9, hx9e⟩ : ∃ x9, x9 = (x + 1) % 256 := ⟨_, rfl⟩
              have hx9 : x9 < 256 := by omega
              rw [← hx9e] at hxn
              have HX9 := Lib.hid hx9
              have HB9 := Lib.hid (blk_set hcu k (.int .u8 (x9 : Nat)))
              have HK9 : Hid (Keeps (fun b => w1.heap.size ≤ b ∧ b < w2.heap.size) w9 (wr.setCell ⟨bx, k, none⟩ (.int .u8 (x9 : Nat)))) := HK.out.setCell (p := ⟨bx, k, none⟩) (fun _ => HBB.out) _
              clear hcu hcx hxc hB1 hB2 hx9e hx9 hxb
              go_wp2_with fail
              go_roundw
              case rel =>
                refine ⟨k + 1, by omega, by go_num, HK9.out, fun _ => ⟨bx, _, rfl, HBB.out.1, HBB.out.2, HB9.out, fun j hj => ?_⟩⟩
                by_cases hjk : j = k
                · have hkc : k < cur.size := (Array.getElem?_eq_some_iff.1 HXC.out).1
                  exact ⟨x9, HX9.out, by rw [hjk, Array.getElem?_setIfInBounds_self_of_lt hkc]⟩
                · obtain ⟨z, hz, hzc⟩ := HCX.out j hj
                  exact ⟨z, hz, by rw [Array.getElem?_setIfInBounds_ne (by omega)]; exact hzc⟩
              case measure => simp [intOf]; omega
            · obtain rfl : k = mw := by omega
              have hfar : ∀ {v : Value} {B : Nat} {nn : Nat} {xs : List Value}, w9.ownsRow B 5 1 v nn xs → w2.heap.size ≤ B → wr.ownsRow B 5 1 v nn xs := fun {v B nn xs} h hB => owns_keep h HK.out fun i hi h9 => by have := own_ge h i hi; omega
              have hcy := run_str_src (P := Try.prog) (w := wr) (xs := rs) Try.underlying24 Try.underlying5 Try.underlying9 (own_src8 (hfar (owns_keep HOY.out HG39.out (fun _ _ h => h)) (Nat.le_refl _)))
              have hcw := run_str_src (P := Try.prog) (w := wr) (xs := rs) Try.underlying24 Try.underlying5 Try.underlying9 (own_src8 (hfar (owns_keep HOW.out HG49.out (fun _ _ h => h)) HG3.out.size))
              rw [← HZ.out] at hcy hcw
              clear hfar HX
              go_wp2_with fail
              refine (namesj_is wr).mono ?_
              rintro x wb ⟨rfl, rfl⟩
              go_wp2_with fail
              go_ret
              refine ⟨rfl, (Keeps.trans (Grow.trans _ _ _ HG1.out HG19.out) HK.out (fun k hk h => ?_)).below (fun _ _ h => h) (Nat.le_refl _)⟩
              have := HG1.out.size
              omega
end Go.Proofs.Ytnjdhkaabpmahaa
