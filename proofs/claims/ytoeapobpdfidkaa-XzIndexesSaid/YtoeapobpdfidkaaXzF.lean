/- xz: the cursor's long, filled. -/
import Derived.Test.YtoeapobpdfidkaaXzE
import Derived.Deep.LoopGhost
namespace Go.Proofs.Ytoeapobpdfidkaa
open Go.RowKit
set_option linter.unusedVariables false
set_option linter.unusedSimpArgs false

theorem varG_facts (xs : List Int) (n a : Nat) : ∀ (t i v : Nat), v < 128 ^ i → i + t = 10 → (varG xs n a t i v).1 ≤ 11 ∧ ((varG xs n a t i v).1 = 0 → (varG xs n a t i v).2.2 ≤ n ∧ a < (varG xs n a t i v).2.2 ∧ (varG xs n a t i v).2.1 < 9223372036854775808)
  | 0, i, v, _, _ => ⟨Nat.le_refl 11, fun h => absurd (show (11 : Nat) = 0 from h) (by decide)⟩
  | t + 1, i, v, hv, hi => by
    have hd : bytN xs (a + i) % 128 ≤ 127 := by omega
    have hs : bytN xs (a + i) % 128 * 128 ^ i ≤ 127 * 128 ^ i := Nat.mul_le_mul hd (Nat.le_refl _)
    have hv2 : v + bytN xs (a + i) % 128 * 128 ^ i < 128 ^ (i + 1) := by rw [Nat.pow_succ]; omega
    show (if n ≤ a + i then ((10, 0, 0) : Nat × Nat × Nat) else if i = 9 then (11, 0, 0) else if bytN xs (a + i) = 0 ∧ 0 < i then (11, 0, 0) else if bytN xs (a + i) < 128 then (0, v + bytN xs (a + i) % 128 * 128 ^ i, a + i + 1) else varG xs n a t (i + 1) (v + bytN xs (a + i) % 128 * 128 ^ i)).1 ≤ 11 ∧ ((if n ≤ a + i then ((10, 0, 0) : Nat × Nat × Nat) else if i = 9 then (11, 0, 0) else if bytN xs (a + i) = 0 ∧ 0 < i then (11, 0, 0) else if bytN xs (a + i) < 128 then (0, v + bytN xs (a + i) % 128 * 128 ^ i, a + i + 1) else varG xs n a t (i + 1) (v + bytN xs (a + i) % 128 * 128 ^ i)).1 = 0 → (if n ≤ a + i then ((10, 0, 0) : Nat × Nat × Nat) else if i = 9 then (11, 0, 0) else if bytN xs (a + i) = 0 ∧ 0 < i then (11, 0, 0) else if bytN xs (a + i) < 128 then (0, v + bytN xs (a + i) % 128 * 128 ^ i, a + i + 1) else varG xs n a t (i + 1) (v + bytN xs (a + i) % 128 * 128 ^ i)).2.2 ≤ n ∧ a < (if n ≤ a + i then ((10, 0, 0) : Nat × Nat × Nat) else if i = 9 then (11, 0, 0) else if bytN xs (a + i) = 0 ∧ 0 < i then (11, 0, 0) else if bytN xs (a + i) < 128 then (0, v + bytN xs (a + i) % 128 * 128 ^ i, a + i + 1) else varG xs n a t (i + 1) (v + bytN xs (a + i) % 128 * 128 ^ i)).2.2 ∧ (if n ≤ a + i then ((10, 0, 0) : Nat × Nat × Nat) else if i = 9 then (11, 0, 0) else if bytN xs (a + i) = 0 ∧ 0 < i then (11, 0, 0) else if bytN xs (a + i) < 128 then (0, v + bytN xs (a + i) % 128 * 128 ^ i, a + i + 1) else varG xs n a t (i + 1) (v + bytN xs (a + i) % 128 * 128 ^ i)).2.1 < 9223372036854775808)
    by_cases h1 : n ≤ a + i
    · rw [if_pos h1]; exact ⟨by decide, fun h => absurd h (by decide)⟩
    rw [if_neg h1]
    by_cases h2 : i = 9
    · rw [if_pos h2]; exact ⟨by decide, fun h => absurd h (by decide)⟩
    rw [if_neg h2]
    by_cases h3 : bytN xs (a + i) = 0 ∧ 0 < i
    · rw [if_pos h3]; exact ⟨by decide, fun h => absurd h (by decide)⟩
    rw [if_neg h3]
    by_cases h4 : bytN xs (a + i) < 128
    · rw [if_pos h4]
      refine ⟨Nat.zero_le _, fun _ => ⟨by show a + i + 1 ≤ n; omega, by show a < a + i + 1; omega, ?_⟩⟩
      show v + bytN xs (a + i) % 128 * 128 ^ i < 9223372036854775808
      have hp : 128 ^ (i + 1) ≤ 128 ^ 9 := Nat.pow_le_pow_right (by decide) (by omega)
      have h9 : (128 : Nat) ^ 9 = 9223372036854775808 := by decide
      omega
    · rw [if_neg h4]
      exact varG_facts xs n a t (i + 1) _ hv2 (by omega)
theorem varP_facts (xs : List Int) (n a : Nat) : (varP xs n a).1 ≤ 11 ∧ ((varP xs n a).1 = 0 → (varP xs n a).2.2 ≤ n ∧ a < (varP xs n a).2.2 ∧ (varP xs n a).2.1 < 9223372036854775808) := varG_facts xs n a 10 0 0 (by decide) rfl
def okL (bad e : Nat) : Nat := if bad = 0 then e else bad
set_option maxRecDepth 8000 in
set_option maxHeartbeats 2000000 in
theorem clong_is (w : World) (g n c at' bad : Nat) (A : Option Addr) (xs : List Int) (h : CAt w g A n c xs at' bad) :
    Calls Try.prog 88 #[.pointer (some ⟨g, 0, none⟩)] w fun x w' => ∃ v : Nat, x = .returned (.int .i64 (v : Nat)) ∧ v = (if okL bad (varP xs n at').1 = 0 then (varP xs n at').2.1 else 0) ∧ CAt w' g A n c xs (if okL bad (varP xs n at').1 = 0 then (varP xs n at').2.2 else at') (okL bad (varP xs n at').1) ∧ Keeps (fun k => k = g) w w' := by
  have HF := varP_facts xs n at'
  have HV := Lib.hid (fun w' (k : Grow w w') => nVar_is w' A n c at' xs (h.nums.grow k) h.le h.small)
  obtain ⟨R, hR⟩ : ∃ R, R = varP xs n at' := ⟨_, rfl⟩
  rw [← hR] at HF HV ⊢
  clear hR
  obtain ⟨er, v, nx⟩ := R
  have HX : Hid (er ≤ 11 ∧ (er = 0 → nx ≤ n ∧ at' < nx ∧ v < 9223372036854775808)) := HF
  clear HF
  simp only at HV ⊢
  obtain ⟨POST, hPOST⟩ : ∃ POST : Ending → World → Prop, POST = fun x w' => ∃ u : Nat, x = .returned (.int .i64 (u : Nat)) ∧ u = (if okL bad er = 0 then v else 0) ∧ CAt w' g A n c xs (if okL bad er = 0 then nx else at') (okL bad er) ∧ Keeps (fun k => k = g) w w' := ⟨_, rfl⟩
  have HPO := Lib.hid hPOST
  show Calls _ _ _ _ fun x w' => (fun x w' => ∃ u : Nat, x = .returned (.int .i64 (u : Nat)) ∧ u = (if okL bad er = 0 then v else 0) ∧ CAt w' g A n c xs (if okL bad er = 0 then nx else at') (okL bad er) ∧ Keeps (fun k => k = g) w w') x w'
  rw [← hPOST]
  clear hPOST
  have H := Lib.hid h
  have d0 := blk_cell h.blk 0
  have d1 := blk_cell h.blk 1
  simp at d0 d1
  have heb : (er : Int) ≤ 11 := by have := HX.out.1; omega
  clear h
  go_enter Try.func88, Try.ntmps88
  go_wp2_with fail
  refine wp_region_hold Grow Grow.refl Grow.trans [3, 7] [(0, [0, 1, 2, 4, 5, 6]), (1, [3]), (1, [7]), (2, [8]), (0, [9, 10, 11, 12, 13, 14, 15])] [(0, [?o0, ?o1, ?o2, ?o4, ?o5, ?o6]), (1, [?o3]), (1, [?o7]), (2, [?o8]), (0, [?o9, ?o10, ?o11, ?o12, ?o13, ?o14, ?o15])] [?o0, ?o1, ?o2, ?o3, ?o4, ?o5, ?o6, ?o7, ?o8, ?o9, ?o10, ?o11, ?o12, ?o13, ?o14, ?o15] (by kernel_rfl) (by kernel_rfl) (by kernel_rfl) ?_
  refine seg_calm ?_
  go_wp2_with fail
  have H1 : Hid (CAt w.drew g A n c xs at' bad) := H.out.grow ((Keeps.refl _ w).drew)
  have HG1 : Hid (Grow w w.drew) := (Keeps.refl _ w).drew
  clear d0 d1
  generalize w.drew = w1 at *
  refine seg_held (by kernel_rfl) (.slice A n c) (fun w7 hk7 => ?_) ?_
  · have c7 := blk_cell (H1.out.grow hk7).blk 0
    simp at c7
    go_simp
  refine seg_held (by kernel_rfl) (.int .i64 (at' : Nat)) (fun w7 hk7 => ?_) ?_
  · have c7 := blk_cell (H1.out.grow hk7).blk 1
    simp at c7
    go_simp
  refine seg_call ?_
  go_wp2_with fail
  refine (HV.out w1 HG1.out).mono ?_
  rintro x w2 ⟨rfl, hw2⟩
  rw [← hw2]
  clear hw2 w2 HV
  go_wp2_with fail
  refine ⟨Keeps.refl _ _, ?_⟩
  refine seg_calm ?_
  go_wp2_with fail
  refine seg_end ⟨by kernel_rfl, ?_⟩
  have d2 := blk_cell H1.out.blk 2
  have f2 := blk_frozen H1.out.blk 2
  simp at d2
  have hbi : (bad : Int) ≤ 20 := by have := H1.out.bads; omega
  by_cases hb : bad = 0
  · subst hb
    go_upto_region 4 with fail
    have hst := blk_set H1.out.blk 2 (.int .i64 (er : Nat))
    simp at hst
    have hk4 : Keeps (fun k => k = g) w1 (w1.setCell ⟨g, 2, none⟩ (.int .i64 (er : Nat))) := Keeps.setCell (S := fun k => k = g) (Keeps.refl _ w1) (p := ⟨g, 2, none⟩) (fun _ => rfl) _
    have HC4 := Lib.hid (H1.out.moved at' er H1.out.le (by have := HX.out.1; omega) hk4 hst)
    have HK4 : Hid (Keeps (fun k => k = g) w (w1.setCell ⟨g, 2, none⟩ (.int .i64 (er : Nat)))) := Keeps.trans (gk HG1.out) hk4 fun _ _ h => h
    clear d2 f2 hst hk4 H1 HG1
    generalize w1.setCell ⟨g, 2, none⟩ (.int .i64 (er : Nat)) = w4 at *
    have d2 := blk_cell HC4.out.blk 2
    simp at d2
    by_cases he : er = 0
    · subst he
      obtain ⟨hn1, hn2, hvb⟩ := HX.out.2 rfl
      have d1 := blk_cell HC4.out.blk 1
      have f1 := blk_frozen HC4.out.blk 1
      simp at d1
      have HVB := Lib.hid hvb
      have hwv : IntKind.i64.wrap (v : Int) = (v : Int) := by rw [IntKind.wrap_i64]; omega
      have HN1 := Lib.hid hn1
      clear hn1 hn2 hvb
      go_upto_region 7 with fail
      have hst := blk_set HC4.out.blk 1 (.int .i64 (nx : Nat))
      simp at hst
      have hk5 : Keeps (fun k => k = g) w4 (w4.setCell ⟨g, 1, none⟩ (.int .i64 (nx : Nat))) := Keeps.setCell (S := fun k => k = g) (Keeps.refl _ w4) (p := ⟨g, 1, none⟩) (fun _ => rfl) _
      have HC5 := Lib.hid (HC4.out.moved nx 0 HN1.out (by decide) hk5 hst)
      have HK5 : Hid (Keeps (fun k => k = g) w (w4.setCell ⟨g, 1, none⟩ (.int .i64 (nx : Nat)))) := Keeps.trans HK4.out hk5 fun _ _ h => h
      clear d1 d2 f1 hst hk5 HC4 HK4
      generalize w4.setCell ⟨g, 1, none⟩ (.int .i64 (nx : Nat)) = w5 at *
      go_wp2_with fail
      try go_ret
      show POST (.returned (.int .i64 (v : Nat))) _
      rw [HPO.out]
      exact ⟨v, rfl, rfl, HC5.out, HK5.out⟩
    · have q1 : ((er : Int) == 0) = false := by simp; omega
      have q2 : ((er : Int) != 0) = true := by simp; omega
      have q3 : decide ((er : Int) = 0) = false := decide_eq_false (by omega)
      have HE := Lib.hid he
      clear he
      go_wp2_with fail
      try go_ret
      show POST (.returned (.int .i64 (0 : Nat))) _
      rw [HPO.out]
      have e1 : okL 0 er = er := rfl
      exact ⟨0, rfl, by rw [e1, if_neg HE.out], by rw [e1, if_neg HE.out]; exact HC4.out, HK4.out⟩
  · have q1 : ((bad : Int) == 0) = false := by simp; omega
    have q2 : ((bad : Int) != 0) = true := by simp; omega
    have q3 : decide ((bad : Int) = 0) = false := decide_eq_false (by omega)
    have HE := Lib.hid hb
    have e1 : okL bad er = bad := if_neg hb
    have HE1 := Lib.hid e1
    clear hb e1
    go_wp2_with fail
    try go_ret
    show POST (.returned (.int .i64 (0 : Nat))) _
    rw [HPO.out]
    refine ⟨0, rfl, by rw [HE1.out, if_neg HE.out], by rw [HE1.out, if_neg HE.out]; exact H1.out, gk HG1.out⟩
/-- The pad's end: the error, the place. -/
def padG (xs : List Int) (n : Nat) : Nat → Nat → Nat × Nat
  | 0, at' => (0, at')
  | t + 1, at' => if at' % 4 = 0 then (0, at') else if n ≤ at' then (10, at') else if bytN xs at' ≠ 0 then (11, at' + 1) else padG xs n t (at' + 1)
theorem and3 (m : Nat) (hm : m ≤ 140737488355328) : bits .and .i64 (m : Int) 3 = ((m % 4 : Nat) : Int) := by
  have h := bits_mask .i64 48 (by decide) (fun a h1 h2 => by rw [IntKind.wrap_i64]; omega) 2 (by decide) (m : Int) (by omega) (by omega)
  exact h
set_option maxRecDepth 8000 in
set_option maxHeartbeats 2000000 in
theorem cfilled_is (w : World) (g n c at' bad : Nat) (A : Option Addr) (xs : List Int) (h : CAt w g A n c xs at' bad) :
    Calls Try.prog 89 #[.pointer (some ⟨g, 0, none⟩), .int .i64 0] w fun x w' => (∃ v, x = .returned v) ∧ (bad ≠ 0 → CAt w' g A n c xs at' bad) ∧ (bad = 0 → CAt w' g A n c xs (padG xs n 4 at').2 (padG xs n 4 at').1) ∧ Keeps (fun k => k = g) w w' := by
  obtain ⟨R, hR⟩ : ∃ R, R = if bad = 0 then padG xs n 4 at' else (bad, at') := ⟨_, rfl⟩
  obtain ⟨POST, hPOST⟩ : ∃ POST : Ending → World → Prop, POST = fun x w' => (∃ v, x = .returned v) ∧ (bad ≠ 0 → CAt w' g A n c xs at' bad) ∧ (bad = 0 → CAt w' g A n c xs (padG xs n 4 at').2 (padG xs n 4 at').1) ∧ Keeps (fun k => k = g) w w' := ⟨_, rfl⟩
  have HPO := Lib.hid hPOST
  show Calls _ _ _ _ fun x w' => (fun x w' => (∃ v, x = .returned v) ∧ (bad ≠ 0 → CAt w' g A n c xs at' bad) ∧ (bad = 0 → CAt w' g A n c xs (padG xs n 4 at').2 (padG xs n 4 at').1) ∧ Keeps (fun k => k = g) w w') x w'
  rw [← hPOST]
  have HRR := Lib.hid hR
  have H := Lib.hid h
  clear h hR hPOST
  go_enter Try.func89, Try.ntmps89
  go_wp2_with fail
  go_loopg [] 4 (fun t wr => ∃ (at2 bad2 : Nat), Hid (CAt wr g A n c xs at2 bad2) ∧ Hid (Keeps (fun k => k = g) w wr) ∧ Hid ((bad2 ≠ 0 → R = (bad2, at2)) ∧ (bad2 = 0 → (4 - at2 % 4) % 4 < t ∧ padG xs n t at2 = R)))
  case atStart =>
    refine ⟨at', bad, H.out, Keeps.refl _ _, fun hb => ?_, fun hb => ⟨by omega, ?_⟩⟩
    · rw [HRR.out, if_neg hb]
    · rw [HRR.out, if_pos hb]
  case round =>
    obtain ⟨at2, bad2, HC, HK, HT⟩ := hrel
    have d1 := blk_cell HC.out.blk 1
    have d2 := blk_cell HC.out.blk 2
    simp at d1 d2
    have hsm := HC.out.small
    have hle := HC.out.le
    have hbb := HC.out.bads
    have hai : (at2 : Int) ≤ 140737488355328 := by omega
    have hbi : (bad2 : Int) ≤ 20 := by omega
    by_cases hb : bad2 = 0
    · subst hb
      obtain ⟨hmod, hpad⟩ := HT.out.2 rfl
      obtain ⟨t, rfl⟩ : ∃ t, gk = t + 1 := by
        cases gk with
        | zero => omega
        | succ t => exact ⟨t, rfl⟩
      have hpad : (if at2 % 4 = 0 then (0, at2) else if n ≤ at2 then (10, at2) else if bytN xs at2 ≠ 0 then (11, at2 + 1) else padG xs n t (at2 + 1)) = R := hpad
      have ha3 := and3 at2 (by omega)
      obtain ⟨rm, hrm⟩ : ∃ rm, rm = at2 % 4 := ⟨_, rfl⟩
      rw [← hrm] at ha3 hpad hmod
      have HPD := Lib.hid hpad
      have HMD := Lib.hid (And.intro hmod hrm)
      clear hpad hmod hrm
      by_cases hr0 : rm = 0
      · have hpad := HPD.out
        rw [if_pos hr0] at hpad
        have HPD2 := Lib.hid hpad
        have q1 : ((rm : Int) != 0) = false := by simp; omega
        have q2 : ((rm : Int) == 0) = true := by simp; omega
        clear hpad hr0
        go_wp2_with fail
        try (refine bodyPost_ret (results_none rfl _ _ _) rfl ?_)
        rw [HPO.out]
        refine ⟨⟨_, rfl⟩, fun hb => ?_, fun hb => ?_, HK.out⟩
        · have h1 := HRR.out
          rw [if_neg hb, ← HPD2.out] at h1
          injection h1 with h1 h2
          exact absurd h1.symm hb
        · have h1 := HRR.out
          rw [if_pos hb, ← HPD2.out] at h1
          rw [← h1]; exact HC.out
      · have hpad := HPD.out
        rw [if_neg hr0] at hpad
        have HPD2 := Lib.hid hpad
        have q1 : ((rm : Int) != 0) = true := by simp; omega
        have q2 : ((rm : Int) == 0) = false := by simp; omega
        have HR0 := Lib.hid hr0
        clear hpad hr0
        go_wp2_with fail
        refine (cbytes_is wr g n c at2 0 1 A xs HC.out (by decide) (by decide)).mono ?_
        rintro x w2 ⟨Ab, cb, ys, rfl, hny, hne, hy1, hy2, hk2⟩
        obtain ⟨b, o, rfl, hcy⟩ := hny.at_ (by decide)
        have hc0 := hcy 0 (by decide)
        obtain ⟨y, hy⟩ : ∃ y, y = bytN ys 0 := ⟨_, rfl⟩
        have hyv : ys.getD 0 0 = (y : Int) := by rw [hy]; exact (bytN_is hny 0).1
        have hyb : y < 256 := by rw [hy]; exact (bytN_is hny 0).2
        rw [hyv, Nat.add_zero] at hc0
        obtain ⟨is, his⟩ : ∃ is, is = decide (y = 0) := ⟨_, rfl⟩
        have hyq : ((y : Int) == 0) = is := by
          rw [his]
          by_cases h0 : y = 0
          · rw [h0]; rfl
          · rw [decide_eq_false h0]; simp; omega
        have HK2 : Hid (Keeps (fun k => k = g) w w2) := Keeps.trans HK.out hk2 fun _ _ h => h
        -- where the cursor stands
        obtain ⟨at3, bad3, HC3, HW⟩ : ∃ at3 bad3, CAt w2 g A n c xs at3 bad3 ∧ ((n ≤ at2 ∧ at3 = at2 ∧ bad3 = 10 ∧ y = 0) ∨ (at2 < n ∧ at3 = at2 + 1 ∧ bad3 = 0 ∧ y = bytN xs at2)) := by
          by_cases hfit : at2 + 1 ≤ n
          · have e1 : okS 0 (decide (at2 + 1 ≤ n)) 10 = 0 := by rw [decide_eq_true hfit, okS_yes]
            obtain ⟨h1, h2, h3⟩ := hy2 e1
            refine ⟨at2 + 1, 0, h3, .inr ⟨by omega, rfl, rfl, ?_⟩⟩
            rw [hy, h1]
            unfold bytN
            simp [List.getD_eq_getElem?_getD]
          · have e1 : okS 0 (decide (at2 + 1 ≤ n)) 10 = 10 := by rw [decide_eq_false hfit, okS_no]
            rw [e1] at hy1
            obtain ⟨h1, h2⟩ := hy1 (by decide)
            refine ⟨at2, 10, h2, .inl ⟨by omega, rfl, rfl, ?_⟩⟩
            rw [hy, h1]; rfl
        have HCC := Lib.hid HC3
        have HWW := Lib.hid HW
        have HIS := Lib.hid his
        clear hny hne hy1 hy2 hk2 hcy hy hyv his HC3 HW d1 d2
        go_wp2_with fail
        refine (cok_is w2 g n c at3 bad3 11 A xs is HCC.out (by decide) (by decide)).mono ?_
        rintro x w4 ⟨rfl, hc4, hk4⟩
        have HC4 := Lib.hid hc4
        have HK4 : Hid (Keeps (fun k => k = g) w w4) := Keeps.trans HK2.out hk4 fun _ _ h => h
        clear hc4 hk4
        go_wp2_with fail
        go_roundg t
        case measure => omega
        case rel =>
          refine ⟨at3, okS bad3 is 11, HC4.out, HK4.out, ?_⟩
          have hp := HPD2.out
          have hm := HMD.out
          have hr0 := HR0.out
          rcases HWW.out with ⟨h1, h2, h3, h4⟩ | ⟨h1, h2, h3, h4⟩
          · rw [if_pos h1] at hp
            rw [h2, h3, okS_bad (by decide)]
            exact ⟨fun _ => hp.symm, fun h => absurd h (by decide)⟩
          · rw [if_neg (by omega), ← h4] at hp
            rw [h2, h3]
            by_cases h0 : y = 0
            · have e1 : is = true := by rw [HIS.out, decide_eq_true h0]
              rw [if_neg (by simp [h0])] at hp
              rw [e1, okS_yes]
              exact ⟨fun h => absurd rfl h, fun _ => ⟨by omega, hp⟩⟩
            · have e1 : is = false := by rw [HIS.out, decide_eq_false h0]
              rw [if_pos h0] at hp
              rw [e1, okS_no]
              exact ⟨fun _ => hp.symm, fun h => absurd h (by decide)⟩
    · have q1 : ((bad2 : Int) == 0) = false := by simp; omega
      have q2 : decide ((bad2 : Int) = 0) = false := decide_eq_false (by omega)
      have HB := Lib.hid hb
      clear hb
      go_wp2_with fail
      try (refine bodyPost_ret (results_none rfl _ _ _) rfl ?_)
      rw [HPO.out]
      have h9 := HT.out.1 HB.out
      refine ⟨⟨_, rfl⟩, fun hb => ?_, fun hb => ?_, HK.out⟩
      · have h1 := HRR.out
        rw [if_neg hb, h9] at h1
        injection h1 with h1 h2
        rw [← h1, ← h2]; exact HC.out
      · have h1 := HRR.out
        rw [if_pos hb, h9] at h1
        rw [← h1]; exact HC.out
end Go.Proofs.Ytoeapobpdfidkaa
