/- The document's decoder: Bit, Direct, Done. -/
import Derived.Test.YtiikbpcaeoodjaaRdC
import Derived.BigQuiet
import Derived.Deep.QuietTactic
namespace Go.Proofs.Ytiikbpcaeoodjaa
open Go.RowKit
set_option linter.unusedVariables false
set_option linter.unusedSimpArgs false

set_option maxRecDepth 8000 in
theorem rTold_over (w : World) (g : Nat) (vc : Value) (BB : Nat → Prop) (A : Option Addr) (m c : Nat) (xs : List Int) (q : Nat) (d : Dec) (h : RDecAt w g vc BB A m c xs q d) (ho : d.over = true) (v : Int) :
    Calls Try.prog 56 #[.pointer (some ⟨g, 0, none⟩), .int .i64 v] w fun e' w' => e' = .returned (.tuple #[.int .i64 0, .int .i64 10]) ∧ w = w' := by
  have d5 := blk_cell h.blk 5
  simp at d5
  rw [ho] at d5
  clear h ho
  go_enter Try.func56, Try.ntmps56
  go_wp2_with fail
  go_ret2
  exact ⟨rfl, rfl⟩
set_option maxRecDepth 8000 in
theorem rTold_no (w : World) (g : Nat) (vc : Value) (BB : Nat → Prop) (A : Option Addr) (m c : Nat) (xs : List Int) (q : Nat) (d : Dec) (h : RDecAt w g vc BB A m c xs q d) (ho : d.over = false) (v : Int) :
    Calls Try.prog 56 #[.pointer (some ⟨g, 0, none⟩), .int .i64 v] w fun e' w' => e' = .returned (.tuple #[.int .i64 v, .int .i64 0]) ∧ w = w' := by
  have d5 := blk_cell h.blk 5
  simp at d5
  rw [ho] at d5
  clear h ho
  go_enter Try.func56, Try.ntmps56
  go_wp2_with fail
  go_ret2
  exact ⟨rfl, rfl⟩
theorem RDecAt.len0 {w : World} {g m c p : Nat} {vc : Value} {BB : Nat → Prop} {A : Option Addr} {xs : List Int} {d : Dec} (h : RDecAt w g vc BB A m c xs p d) : ∃ A' c', vc = .slice A' d.ch.length c' := by
  obtain ⟨A', c', hv⟩ := rowf h.chs
  exact ⟨A', c', hv⟩
set_option maxRecDepth 8000 in
theorem rBit_bad (w : World) (g : Nat) (vc : Value) (BB : Nat → Prop) (A : Option Addr) (m c : Nat) (xs : List Int) (q : Nat) (d : Dec) (h : RDecAt w g vc BB A m c xs q d) (i : Int) (hb : i < 0 ∨ (d.ch.length : Int) ≤ i) :
    Calls Try.prog 31 #[.pointer (some ⟨g, 0, none⟩), .int .i64 i] w fun e' w' => e' = .returned (.tuple #[.int .i64 0, .int .i64 2]) ∧ w = w' := by
  obtain ⟨A', c', rfl⟩ := h.len0
  have d0 := blk_cell h.blk 0
  simp at d0
  generalize d.ch.length = n at *
  clear h
  go_enter Try.func31, Try.ntmps31
  by_cases h1 : i < 0
  · go_wp2_with fail
    go_ret2
    exact ⟨rfl, rfl⟩
  have h2 : (n : Int) ≤ i := by omega
  go_wp2_with fail
  go_ret2
  exact ⟨rfl, rfl⟩
set_option maxRecDepth 8000 in
theorem rBit_over (w : World) (g : Nat) (vc : Value) (BB : Nat → Prop) (A : Option Addr) (m c : Nat) (xs : List Int) (q : Nat) (d : Dec) (h : RDecAt w g vc BB A m c xs q d) (ho : d.over = true) (i : Nat) (hi : i < d.ch.length) :
    Calls Try.prog 31 #[.pointer (some ⟨g, 0, none⟩), .int .i64 i] w fun e' w' => e' = .returned (.tuple #[.int .i64 0, .int .i64 10]) ∧ w = w' := by
  have HG := Lib.hid (rGet_over w g vc BB A m c xs q d h ho i)
  have HT := Lib.hid (rTold_over w g vc BB A m c xs q d h ho 0)
  obtain ⟨A', c', rfl⟩ := h.len0
  have d0 := blk_cell h.blk 0
  simp at d0
  generalize d.ch.length = n at *
  have hi2 : ¬ (n : Int) ≤ (i : Int) := by omega
  clear h ho
  go_enter Try.func31, Try.ntmps31
  go_wp2_with fail
  refine HG.out.mono ?_
  rintro x w1 ⟨rfl, rfl⟩
  go_wp2_with fail
  refine HT.out.mono ?_
  rintro x w1 ⟨rfl, rfl⟩
  go_wp2_with fail
  go_ret2
  exact ⟨rfl, rfl⟩
set_option maxRecDepth 8000 in
theorem rBit_is (w : World) (g : Nat) (vc : Value) (BB : Nat → Prop) (A : Option Addr) (m c : Nat) (xs : List Int) (q : Nat) (d : Dec) (h : RDecAt w g vc BB A m c xs q d) (hok : d.Ok) (ho : d.over = false) (i : Nat) (hi : i < d.ch.length) (hn : d.ch.length ≤ 65536) (hm : m ≤ 140737488355328) :
    Calls Try.prog 31 #[.pointer (some ⟨g, 0, none⟩), .int .i64 i] w fun e' w' => e' = .returned (.tuple #[.int .i64 (if (d.get i).over then 0 else d.told i : Nat), .int .i64 (if (d.get i).over then 10 else 0 : Nat)]) ∧ RDecTo2 w g vc BB A m c xs (d.get i) w' := by
  have HG := Lib.hid (rGet_is w g vc BB A m c xs q d h hok ho i hi hn hm)
  obtain ⟨A', c', hv⟩ := h.len0
  have d0 := blk_cell h.blk 0
  simp at d0
  rw [hv] at d0
  clear hv
  generalize d.ch.length = n at *
  generalize d.told i = T at *
  generalize d.get i = D at *
  obtain ⟨V1, hV1⟩ : ∃ V1 : Nat, V1 = if D.over then 0 else T := ⟨_, rfl⟩
  obtain ⟨E1, hE1⟩ : ∃ E1 : Nat, E1 = if D.over then 10 else 0 := ⟨_, rfl⟩
  rw [← hV1, ← hE1]
  have HV1 := Lib.hid hV1
  have HE1 := Lib.hid hE1
  clear hV1 hE1
  have hi2 : ¬ (n : Int) ≤ (i : Int) := by omega
  clear h ho hok hn hm
  go_enter Try.func31, Try.ntmps31
  go_wp2_with fail
  refine HG.out.mono ?_
  rintro x w1 ⟨rfl, q1, h1, hk1⟩
  clear d0 HG
  cases ho : D.over
  · have HT := Lib.hid (rTold_no w1 g vc BB A m c xs q1 D h1 ho (T : Nat))
    have HP : Hid (RDecTo2 w g vc BB A m c xs D w1) := ⟨q1, h1, hk1⟩
    have HVE : Hid (V1 = T ∧ E1 = 0) := by show _ ∧ _; rw [HV1.out, HE1.out, ho]; exact ⟨rfl, rfl⟩
    clear h1 hk1 ho HV1 HE1
    go_wp2_with fail
    refine HT.out.mono ?_
    rintro x w1 ⟨rfl, rfl⟩
    go_wp2_with fail
    go_ret2
    exact ⟨by rw [HVE.out.1, HVE.out.2]; rfl, HP.out⟩
  · have HT := Lib.hid (rTold_over w1 g vc BB A m c xs q1 D h1 ho (T : Nat))
    have HP : Hid (RDecTo2 w g vc BB A m c xs D w1) := ⟨q1, h1, hk1⟩
    have HVE : Hid (V1 = 0 ∧ E1 = 10) := by show _ ∧ _; rw [HV1.out, HE1.out, ho]; exact ⟨rfl, rfl⟩
    clear h1 hk1 ho HV1 HE1
    go_wp2_with fail
    refine HT.out.mono ?_
    rintro x w1 ⟨rfl, rfl⟩
    go_wp2_with fail
    go_ret2
    exact ⟨by rw [HVE.out.1, HVE.out.2]; rfl, HP.out⟩
set_option maxRecDepth 8000 in
theorem rDone_is (w : World) (g : Nat) (vc : Value) (BB : Nat → Prop) (A : Option Addr) (m c : Nat) (xs : List Int) (q : Nat) (d : Dec) (h : RDecAt w g vc BB A m c xs q d) :
    Calls Try.prog 28 #[.pointer (some ⟨g, 0, none⟩)] w fun e' w' => e' = .returned (.bool d.done) ∧ Grow w w' := by
  have hl := h.len
  have d2 := blk_cell h.blk 2
  have d3 := blk_cell h.blk 3
  have d4 := blk_cell h.blk 4
  have d5 := blk_cell h.blk 5
  simp at d2 d3 d4 d5
  obtain ⟨ch, width, code, rest, over⟩ := d
  simp only at hl d2 d3 d4 d5
  clear h
  cases rest with
  | nil =>
    obtain rfl : q = m := by simpa using hl
    clear hl
    by_cases hc : code = 0
    · subst hc
      cases over
      · rw [show (⟨ch, width, 0, [], false⟩ : Dec).done = true from rfl]
        go_enter Try.func28, Try.ntmps28
        go_wp2_with fail
        go_quiet (fail)
        go_wp2_with fail
        go_ret
        exact ⟨rfl, (Keeps.refl _ w).drewN _⟩
      · rw [show (⟨ch, width, 0, [], true⟩ : Dec).done = false from rfl]
        go_enter Try.func28, Try.ntmps28
        go_wp2_with fail
        go_quiet (fail)
        go_wp2_with fail
        go_ret
        exact ⟨rfl, (Keeps.refl _ w).drewN _⟩
    · rw [show (⟨ch, width, code, [], over⟩ : Dec).done = false by simp [Dec.done, hc]]
      have hc2 : ((code : Int) == 0) = false := by rw [beq_eq_false_iff_ne]; omega
      go_enter Try.func28, Try.ntmps28
      go_wp2_with fail
      go_quiet (fail)
      go_wp2_with fail
      go_ret
      exact ⟨rfl, (Keeps.refl _ w).drewN _⟩
  | cons x r =>
    rw [show (⟨ch, width, code, x :: r, over⟩ : Dec).done = false from rfl]
    have hqm : q < m := by simp at hl; omega
    have hc2 : ((q : Int) == (m : Int)) = false := by rw [beq_eq_false_iff_ne]; omega
    have hc3 : (q == m) = false := by rw [beq_eq_false_iff_ne]; omega
    have hc4 : ¬ q = m := by omega
    clear hl
    go_enter Try.func28, Try.ntmps28
    go_wp2_with fail
    go_quiet (fail)
    go_wp2_with fail
    go_ret
    exact ⟨rfl, (Keeps.refl _ w).drewN _⟩
set_option maxRecDepth 8000 in
theorem rDirect_bad (w : World) (g : Nat) (vc : Value) (BB : Nat → Prop) (A : Option Addr) (m c : Nat) (xs : List Int) (q : Nat) (d : Dec) (h : RDecAt w g vc BB A m c xs q d) (n : Int) (hb : n < 0 ∨ 31 < n) :
    Calls Try.prog 33 #[.pointer (some ⟨g, 0, none⟩), .int .i64 n] w fun e' w' => e' = .returned (.tuple #[.int .i64 0, .int .i64 2]) ∧ w = w' := by
  clear h
  go_enter Try.func33, Try.ntmps33
  by_cases h1 : n < 0
  · go_wp2_with fail
    go_ret2
    exact ⟨rfl, rfl⟩
  have h2 : 31 < n := by omega
  go_wp2_with fail
  go_ret2
  exact ⟨rfl, rfl⟩
set_option maxRecDepth 8000 in
theorem rDirect_over (w : World) (g : Nat) (vc : Value) (BB : Nat → Prop) (A : Option Addr) (m c : Nat) (xs : List Int) (q : Nat) (d : Dec) (h : RDecAt w g vc BB A m c xs q d) (ho : d.over = true) (n : Nat) (hn : n ≤ 31) :
    Calls Try.prog 33 #[.pointer (some ⟨g, 0, none⟩), .int .i64 n] w fun e' w' => e' = .returned (.tuple #[.int .i64 0, .int .i64 10]) ∧ w = w' := by
  have HT := Lib.hid (rTold_over w g vc BB A m c xs q d h ho 0)
  have d5 := blk_cell h.blk 5
  simp at d5
  rw [ho] at d5
  have h1 : ¬ (n : Int) < 0 := by omega
  have h2 : ¬ (31 : Int) < (n : Int) := by omega
  clear h ho
  go_enter Try.func33, Try.ntmps33
  go_wp2_with fail
  go_loopw [6, 7] (fun vv vi wr => vv = .int .i64 0 ∧ vi = .int .i64 0 ∧ wr = w) (fun _ _ _ => 0)
  case atStart => exact ⟨rfl, rfl, rfl⟩
  case round =>
    obtain ⟨rfl, rfl, rfl⟩ := hrel
    by_cases h0 : n = 0
    · subst h0
      go_wp2_with fail
      refine HT.out.mono ?_
      rintro x w1 ⟨rfl, rfl⟩
      go_wp2_with fail
      go_ret2
      exact ⟨rfl, rfl⟩
    · have h3 : (0 : Int) < (n : Int) := by omega
      go_wp2_with fail
      refine HT.out.mono ?_
      rintro x w1 ⟨rfl, rfl⟩
      go_wp2_with fail
      go_ret2
      exact ⟨rfl, rfl⟩
set_option maxRecDepth 8000 in
set_option maxHeartbeats 4000000 in
theorem rDirect_is (w : World) (g : Nat) (vc : Value) (BB : Nat → Prop) (A : Option Addr) (m c : Nat) (xs : List Int) (q : Nat) (d : Dec) (h : RDecAt w g vc BB A m c xs q d) (hok : d.Ok) (ho : d.over = false) (n : Nat) (hn : n ≤ 31) (hm : m ≤ 140737488355328) :
    Calls Try.prog 33 #[.pointer (some ⟨g, 0, none⟩), .int .i64 n] w fun e' w' => e' = .returned (.tuple #[.int .i64 (if (d.dirD n).over then 0 else d.dirV 0 n : Nat), .int .i64 (if (d.dirD n).over then 10 else 0 : Nat)]) ∧ RDecTo2 w g vc BB A m c xs (d.dirD n) w' := by
  have d5 := blk_cell h.blk 5
  simp at d5
  rw [ho] at d5
  have t1 : decide ((n : Int) < 0) = false := by simp
  have t2 : decide ((31 : Int) < (n : Int)) = false := by simp; omega
  obtain ⟨D, hD⟩ : ∃ D, D = d.dirD n := ⟨_, rfl⟩
  obtain ⟨V, hV⟩ : ∃ V, V = d.dirV 0 n := ⟨_, rfl⟩
  rw [← hD, ← hV]
  obtain ⟨V1, hV1⟩ : ∃ V1 : Nat, V1 = if D.over then 0 else V := ⟨_, rfl⟩
  obtain ⟨E1, hE1⟩ : ∃ E1 : Nat, E1 = if D.over then 10 else 0 := ⟨_, rfl⟩
  rw [← hV1, ← hE1]
  have HD := Lib.hid hD
  have HV := Lib.hid hV
  have HV1 := Lib.hid hV1
  have HE1 := Lib.hid hE1
  have H := Lib.hid h
  have HOK := Lib.hid hok
  have HO := Lib.hid ho
  have HM := Lib.hid hm
  clear h hok ho hD hV hV1 hE1 hm
  go_enter Try.func33, Try.ntmps33
  go_wp2_with fail
  clear t1 t2 d5
  go_loopw [6, 7] (fun vv vi wr => ∃ (i v q1 : Nat) (d1 : Dec), i ≤ n ∧ vv = .int .i64 v ∧ vi = .int .i64 i ∧ Hid (RDecAt wr g vc BB A m c xs q1 d1) ∧ Hid (d1.over = false ∧ d1.Ok ∧ d1.dirD (n - i) = D ∧ d1.dirV v (n - i) = V ∧ v < 2 ^ i ∨ d1.over = true ∧ d1 = D ∧ v < 2 ^ i) ∧ Hid (Keeps (fun k => k = g) w wr)) (fun _ vi _ => n - (intOf vi).toNat)
  case atStart => exact ⟨0, 0, q, d, by omega, rfl, rfl, H.out, .inl ⟨HO.out, HOK.out, HD.out.symm, HV.out.symm, by decide⟩, Keeps.refl _ _⟩
  case round =>
    obtain ⟨i, v, q1, d1, hi, rfl, rfl, H1, HX, HK⟩ := hrel
    cases hov : d1.over
    · by_cases hin : i < n
      · obtain ⟨ho1, hok1, hd1, hv1, hvb⟩ : d1.over = false ∧ d1.Ok ∧ d1.dirD (n - i) = D ∧ d1.dirV v (n - i) = V ∧ v < 2 ^ i := by
          rcases HX.out with h | h
          · exact h
          · exact absurd h.1 (by rw [hov]; decide)
        clear HX hov
        obtain ⟨k, hk⟩ : ∃ k, n - i = k + 1 := ⟨n - i - 1, by omega⟩
        have hk2 : n - (i + 1) = k := by omega
        rw [hk] at hd1 hv1
        have hpw : 2 ^ (i + 1) ≤ 2 ^ 31 := Nat.pow_le_pow_right (by omega) (by omega)
        have hvi : (v : Int) < 1073741824 := by rw [Nat.pow_succ] at hpw; omega
        have HVB : Hid (v < 2 ^ i) := hvb
        obtain ⟨hko, hkr, hkc⟩ := Dec.dhalf_ok d1 hok1 ho1
        have hw1 := hok1.width
        have ht1 := hok1.top ho1
        have hc1 := hok1.code
        obtain ⟨S1, hS1⟩ : ∃ S1, S1 = d1.half := ⟨_, rfl⟩
        obtain ⟨b, hb⟩ : ∃ b, b = d1.hbit := ⟨_, rfl⟩
        have HD1 : Hid ((if S1.over then S1 else S1.dirD k) = D) := by show _ = _; rw [← hd1, hS1]; rfl
        have HV2 : Hid ((if S1.over then 0 else S1.dirV (2 * v + b) k) = V) := by show _ = _; rw [← hv1, hS1, hb]; rfl
        have HSK : Hid (S1.Ok) := by rw [hS1]; exact hko
        obtain ⟨ch, width, code, rest, over⟩ := d1
        simp only at ho1 hw1 ht1 hc1
        subst ho1
        obtain ⟨p, hp⟩ : ∃ p, p = width / 2 := ⟨_, rfl⟩
        have eq1 : (width : Int) / 2 = (p : Int) := by omega
        have HSE : Hid (S1 = (⟨ch, p, code - p * b, rest, false⟩ : Dec).settle) := by show _ = _; rw [hS1, hb, hp]; rfl
        have hbq : b = if p ≤ code then 1 else 0 := by rw [hb, hp]; rfl
        have hpi : (p : Int) < 4294967296 := by omega
        have hci : (code : Int) < 4294967296 := by omega
        have HF := Lib.hid (And.intro hw1 (And.intro ht1 (And.intro hc1 hp)))
        have HKK := Lib.hid hk2
        have d1 := blk_cell H1.out.blk 1
        have d5 := blk_cell H1.out.blk 5
        have f1 := blk_frozen H1.out.blk 1
        simp at d1 d5
        have HE2 : Hid (RDecAt (wr.setCell ⟨g, 1, none⟩ (.int .u64 (p : Nat))) g vc BB A m c xs q1 ⟨ch, p, code, rest, false⟩) :=
          H1.out.re (d' := ⟨ch, p, code, rest, false⟩) ((Keeps.refl (fun k => k = g) wr).setCell (p := ⟨g, 1, none⟩) (fun _ => rfl) (.int .u64 (p : Nat))) (blk_set H1.out.blk 1 (.int .u64 (p : Nat))) rfl H1.out.len H1.out.rest
        have HK2 : Hid (Keeps (fun k => k = g) w (wr.setCell ⟨g, 1, none⟩ (.int .u64 (p : Nat)))) := HK.out.setCell (p := ⟨g, 1, none⟩) (fun _ => rfl) _
        clear hok1 hd1 hv1 hvb hk hk2 hpw hko hkr hkc hw1 ht1 hc1 hS1 hb hp
        go_wp2_with fail
        clear d1 d5 f1 H1 HK
        generalize wr.setCell ⟨g, 1, none⟩ (.int .u64 (p : Nat)) = wq at *
        refine wp_region_seq (by kernel_rfl) (by kernel_rfl) ?_
        have HE3 := Lib.hid HE2.out.drew
        have HK3 : Hid (Keeps (fun k => k = g) w wq.drew) := HK2.out.drew
        clear HE2 HK2
        generalize wq.drew = wd at *
        have d1 := blk_cell HE3.out.blk 1
        have d2 := blk_cell HE3.out.blk 2
        simp at d1 d2
        clear eq1
        by_cases hge : p ≤ code
        · obtain rfl : b = 1 := by rw [hbq, if_pos hge]
          clear hbq
          have hdq : decide ((p : Int) ≤ (code : Int)) = true := by simp; omega
          have hz1 : 0 ≤ (code : Int) - (p : Int) := by omega
          have hz2 : (code : Int) - (p : Int) < 4294967296 := by omega
          rw [Nat.mul_one] at HSE
          go_wp2_with fail
          refine ⟨by kernel_rfl, ?_⟩
          go_wp2_with fail
          refine wp_region_seq (by kernel_rfl) (by kernel_rfl) ?_
          have HE3b := Lib.hid HE3.out.drew
          have HK3b : Hid (Keeps (fun k => k = g) w wd.drew) := HK3.out.drew
          clear HE3 HK3 d1 d2
          generalize wd.drew = we at *
          have d1 := blk_cell HE3b.out.blk 1
          have d2 := blk_cell HE3b.out.blk 2
          have f2 := blk_frozen HE3b.out.blk 2
          simp at d1 d2
          go_wp2_with fail
          refine ⟨by kernel_rfl, ?_⟩
          rw [show ((code : Int) - (p : Int)) = ((code - p : Nat) : Int) by omega]
          have HE4 : Hid (RDecAt (we.setCell ⟨g, 2, none⟩ (.int .u64 ((code - p : Nat) : Int))) g vc BB A m c xs q1 ⟨ch, p, code - p, rest, false⟩) :=
            HE3b.out.re (d' := ⟨ch, p, code - p, rest, false⟩) ((Keeps.refl (fun k => k = g) we).setCell (p := ⟨g, 2, none⟩) (fun _ => rfl) (.int .u64 ((code - p : Nat) : Int))) (blk_set HE3b.out.blk 2 (.int .u64 ((code - p : Nat) : Int))) rfl HE3b.out.len HE3b.out.rest
          have HK4 : Hid (Keeps (fun k => k = g) w (we.setCell ⟨g, 2, none⟩ (.int .u64 ((code - p : Nat) : Int)))) := HK3b.out.setCell (p := ⟨g, 2, none⟩) (fun _ => rfl) _
          clear d1 d2 f2 HE3b HK3b hpi hci hge hdq hz1 hz2
          have HSET := Lib.hid (rSettle_is _ g vc BB A m c xs q1 _ HE4.out (by obtain ⟨h1, h2, h3, h4⟩ := HF.out; simp only; omega) (by obtain ⟨h1, h2, h3, h4⟩ := HF.out; simp only; omega) rfl HM.out)
          rw [← HSE.out] at HSET
          go_wp2_with fail
          refine HSET.out.mono ?_
          rintro x w5 ⟨rfl, q5, h5, hk5⟩
          have HE5 := Lib.hid h5
          have HK5 : Hid (Keeps (fun k => k = g) w w5) := Keeps.trans HK4.out hk5 fun _ _ h => h
          clear h5 hk5 HSET HE4 HK4
          have HX5 : Hid (S1.over = false ∧ S1.Ok ∧ S1.dirD (n - (i + 1)) = D ∧ S1.dirV (2 * v + 1) (n - (i + 1)) = V ∧ 2 * v + 1 < 2 ^ (i + 1) ∨ S1.over = true ∧ S1 = D ∧ 2 * v + 1 < 2 ^ (i + 1)) := by
            show _ ∨ _
            have hb2 : 2 * v + 1 < 2 ^ (i + 1) := by have := HVB.out; rw [Nat.pow_succ]; omega
            have h1 := HD1.out
            have h2 := HV2.out
            rw [HKK.out]
            cases hso : S1.over
            · rw [hso] at h1 h2
              exact .inl ⟨rfl, HSK.out, h1, h2, hb2⟩
            · rw [hso] at h1
              exact .inr ⟨rfl, h1, hb2⟩
          go_wp2_with fail
          go_roundw
          case rel => exact ⟨i + 1, 2 * v + 1, q5, S1, by omega, by go_num, by go_num, HE5.out, HX5.out, HK5.out⟩
          case measure => simp [intOf]; omega
        · obtain rfl : b = 0 := by rw [hbq, if_neg hge]
          clear hbq
          have hdq : decide ((p : Int) ≤ (code : Int)) = false := by simp; omega
          rw [Nat.mul_zero, Nat.sub_zero] at HSE
          go_wp2_with fail
          refine ⟨by kernel_rfl, ?_⟩
          have HE4 := HE3
          have HK4 := HK3
          clear d1 d2 HE3 HK3 hpi hci hge hdq
          have HSET := Lib.hid (rSettle_is _ g vc BB A m c xs q1 _ HE4.out (by obtain ⟨h1, h2, h3, h4⟩ := HF.out; simp only; omega) (by obtain ⟨h1, h2, h3, h4⟩ := HF.out; simp only; omega) rfl HM.out)
          rw [← HSE.out] at HSET
          go_wp2_with fail
          refine HSET.out.mono ?_
          rintro x w5 ⟨rfl, q5, h5, hk5⟩
          have HE5 := Lib.hid h5
          have HK5 : Hid (Keeps (fun k => k = g) w w5) := Keeps.trans HK4.out hk5 fun _ _ h => h
          clear h5 hk5 HSET HE4 HK4
          have HX5 : Hid (S1.over = false ∧ S1.Ok ∧ S1.dirD (n - (i + 1)) = D ∧ S1.dirV (2 * v + 0) (n - (i + 1)) = V ∧ 2 * v + 0 < 2 ^ (i + 1) ∨ S1.over = true ∧ S1 = D ∧ 2 * v + 0 < 2 ^ (i + 1)) := by
            show _ ∨ _
            have hb2 : 2 * v + 0 < 2 ^ (i + 1) := by have := HVB.out; rw [Nat.pow_succ]; omega
            have h1 := HD1.out
            have h2 := HV2.out
            rw [HKK.out]
            cases hso : S1.over
            · rw [hso] at h1 h2
              exact .inl ⟨rfl, HSK.out, h1, h2, hb2⟩
            · rw [hso] at h1
              exact .inr ⟨rfl, h1, hb2⟩
          go_wp2_with fail
          go_roundw
          case rel => exact ⟨i + 1, 2 * v + 0, q5, S1, by omega, by go_num, by go_num, HE5.out, HX5.out, HK5.out⟩
          case measure => simp [intOf]; omega
      · obtain rfl : n = i := by omega
        obtain ⟨ho1, hok1, hd1, hv1, hvb⟩ : d1.over = false ∧ d1.Ok ∧ d1.dirD (n - n) = D ∧ d1.dirV v (n - n) = V ∧ v < 2 ^ n := by
          rcases HX.out with h | h
          · exact h
          · exact absurd h.1 (by rw [hov]; decide)
        rw [Nat.sub_self] at hd1 hv1
        obtain rfl : d1 = D := hd1
        obtain rfl : v = V := hv1
        have HVE : Hid (V1 = v ∧ E1 = 0) := by show _ ∧ _; rw [HV1.out, HE1.out, hov]; exact ⟨rfl, rfl⟩
        have HT := Lib.hid (rTold_no wr g vc BB A m c xs q1 d1 H1.out hov v)
        clear HV1 HE1 HD HV HX hok1 hvb ho1
        have d5 := blk_cell H1.out.blk 5
        simp at d5
        rw [hov] at d5
        clear hov
        go_wp2_with fail
        refine HT.out.mono ?_
        rintro x w9 ⟨rfl, rfl⟩
        go_wp2_with fail
        go_ret2
        exact ⟨by rw [HVE.out.1, HVE.out.2]; rfl, q1, H1.out, HK.out.mono fun _ _ h => .inl h⟩
    · obtain ⟨-, rfl, hvb⟩ : d1.over = true ∧ d1 = D ∧ v < 2 ^ i := by
        rcases HX.out with h | h
        · exact absurd h.1 (by rw [hov]; decide)
        · exact h
      have HVE : Hid (V1 = 0 ∧ E1 = 10) := by show _ ∧ _; rw [HV1.out, HE1.out, hov]; exact ⟨rfl, rfl⟩
      have HT := Lib.hid (rTold_over wr g vc BB A m c xs q1 d1 H1.out hov v)
      clear HV1 HE1 HD HV HX
      have d5 := blk_cell H1.out.blk 5
      simp at d5
      rw [hov] at d5
      have hvi : (v : Int) < 4294967296 := by have : 2 ^ i ≤ 2 ^ 31 := Nat.pow_le_pow_right (by omega) (by omega); omega
      clear hov hvb
      by_cases hin : i < n
      · go_wp2_with fail
        refine HT.out.mono ?_
        rintro x w9 ⟨rfl, rfl⟩
        go_wp2_with fail
        go_ret2
        exact ⟨by rw [HVE.out.1, HVE.out.2]; rfl, q1, H1.out, HK.out.mono fun _ _ h => .inl h⟩
      · go_wp2_with fail
        refine HT.out.mono ?_
        rintro x w9 ⟨rfl, rfl⟩
        go_wp2_with fail
        go_ret2
        exact ⟨by rw [HVE.out.1, HVE.out.2]; rfl, q1, H1.out, HK.out.mono fun _ _ h => .inl h⟩
end Go.Proofs.Ytiikbpcaeoodjaa
