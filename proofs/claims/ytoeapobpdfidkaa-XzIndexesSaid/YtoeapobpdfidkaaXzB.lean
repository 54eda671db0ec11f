/- xz: rows of records. -/
import Derived.Test.YtoeapobpdfidkaaXzA
namespace Go.Proofs.Ytoeapobpdfidkaa
open Go.RowKit
set_option linter.unusedVariables false
set_option linter.unusedSimpArgs false

/-- A row of records. -/
structure Recs (w : World) (A : Option Addr) (n c : Nat) (l : List (Int × Int)) : Prop where
  len : l.length = n
  rng : ∀ r ∈ l, inKind .i64 r.1 ∧ inKind .i64 r.2
  cap : n ≤ c
  nil : A = none → c = 0
  at_ : 0 < n → ∃ b o, A = some ⟨b, o, none⟩ ∧ ∀ j, j < n → w.cell? ⟨b, o + j * 2, none⟩ = some (.int .i64 (l.getD j (0, 0)).1) ∧ w.cell? ⟨b, o + j * 2 + 1, none⟩ = some (.int .i64 (l.getD j (0, 0)).2)
theorem Recs.keep {S : Nat → Prop} {w w' : World} {A : Option Addr} {n c : Nat} {l : List (Int × Int)} (h : Recs w A n c l) (k : Keeps S w w') (hS : ∀ b o, 0 < n → A = some ⟨b, o, none⟩ → ¬ S b) : Recs w' A n c l :=
  ⟨h.len, h.rng, h.cap, h.nil, fun hn => by
    obtain ⟨b, o, e, hc⟩ := h.at_ hn
    exact ⟨b, o, e, fun j hj => ⟨ckp (hc j hj).1 k (hS b o hn e), ckp (hc j hj).2 k (hS b o hn e)⟩⟩⟩
theorem Recs.grow {w w' : World} {A : Option Addr} {n c : Nat} {l : List (Int × Int)} (h : Recs w A n c l) (k : Grow w w') : Recs w' A n c l := h.keep k fun _ _ _ _ h => h
/-- The records' cells. -/
def recC (l : List (Int × Int)) : List Value := l.flatMap fun r => [.int .i64 r.1, .int .i64 r.2]
theorem recC_len : ∀ l : List (Int × Int), (recC l).length = l.length * 2
  | [] => rfl
  | r :: l => by
    show ([Value.int .i64 r.1, Value.int .i64 r.2] ++ recC l).length = _
    rw [List.length_append, recC_len l, List.length_cons]
    simp; omega
theorem recC_snoc (l : List (Int × Int)) (r : Int × Int) : recC (l ++ [r]) = recC l ++ [.int .i64 r.1, .int .i64 r.2] := by simp [recC]
theorem recC_at : ∀ (l : List (Int × Int)) (j : Nat), j < l.length → (recC l)[j * 2]? = some (.int .i64 (l.getD j (0, 0)).1) ∧ (recC l)[j * 2 + 1]? = some (.int .i64 (l.getD j (0, 0)).2)
  | [], j, h => absurd h (Nat.not_lt_zero _)
  | r :: l, 0, h => ⟨rfl, rfl⟩
  | r :: l, j + 1, h => by
    have h1 := recC_at l j (by simpa using h)
    have e1 : (j + 1) * 2 = j * 2 + 1 + 1 := by omega
    show ([Value.int .i64 r.1, Value.int .i64 r.2] ++ recC l)[(j + 1) * 2]? = _ ∧ ([Value.int .i64 r.1, Value.int .i64 r.2] ++ recC l)[(j + 1) * 2 + 1]? = _
    rw [e1]
    exact h1
theorem recC_one (l : List (Int × Int)) : ∀ u ∈ recC l, u.oneCell' = true := fun u hu => by
  obtain ⟨r, _, hr⟩ := List.mem_flatMap.1 hu
  simp at hr
  rcases hr with rfl | rfl <;> rfl
theorem Recs.of_own {w : World} {b e : Nat} {A : Option Addr} {n c : Nat} {l : List (Int × Int)} (h : w.ownsRow b e 2 (.slice A n c) n (recC l)) (hr : ∀ r ∈ l, inKind .i64 r.1 ∧ inKind .i64 r.2) : Recs w A n c l := by
  have hl : l.length = n := by have h1 := h.1; rw [recC_len] at h1; omega
  rcases h.2 with ⟨hv, h0⟩ | ⟨g, cap, cur, hv, _, _, hnc, _⟩
  · injection hv with hv h1 h2
    exact ⟨hl, hr, by omega, fun _ => h2, fun h => by omega⟩
  · injection hv with hv h1 h2
    subst hv
    subst h2
    refine ⟨hl, hr, hnc, fun e => (by cases e), fun _ => ⟨g, 0, rfl, fun j hj => ?_⟩⟩
    have hc1 := h.cellAt (j * 2) (by omega)
    have hc2 := h.cellAt (j * 2 + 1) (by omega)
    have hr2 := recC_at l j (by omega)
    rw [Nat.zero_add, hc1, hc2]
    exact hr2
theorem Recs.src {w : World} {A : Option Addr} {n c : Nat} {l : List (Int × Int)} (h : Recs w A n c l) : Src w 2 A n c (recC l) := by
  refine ⟨by rw [recC_len, h.len], fun hA => ⟨by have := h.nil hA; have := h.cap; omega, h.nil hA⟩, fun ad hA j u hu => ?_, recC_one l⟩
  have hj : j < n * 2 := by
    have h1 := (List.getElem?_eq_some_iff.1 hu).1
    rw [recC_len, h.len] at h1
    exact h1
  obtain ⟨b, o, e, hc⟩ := h.at_ (by omega)
  rw [e] at hA
  injection hA with hA
  subst hA
  have hd := hc (j / 2) (by omega)
  have hr := recC_at l (j / 2) (by rw [h.len]; omega)
  rcases Nat.mod_two_eq_zero_or_one j with h0 | h0
  · have e1 : j = j / 2 * 2 := by omega
    rw [Addr.add_mid]
    rw [e1] at hu ⊢
    rw [hr.1] at hu
    rw [← hu]; exact hd.1
  · have e1 : j = j / 2 * 2 + 1 := by omega
    rw [Addr.add_mid]
    rw [e1] at hu ⊢
    rw [hr.2] at hu
    rw [← hu]; exact hd.2
theorem Recs.of_rd {w : World} {B c : Nat} {A : Option Addr} {x : List (Int × Int × Unit)} (h : Sh.Rd w (.sl B (.pair (.int .i64) (.pair (.int .i64) .nil))) [.slice A x.length c] x) : Recs w A x.length c (x.map fun r => (r.1, r.2.1)) ∧ c * B ≤ 140737488351232 := by
  obtain ⟨a, cap, e, h1, h2, h3, hn, h4⟩ := h
  injection e with e _
  injection e with e1 _ e3
  subst e1
  subst e3
  have hel : ∀ i y, x[i]? = some y → ∃ b off, A = some ⟨b, off, none⟩ ∧ (w.cell? ⟨b, off + i * 2, none⟩ = some (.int .i64 y.1) ∧ w.cell? ⟨b, off + i * 2 + 1, none⟩ = some (.int .i64 y.2.1)) ∧ inKind .i64 y.1 ∧ inKind .i64 y.2.1 := by
    intro i y hi
    have hlt : i < x.length := (List.getElem?_eq_some_iff.1 hi).1
    obtain ⟨b, off, ea, _, hx⟩ := h4 (by omega)
    obtain ⟨cs, hl, hc, hr⟩ := hx i y hi
    obtain ⟨d1, d2, rfl, hd1, d3, d4, rfl, hd3, hd4⟩ := hr
    obtain ⟨rfl, hw1⟩ := hd1
    obtain ⟨rfl, hw3⟩ := hd3
    have hd4 : d4 = [] := hd4
    subst hd4
    have hc0 := hc 0 (by show 0 < 2; decide)
    have hc1 := hc 1 (by show 1 < 2; decide)
    have e0 : off + (i * Sh.size (.pair (.int .i64) (.pair (.int .i64) .nil)) + 0) = off + i * 2 := by show off + (i * 2 + 0) = off + i * 2; omega
    have e1 : off + (i * Sh.size (.pair (.int .i64) (.pair (.int .i64) .nil)) + 1) = off + i * 2 + 1 := by show off + (i * 2 + 1) = off + i * 2 + 1; omega
    rw [e0] at hc0
    rw [e1] at hc1
    exact ⟨b, off, ea, ⟨hc0, hc1⟩, inKind_wf hw1, inKind_wf hw3⟩
  refine ⟨⟨by simp, fun y hy => ?_, h1, hn, fun hpos => ?_⟩, h3⟩
  · obtain ⟨z, hz, rfl⟩ := List.mem_map.1 hy
    obtain ⟨i, hi⟩ := List.mem_iff_getElem?.1 hz
    obtain ⟨_, _, _, _, h⟩ := hel i z hi
    exact h
  · obtain ⟨b, off, ea, _⟩ := h4 hpos
    refine ⟨b, off, ea, fun j hj => ?_⟩
    have hg : x[j]? = some x[j] := List.getElem?_eq_getElem hj
    obtain ⟨b', off', ea', hc, _⟩ := hel j _ hg
    rw [ea] at ea'
    injection ea' with ea'
    injection ea' with e1 e2
    subst e1; subst e2
    have hm : (x.map fun r => (r.1, r.2.1)).getD j (0, 0) = (x[j].1, x[j].2.1) := by simp [List.getD_eq_getElem?_getD, hg]
    rw [hm]
    exact hc
set_option maxRecDepth 4000 in
set_option maxHeartbeats 1000000 in
theorem idxFunc_is (w : World) (A : Option Addr) (n c : Nat) (l : List (Int × Int)) (h : Recs w A n c l) (hn : n ≤ 140737488355328) :
    Calls Try.prog 82 #[.slice A n c, .func (.func 58) #[] #[]] w fun e w' => ∃ k : Int, e = .returned (.int .i64 k) ∧ decide (0 ≤ k) = l.any (fun r => !mayP r.1 r.2) ∧ Grow w w' := by
  have H := Lib.hid h
  have hni : (n : Int) ≤ 140737488355328 := by omega
  clear h hn
  go_enter Try.func82, Try.ntmps82
  go_wp2_with fail
  go_loopw [5, 8] (fun _ vi wr => ∃ i : Nat, i ≤ n ∧ vi = .int .i64 i ∧ Hid (∀ r ∈ l.take i, mayP r.1 r.2 = true) ∧ Hid (Grow w wr)) (fun _ vi _ => n - (intOf vi).toNat)
  case atStart => exact ⟨0, Nat.zero_le _, rfl, fun r hr => by simp at hr, Keeps.refl _ _⟩
  case round =>
    obtain ⟨i, hi, rfl, HM, HG⟩ := hrel
    by_cases hin : i < n
    · obtain ⟨b, o, rfl, hc⟩ := H.out.at_ (by omega)
      have hr := hc i hin
      have hlt : i < l.length := by rw [H.out.len]; exact hin
      obtain ⟨s, hs⟩ : ∃ s, s = (l.getD i (0, 0)).1 := ⟨_, rfl⟩
      obtain ⟨t, ht⟩ : ∃ t, t = (l.getD i (0, 0)).2 := ⟨_, rfl⟩
      have hli : l[i]? = some (s, t) := by rw [hs, ht, List.getD_eq_getElem?_getD, List.getElem?_eq_getElem hlt]; rfl
      rw [← hs, ← ht] at hr
      have c1 := ckp hr.1 HG.out (fun h => h)
      have c2 := ckp hr.2 HG.out (fun h => h)
      have HLI := Lib.hid hli
      have hin' : (i : Int) < (n : Int) := by omega
      clear hc hr hlt hs ht hli
      go_wp2_with fail
      refine (xnot_is wr s t).mono ?_
      rintro x w2 ⟨rfl, hg2⟩
      have HG2 : Hid (Grow w w2) := Grow.trans _ _ _ HG.out hg2
      clear hg2
      obtain ⟨m, hm⟩ : ∃ m, m = mayP s t := ⟨_, rfl⟩
      rw [← hm]
      have HMM := Lib.hid hm
      clear hm
      cases m
      · go_wp2_with fail
        go_ret
        refine ⟨_, rfl, ?_, HG2.out⟩
        have h1 : l.any (fun r => !mayP r.1 r.2) = true := List.any_eq_true.2 ⟨(s, t), List.mem_of_getElem? HLI.out, by show (!mayP s t) = true; rw [← HMM.out]; rfl⟩
        rw [h1]
        exact decide_eq_true (by omega)
      · go_wp2_with fail
        go_roundw
        case rel =>
          refine ⟨i + 1, by omega, by go_num, fun r hr => ?_, HG2.out⟩
          rw [List.take_add_one, HLI.out] at hr
          rcases List.mem_append.1 hr with hr | hr
          · exact HM.out r hr
          · simp at hr
            rw [hr]; exact HMM.out.symm
        case measure => simp [intOf]; omega
    · obtain rfl : i = n := by omega
      go_wp2_with fail
      go_ret
      refine ⟨_, rfl, ?_, HG.out⟩
      have h1 : l.any (fun r => !mayP r.1 r.2) = false := by
        rw [List.any_eq_false]
        intro r hr
        have h2 := HM.out r (by rw [List.take_of_length_le (by rw [H.out.len]; exact Nat.le_refl _)]; exact hr)
        rw [h2]; decide
      rw [h1]
      rfl
theorem contains_is (w : World) (A : Option Addr) (n c : Nat) (l : List (Int × Int)) (h : Recs w A n c l) (hn : n ≤ 140737488355328) :
    Calls Try.prog 57 #[.slice A n c, .func (.func 58) #[] #[]] w fun e w' => e = .returned (.bool (l.any (fun r => !mayP r.1 r.2))) ∧ Grow w w' := by
  have H := Lib.hid (idxFunc_is w A n c l h hn)
  clear h hn
  go_enter Try.func57, Try.ntmps57
  go_wp2_with fail
  refine H.out.mono ?_
  rintro x w1 ⟨k, rfl, hk, hg⟩
  have HK := Lib.hid hk
  have HG := Lib.hid hg
  clear hk hg H
  go_wp2_with fail
  go_ret
  exact ⟨by rw [← HK.out]; rfl, HG.out⟩
end Go.Proofs.Ytoeapobpdfidkaa
