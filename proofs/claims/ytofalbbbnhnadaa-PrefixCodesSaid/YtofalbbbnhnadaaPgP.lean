/- Prefix: the document's search for a word tells what the code's Get tells: plain. -/
import Derived.Test.YtofalbbbnhnadaaPcI
namespace Go.Proofs.Ytofalbbbnhnadaa
open Go.RowKit
set_option linter.unusedVariables false
set_option linter.unusedSimpArgs false

theorem idx_rk (ls : List Nat) (l : Nat) : ∀ (k j s : Nat), (idx ls l k)[j]? = some s → rk ls l s = j
  | 0, j, s, h => by simp [idx] at h
  | k + 1, j, s, h => by
    have hl := idx_len ls l k
    unfold idx at h
    by_cases hk : ls.getD k 0 = l
    · rw [if_pos hk] at h
      by_cases hj : j < (idx ls l k).length
      · rw [List.getElem?_append_left hj] at h
        exact idx_rk ls l k j s h
      · rw [List.getElem?_append_right (by omega)] at h
        have hj0 : j - (idx ls l k).length = 0 := by
          rcases Nat.eq_zero_or_pos (j - (idx ls l k).length) with h9 | h9
          · exact h9
          · rw [List.getElem?_eq_none (by simp; omega)] at h; cases h
        rw [hj0] at h
        injection h with h
        subst h
        omega
    · rw [if_neg hk, List.append_nil] at h
      exact idx_rk ls l k j s h
/-- A word that stands here. -/
def hitI (n v : Nat) (p : Nat × Nat) : Prop := 0 < n ∧ p.2 = n ∧ p.1 = v
/-- A word that begins so. -/
def begI (n v : Nat) (p : Nat × Nat) : Prop := n < p.2 ∧ p.1 / 2 ^ (p.2 - n) = v
/-- What the document's Get finds at each length. -/
structure RoadG (ws : List (Nat × Nat)) (v : Nat → Nat) (len s er t : Nat) : Prop where
  hit : ∀ (n i : Nat) (p : Nat × Nat), n ≤ t → ws[i]? = some p → hitI n (v n) p → s = i ∧ er = 0 ∧ t = n
  form : ∀ n : Nat, n ≤ t → 0 < n → (∀ (i : Nat) (p : Nat × Nat), ws[i]? = some p → ¬ hitI n (v n) p) → (∀ (i : Nat) (p : Nat × Nat), ws[i]? = some p → ¬ begI n (v n) p) → s = 0 ∧ er = 11 ∧ t = n
  stop : ∀ n : Nat, n ≤ t → n = len → (∀ (i : Nat) (p : Nat × Nat), ws[i]? = some p → ¬ hitI n (v n) p) → (n = 0 ∨ ∃ (i : Nat) (p : Nat × Nat), ws[i]? = some p ∧ begI n (v n) p) → s = 0 ∧ er = 10 ∧ t = n
  next : ∀ n : Nat, n ≤ t → n ≠ len → (∀ (i : Nat) (p : Nat × Nat), ws[i]? = some p → ¬ hitI n (v n) p) → (n = 0 ∨ ∃ (i : Nat) (p : Nat × Nat), ws[i]? = some p ∧ begI n (v n) p) → n + 1 ≤ t
  tlen : t ≤ len
  t20 : t ≤ 20
  small : ∀ (i : Nat) (p : Nat × Nat), ws[i]? = some p → p.1 < 1048576 ∧ p.2 ≤ 20
theorem wordsOf {w : World} {g m M B : Nat} {ls : List Nat} (h : CodeX w g m M B ls) {i : Nat} {p : Nat × Nat} (hp : (outK ls M).ws[i]? = some p) : i < m ∧ p = if 0 < ls.getD i 0 then (wordN ls i, ls.getD i 0) else (0, 0) := by
  have hl : (outK ls M).ws.length = m := by rw [(outK_facts ls M).1, h.len]
  have hi : i < m := by
    rcases Nat.lt_or_ge i m with h9 | h9
    · exact h9
    · rw [List.getElem?_eq_none (by omega)] at hp; cases hp
  have h1 := h.word i hi
  rw [hp] at h1
  injection h1 with h1
  exact ⟨hi, h1⟩
theorem hit_iff {w : World} {g m M B : Nat} {ls : List Nat} (h : CodeX w g m M B ls) (n v : Nat) : (∀ (i : Nat) (p : Nat × Nat), (outK ls M).ws[i]? = some p → hitI n v p → 0 < n ∧ hitK ls v n ∧ (idx ls n ls.length)[v - Ff ls n]? = some i) ∧ (0 < n → hitK ls v n → ∃ (i : Nat) (p : Nat × Nat), (outK ls M).ws[i]? = some p ∧ hitI n v p) := by
  refine ⟨fun i p hp hh => ?_, fun h0 hh => ?_⟩
  · obtain ⟨hi, rfl⟩ := wordsOf h hp
    obtain ⟨h1, h2, h3⟩ := hh
    by_cases hl : 0 < ls.getD i 0
    · rw [if_pos hl] at h2 h3
      simp only at h2 h3
      obtain ⟨q1, q2, q3⟩ := wordN_lt h.kraft (by rw [h.len]; exact hi) hl (by have := h.all i; have := h.most; omega)
      have hW : wordN ls i = Ff ls n + rk ls n i := by unfold wordN; rw [h2]
      rw [h2] at q3
      refine ⟨h1, ⟨by omega, by omega⟩, ?_⟩
      rw [← h3, hW, Nat.add_sub_cancel_left]
      exact idx_get ls n ls.length i (by rw [h.len]; exact hi) h2
    · rw [if_neg hl] at h2
      simp only at h2
      omega
  · obtain ⟨h1, h2⟩ := hh
    have hlt : v - Ff ls n < (idx ls n ls.length).length := by rw [idx_len]; unfold Cc at h2; omega
    obtain ⟨s, hs⟩ : ∃ s, (idx ls n ls.length)[v - Ff ls n]? = some s := ⟨_, List.getElem?_eq_getElem hlt⟩
    obtain ⟨a1, a2⟩ := idx_mem ls n ls.length s (List.mem_of_getElem? hs)
    have a3 := idx_rk ls n ls.length _ s hs
    refine ⟨s, _, h.word s (by rw [← h.len]; exact a1), ?_⟩
    rw [if_pos (by omega)]
    refine ⟨h0, a2, ?_⟩
    show wordN ls s = v
    unfold wordN
    rw [a2, a3]
    omega
theorem beg_iff {w : World} {g m M B : Nat} {ls : List Nat} (h : CodeX w g m M B ls) (n v : Nat) : (∃ (i : Nat) (p : Nat × Nat), (outK ls M).ws[i]? = some p ∧ begI n v p) ↔ ∃ k, n < k ∧ k ≤ M ∧ liveK ls v n k := by
  constructor
  · rintro ⟨i, p, hp, h1, h2⟩
    obtain ⟨hi, rfl⟩ := wordsOf h hp
    by_cases hl : 0 < ls.getD i 0
    · rw [if_pos hl] at h1 h2
      simp only at h1 h2
      obtain ⟨q1, q2, q3⟩ := wordN_lt h.kraft (by rw [h.len]; exact hi) hl (by have := h.all i; have := h.most; omega)
      have hW : wordN ls i = Ff ls (ls.getD i 0) + rk ls (ls.getD i 0) i := rfl
      refine ⟨ls.getD i 0, h1, h.all i, by omega, ?_, ?_⟩
      · rw [← h2]; exact Nat.div_le_div_right (by omega)
      · rw [← h2]; exact Nat.div_le_div_right (by omega)
    · rw [if_neg hl] at h1
      simp only at h1
      omega
  · rintro ⟨k, h1, h2, h3, h4, h5⟩
    obtain ⟨x, hx1, hx2, hx3⟩ : ∃ x, Ff ls k ≤ x ∧ x < Ff ls k + Cc ls k ∧ x / 2 ^ (k - n) = v := by
      have hp : 0 < 2 ^ (k - n) := Nat.pow_pos (by decide)
      by_cases he : Ff ls k / 2 ^ (k - n) = v
      · exact ⟨Ff ls k, Nat.le_refl _, by omega, he⟩
      · refine ⟨v * 2 ^ (k - n), ?_, ?_, Nat.mul_div_cancel _ hp⟩
        · have := (Nat.div_lt_iff_lt_mul hp).1 (show Ff ls k / 2 ^ (k - n) < v by omega)
          omega
        · have := (Nat.le_div_iff_mul_le hp).1 h5
          omega
    obtain ⟨i, p, e1, e2, e3, e4⟩ := (hit_iff h k x).2 (by omega) ⟨hx1, hx2⟩
    refine ⟨i, p, e1, ?_, ?_⟩
    · rw [e3]; exact h1
    · rw [e3, e4]; exact hx3
theorem GetPost.road {w0 : World} {g m M B : Nat} {ls : List Nat} (h : CodeX w0 g m M B ls) {w w' : World} {gr mr cr at0 : Nat} {hi : Bool} {Ar : Option Addr} {xs : List Int} {e : Ending} (hat : at0 ≤ 8 * mr) (hp : GetPost ls M w gr mr cr at0 hi Ar xs e w') :
    ∃ s er t : Nat, e = .returned (.tuple #[.int .i64 s, .int .i64 er]) ∧ RoadG (outK ls M).ws (vN hi xs at0) (8 * mr - at0) s er t ∧ at0 + t ≤ 8 * mr ∧ Rr w' gr hi Ar mr cr xs (at0 + t) ∧ Keeps (fun k => k = gr) w w' := by
  obtain ⟨s, er, l, he, hl1, hlM, hop, hkp, hcase⟩ := hp
  have hM := h.most
  have hno : ∀ n, 0 < n → n < l → ∀ (i : Nat) (p : Nat × Nat), (outK ls M).ws[i]? = some p → ¬ hitI n (vN hi xs at0 n) p := fun n h0 hn i p hp hh => (hop n h0 hn).1 ((hit_iff h n _).1 i p hp hh).2.1
  have hbg : ∀ n, 0 < n → n < l → ∃ (i : Nat) (p : Nat × Nat), (outK ls M).ws[i]? = some p ∧ begI n (vN hi xs at0 n) p := fun n h0 hn => (beg_iff h n _).2 (hop n h0 hn).2
  have hsm : ∀ (i : Nat) (p : Nat × Nat), (outK ls M).ws[i]? = some p → p.1 < 1048576 ∧ p.2 ≤ 20 := fun i p hp => by
    obtain ⟨hi, rfl⟩ := wordsOf h hp
    by_cases hl : 0 < ls.getD i 0
    · rw [if_pos hl]
      have ha := h.all i
      obtain ⟨q1, q2, q3⟩ := wordN_lt h.kraft (by rw [h.len]; exact hi) hl (by omega)
      have hpw : 2 ^ ls.getD i 0 ≤ 2 ^ 20 := Nat.pow_le_pow_right (by omega) (by omega)
      exact ⟨by show wordN ls i < _; omega, by show ls.getD i 0 ≤ 20; omega⟩
    · rw [if_neg hl]
      exact ⟨by decide, by decide⟩
  rcases hcase with ⟨rfl, rfl, h1, h2⟩ | ⟨h1, h2, ⟨rfl, h3, h4⟩ | ⟨rfl, rfl, h3, h4⟩⟩
  · refine ⟨0, 10, l - 1, he, ⟨?_, ?_, ?_, ?_, by omega, by omega, hsm⟩, by omega, by rw [h1]; exact h2, hkp⟩
    · intro n i p hn hp hh
      exact absurd hh (hno n hh.1 (by omega) i p hp)
    · intro n hn h0 h8 h9
      obtain ⟨i, p, e1, e2⟩ := hbg n h0 (by omega)
      exact absurd e2 (h9 i p e1)
    · intro n hn hl _ _
      exact ⟨rfl, rfl, by omega⟩
    · intro n hn hl _ _
      omega
  · refine ⟨s, 0, l, he, ⟨?_, ?_, ?_, ?_, by omega, by omega, hsm⟩, h1, h2, hkp⟩
    · intro n i p hn hp hh
      by_cases hl : n = l
      · subst hl
        have h9 := ((hit_iff h n _).1 i p hp hh).2.2
        rw [h4] at h9
        injection h9 with h9
        exact ⟨h9, rfl, rfl⟩
      · exact absurd hh (hno n hh.1 (by omega) i p hp)
    · intro n hn h0 h8 h9
      by_cases hl : n = l
      · subst hl
        obtain ⟨i, p, e1, e2⟩ := (hit_iff h n _).2 h0 h3
        exact absurd e2 (h8 i p e1)
      · obtain ⟨i, p, e1, e2⟩ := hbg n h0 (by omega)
        exact absurd e2 (h9 i p e1)
    · intro n hn hl h8 _
      obtain rfl : n = l := by omega
      obtain ⟨i, p, e1, e2⟩ := (hit_iff h n _).2 hl1 h3
      exact absurd e2 (h8 i p e1)
    · intro n hn hl h8 _
      rcases Nat.lt_or_eq_of_le hn with h9 | rfl
      · exact h9
      · obtain ⟨i, p, e1, e2⟩ := (hit_iff h n _).2 hl1 h3
        exact absurd e2 (h8 i p e1)
  · refine ⟨0, 11, l, he, ⟨?_, ?_, ?_, ?_, by omega, by omega, hsm⟩, h1, h2, hkp⟩
    · intro n i p hn hp hh
      by_cases hl : n = l
      · subst hl
        exact absurd ((hit_iff h n _).1 i p hp hh).2.1 h3
      · exact absurd hh (hno n hh.1 (by omega) i p hp)
    · intro n hn h0 h8 h9
      by_cases hl : n = l
      · exact ⟨rfl, rfl, hl.symm⟩
      · obtain ⟨i, p, e1, e2⟩ := hbg n h0 (by omega)
        exact absurd e2 (h9 i p e1)
    · intro n hn hl h8 h9
      obtain rfl : n = l := by omega
      rcases h9 with h9 | h9
      · omega
      · obtain ⟨k, k1, k2, k3⟩ := (beg_iff h n _).1 h9
        exact absurd k3 (h4 k k1 k2)
    · intro n hn hl h8 h9
      rcases Nat.lt_or_eq_of_le hn with h7 | rfl
      · exact h7
      · rcases h9 with h9 | h9
        · omega
        · obtain ⟨k, k1, k2, k3⟩ := (beg_iff h n _).1 h9
          exact absurd k3 (h4 k k1 k2)
end Go.Proofs.Ytofalbbbnhnadaa
