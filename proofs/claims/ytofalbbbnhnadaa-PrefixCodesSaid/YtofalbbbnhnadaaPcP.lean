/- Canonical codes: what their words are. -/
import Derived.Test.YtofalbbbnhnadaaPfP
namespace Go.Proofs.Ytofalbbbnhnadaa
set_option linter.unusedVariables false

/-- How many of the first k have the length l. -/
def rk (ls : List Nat) (l : Nat) : Nat → Nat
  | 0 => 0
  | k + 1 => rk ls l k + if ls.getD k 0 = l then 1 else 0
/-- .. and which. -/
def idx (ls : List Nat) (l : Nat) : Nat → List Nat
  | 0 => []
  | k + 1 => idx ls l k ++ if ls.getD k 0 = l then [k] else []
theorem idx_len (ls : List Nat) (l : Nat) : ∀ k, (idx ls l k).length = rk ls l k
  | 0 => rfl
  | k + 1 => by
    unfold idx rk
    rw [List.length_append, idx_len ls l k]
    split <;> rfl
theorem rk_mono (ls : List Nat) (l : Nat) {a b : Nat} (h : a ≤ b) : rk ls l a ≤ rk ls l b := by
  induction b with
  | zero => obtain rfl : a = 0 := by omega
            exact Nat.le_refl _
  | succ b ih =>
    by_cases hb : a = b + 1
    · rw [hb]; exact Nat.le_refl _
    · exact Nat.le_trans (ih (by omega)) (Nat.le_add_right _ _)
theorem rk_lt (ls : List Nat) (l : Nat) {s k : Nat} (h : s < k) (hs : ls.getD s 0 = l) : rk ls l s < rk ls l k := by
  have h1 : rk ls l (s + 1) = rk ls l s + 1 := by unfold rk; rw [if_pos hs]; cases s <;> rfl
  have h2 := rk_mono ls l (show s + 1 ≤ k from h)
  omega
theorem rk_le (ls : List Nat) (l : Nat) : ∀ k, rk ls l k ≤ k
  | 0 => Nat.le_refl _
  | k + 1 => by
    have := rk_le ls l k
    unfold rk
    split <;> omega
theorem idx_get (ls : List Nat) (l : Nat) : ∀ (k s : Nat), s < k → ls.getD s 0 = l → (idx ls l k)[rk ls l s]? = some s
  | k + 1, s, h, hs => by
    unfold idx
    by_cases hk : s = k
    · subst hk
      rw [if_pos hs, List.getElem?_append_right (by rw [idx_len]; exact Nat.le_refl _), idx_len, Nat.sub_self]
      rfl
    · rw [List.getElem?_append_left (by rw [idx_len]; exact rk_lt ls l (by omega) hs)]
      exact idx_get ls l k s (by omega) hs
/-- All that idx names are of that length. -/
theorem idx_mem (ls : List Nat) (l : Nat) : ∀ (k s : Nat), s ∈ idx ls l k → s < k ∧ ls.getD s 0 = l
  | 0, s, h => by cases h
  | k + 1, s, h => by
    unfold idx at h
    rcases List.mem_append.1 h with h | h
    · obtain ⟨a, b⟩ := idx_mem ls l k s h
      exact ⟨by omega, b⟩
    · split at h
      · rename_i hc
        obtain rfl := List.mem_singleton.1 h
        exact ⟨by omega, hc⟩
      · cases h
theorem inK_next (ls : List Nat) (l : Nat) (st : Cn) (h : st.next + rk ls l ls.length < 4294967296) : ∀ k, k ≤ ls.length → (inK ls l k st).next = st.next + rk ls l k
  | 0, _ => rfl
  | k + 1, hk => by
    have h1 := inK_next ls l st h k (by omega)
    have h2 := rk_mono ls l hk
    show (stp l (inK ls l k st) k (ls.getD k 0)).next = st.next + (rk ls l k + if ls.getD k 0 = l then 1 else 0)
    have h3 : rk ls l (k + 1) = rk ls l k + if ls.getD k 0 = l then 1 else 0 := rfl
    unfold stp
    by_cases hc : ls.getD k 0 = l
    · rw [if_pos hc] at h3 ⊢
      rw [if_pos hc]
      simp only
      rw [h1]
      omega
    · rw [if_neg hc, if_neg hc, h1]
      rfl
theorem inK_srt (ls : List Nat) (l : Nat) (st : Cn) : ∀ k, (inK ls l k st).srt = st.srt ++ idx ls l k
  | 0 => by simp [inK, idx]
  | k + 1 => by
    show (stp l (inK ls l k st) k (ls.getD k 0)).srt = st.srt ++ (idx ls l k ++ if ls.getD k 0 = l then [k] else [])
    unfold stp
    by_cases hc : ls.getD k 0 = l
    · rw [if_pos hc, if_pos hc]
      simp only
      rw [inK_srt ls l st k, List.append_assoc]
    · rw [if_neg hc, if_neg hc, inK_srt ls l st k, List.append_nil]
theorem inK_ws (ls : List Nat) (l : Nat) (st : Cn) (h : st.next + rk ls l ls.length < 4294967296) (hw : st.ws.length = ls.length) : ∀ k, k ≤ ls.length → ∀ s, s < ls.length → (inK ls l k st).ws[s]? = if s < k ∧ ls.getD s 0 = l then some (st.next + rk ls l s, l) else st.ws[s]?
  | 0, _, s, _ => by rw [if_neg (by omega)]; rfl
  | k + 1, hk, s, hs => by
    have h1 := inK_ws ls l st h hw k (by omega) s hs
    have h2 := inK_next ls l st h k (by omega)
    have h3 := (inK_facts ls l st k).1
    show (stp l (inK ls l k st) k (ls.getD k 0)).ws[s]? = _
    unfold stp
    by_cases hc : ls.getD k 0 = l
    · rw [if_pos hc]
      simp only
      by_cases hsk : s = k
      · subst hsk
        rw [List.getElem?_set_self (by omega), if_pos ⟨by omega, hc⟩, h2]
      · rw [List.getElem?_set_ne (fun h => hsk h.symm), h1]
        by_cases h4 : s < k ∧ ls.getD s 0 = l
        · rw [if_pos h4, if_pos ⟨by omega, h4.2⟩]
        · rw [if_neg h4, if_neg (fun h5 => h4 ⟨by omega, h5.2⟩)]
    · rw [if_neg hc, h1]
      by_cases h4 : s < k ∧ ls.getD s 0 = l
      · rw [if_pos h4, if_pos ⟨by omega, h4.2⟩]
      · rw [if_neg h4, if_neg (fun h5 => h4 ⟨by rcases (show s < k ∨ s = k by omega) with h6 | h6; exact h6; rw [h6] at h5; exact absurd h5.2 hc, h5.2⟩)]
/-- What the words to the length l take. -/
def kq (l x : Nat) : Nat := if 0 < x ∧ x ≤ l then 2 ^ (20 - x) else 0
def kpk (ls : List Nat) (l : Nat) : Nat → Nat
  | 0 => 0
  | k + 1 => kpk ls l k + kq l (ls.getD k 0)
theorem kpk_le (ls : List Nat) (l : Nat) : ∀ k, k ≤ ls.length → kpk ls l k ≤ sumK (ls.take k)
  | 0, _ => by simp [kpk]
  | k + 1, hk => by
    have h1 := kpk_le ls l k (by omega)
    rw [List.take_add_one, show ls[k]?.toList = [ls.getD k 0] by simp [List.getD_eq_getElem?_getD, show k < ls.length by omega], sumK_snoc]
    show kpk ls l k + kq l (ls.getD k 0) ≤ _
    have h2 : kq l (ls.getD k 0) ≤ kr (ls.getD k 0) := by
      unfold kq kr
      by_cases h3 : 0 < ls.getD k 0 ∧ ls.getD k 0 ≤ l
      · rw [if_pos h3, if_pos h3.1]; exact Nat.le_refl _
      · rw [if_neg h3]; exact Nat.zero_le _
    omega
theorem kpk_zero (ls : List Nat) : ∀ k, kpk ls 0 k = 0
  | 0 => rfl
  | k + 1 => by
    show kpk ls 0 k + kq 0 (ls.getD k 0) = 0
    rw [kpk_zero ls k, kq, if_neg (by omega)]
theorem kpk_succ (ls : List Nat) (l : Nat) : ∀ k, kpk ls (l + 1) k = kpk ls l k + rk ls (l + 1) k * 2 ^ (20 - (l + 1))
  | 0 => by simp [kpk, rk]
  | k + 1 => by
    have h1 := kpk_succ ls l k
    show kpk ls (l + 1) k + kq (l + 1) (ls.getD k 0) = kpk ls l k + kq l (ls.getD k 0) + (rk ls (l + 1) k + if ls.getD k 0 = l + 1 then 1 else 0) * 2 ^ (20 - (l + 1))
    rw [h1, Nat.add_mul]
    have h2 : kq (l + 1) (ls.getD k 0) = kq l (ls.getD k 0) + (if ls.getD k 0 = l + 1 then 1 else 0) * 2 ^ (20 - (l + 1)) := by
      unfold kq
      generalize ls.getD k 0 = x
      by_cases hx : x = l + 1
      · subst hx
        rw [if_pos (by omega), if_neg (by omega), if_pos rfl]
        omega
      · rw [if_neg hx]
        by_cases h3 : 0 < x ∧ x ≤ l
        · rw [if_pos h3, if_pos (by omega)]; omega
        · rw [if_neg h3, if_neg (by omega)]; omega
    omega
/-- The next word behind those of the length l; the first of the length l. -/
def Nn (ls : List Nat) (l : Nat) : Nat := (outK ls l).next
def Ff (ls : List Nat) (l : Nat) : Nat := (outK ls (l - 1)).up.next
def Cc (ls : List Nat) (l : Nat) : Nat := rk ls l ls.length
structure Kraft (ls : List Nat) : Prop where
  sum : sumK ls ≤ 1048576
theorem pow_split (l : Nat) (h : l < 20) : 2 ^ (20 - l) = 2 * 2 ^ (20 - (l + 1)) := by
  rw [show 20 - l = (20 - (l + 1)) + 1 by omega, Nat.pow_succ, Nat.mul_comm]
theorem Nn_kraft {ls : List Nat} (h : Kraft ls) : ∀ l, l ≤ 20 → Nn ls l * 2 ^ (20 - l) = kpk ls l ls.length ∧ (∀ j, j + 1 ≤ l → Ff ls (j + 1) = 2 * Nn ls j ∧ Nn ls (j + 1) = Ff ls (j + 1) + Cc ls (j + 1))
  | 0, _ => ⟨by rw [kpk_zero]; show (0 : Nat) * _ = 0; simp, fun j hj => by omega⟩
  | l + 1, hl => by
    obtain ⟨h1, h2⟩ := Nn_kraft h l (by omega)
    have h3 := kpk_le ls (l + 1) ls.length (Nat.le_refl _)
    rw [List.take_length] at h3
    have h4 := kpk_succ ls l ls.length
    have h5 := h.sum
    have hp := Nat.two_pow_pos (20 - (l + 1))
    have h6 := pow_split l (by omega)
    -- twice the numbers so far, and those of the new length
    have h7 : (2 * Nn ls l + Cc ls (l + 1)) * 2 ^ (20 - (l + 1)) = kpk ls (l + 1) ls.length := by
      rw [h4, ← h1, h6, Nat.add_mul]
      show 2 * Nn ls l * 2 ^ (20 - (l + 1)) + rk ls (l + 1) ls.length * _ = _
      rw [← Nat.mul_assoc, Nat.mul_comm (Nn ls l) 2]
    have h8 : 2 * Nn ls l + Cc ls (l + 1) ≤ 1048576 := by
      have : 2 * Nn ls l + Cc ls (l + 1) ≤ (2 * Nn ls l + Cc ls (l + 1)) * 2 ^ (20 - (l + 1)) := Nat.le_mul_of_pos_right _ hp
      omega
    have hF : Ff ls (l + 1) = 2 * Nn ls l := by
      show (outK ls l).next * 2 % 4294967296 = 2 * (outK ls l).next
      have h9 : 2 * Nn ls l ≤ 1048576 := by omega
      have h10 : 2 * (outK ls l).next ≤ 1048576 := h9
      omega
    have hN : Nn ls (l + 1) = Ff ls (l + 1) + Cc ls (l + 1) := by
      show (inK ls (l + 1) ls.length (outK ls l).up).next = _
      rw [inK_next ls (l + 1) (outK ls l).up (by
        show Ff ls (l + 1) + Cc ls (l + 1) < 4294967296
        omega) ls.length (Nat.le_refl _)]
      rfl
    refine ⟨by rw [hN, hF]; exact h7, fun j hj => ?_⟩
    by_cases hjl : j = l
    · subst hjl; exact ⟨hF, hN⟩
    · exact h2 j (by omega)
theorem Nn_le {ls : List Nat} (h : Kraft ls) (l : Nat) (hl : l ≤ 20) : Nn ls l ≤ 2 ^ l := by
  obtain ⟨h1, _⟩ := Nn_kraft h l hl
  have h3 := kpk_le ls l ls.length (Nat.le_refl _)
  rw [List.take_length] at h3
  have h5 := h.sum
  have h6 : Nn ls l * 2 ^ (20 - l) ≤ 2 ^ l * 2 ^ (20 - l) := by
    rw [← Nat.pow_add, show l + (20 - l) = 20 by omega]
    omega
  exact Nat.le_of_mul_le_mul_right h6 (Nat.two_pow_pos _)
theorem Ff_eq {ls : List Nat} (h : Kraft ls) (l : Nat) (h1 : 1 ≤ l) (hl : l ≤ 20) : Ff ls l = 2 * Nn ls (l - 1) ∧ Nn ls l = Ff ls l + Cc ls l := by
  obtain ⟨_, h2⟩ := Nn_kraft h l hl
  have := h2 (l - 1) (by omega)
  rw [show l - 1 + 1 = l by omega] at this
  exact this
/-- Words of a greater length begin behind the shorter ones. -/
theorem Ff_ge {ls : List Nat} (h : Kraft ls) (l : Nat) (h1 : 1 ≤ l) : ∀ d, l + (d + 1) ≤ 20 → Nn ls l * 2 ^ (d + 1) ≤ Ff ls (l + (d + 1))
  | 0, hd => by
    obtain ⟨a, _⟩ := Ff_eq h (l + 1) (by omega) hd
    rw [show l + 1 - 1 = l by omega] at a
    show Nn ls l * 2 ^ 1 ≤ Ff ls (l + 1)
    rw [a]; omega
  | d + 1, hd => by
    have h2 := Ff_ge h l h1 d (by omega)
    obtain ⟨a, _⟩ := Ff_eq h (l + (d + 1 + 1)) (by omega) hd
    obtain ⟨_, b⟩ := Ff_eq h (l + (d + 1)) (by omega) (by omega)
    rw [show l + (d + 1 + 1) - 1 = l + (d + 1) by omega] at a
    rw [a, Nat.pow_succ, ← Nat.mul_assoc]
    omega
theorem Ff_gt {ls : List Nat} (h : Kraft ls) {l n : Nat} (h1 : 1 ≤ l) (hln : l < n) (hn : n ≤ 20) : Nn ls l * 2 ^ (n - l) ≤ Ff ls n := by
  have := Ff_ge h l h1 (n - l - 1) (by omega)
  rw [show n - l - 1 + 1 = n - l by omega, show l + (n - l) = n by omega] at this
  exact this
/-- The words. -/
theorem outK_word {ls : List Nat} (h : Kraft ls) : ∀ l, l ≤ 20 → ∀ s, s < ls.length → (outK ls l).ws[s]? = some (if 0 < ls.getD s 0 ∧ ls.getD s 0 ≤ l then (Ff ls (ls.getD s 0) + rk ls (ls.getD s 0) s, ls.getD s 0) else (0, 0))
  | 0, _, s, hs => by
    rw [if_neg (by omega)]
    show (List.replicate ls.length (0, 0))[s]? = _
    simp [hs]
  | l + 1, hl, s, hs => by
    have h1 := outK_word h l (by omega) s hs
    obtain ⟨hF, hN⟩ := Ff_eq h (l + 1) (by omega) hl
    have hb := Nn_le h (l + 1) hl
    have hp : 2 ^ (l + 1) ≤ 2 ^ 20 := Nat.pow_le_pow_right (by omega) hl
    have h2 := inK_ws ls (l + 1) (outK ls l).up (by
      show Ff ls (l + 1) + Cc ls (l + 1) < 4294967296
      omega) (outK_facts ls l).1 ls.length (Nat.le_refl _) s hs
    show (inK ls (l + 1) ls.length (outK ls l).up).ws[s]? = _
    rw [h2]
    by_cases hc : ls.getD s 0 = l + 1
    · rw [if_pos ⟨hs, hc⟩, if_pos ⟨by omega, by omega⟩, hc]
      rfl
    · rw [if_neg (fun h9 => hc h9.2)]
      show (outK ls l).ws[s]? = _
      rw [h1]
      by_cases h3 : 0 < ls.getD s 0 ∧ ls.getD s 0 ≤ l
      · rw [if_pos h3, if_pos (by omega)]
      · rw [if_neg h3, if_neg (by omega)]
/-- The symbols by length. -/
def Pp (ls : List Nat) (l : Nat) : Nat := (outK ls (l - 1)).srt.length
theorem outK_srt (ls : List Nat) (l : Nat) : (outK ls (l + 1)).srt = (outK ls l).srt ++ idx ls (l + 1) ls.length := inK_srt ls (l + 1) (outK ls l).up ls.length
theorem srt_get (ls : List Nat) {n M : Nat} (h1 : 1 ≤ n) (hn : n ≤ M) {j : Nat} {s : Nat} (hs : (idx ls n ls.length)[j]? = some s) : (outK ls M).srt[Pp ls n + j]? = some s := by
  induction M with
  | zero => omega
  | succ M ih =>
    rw [outK_srt]
    by_cases hM : n = M + 1
    · subst hM
      have hp : Pp ls (M + 1) = (outK ls M).srt.length := rfl
      rw [hp, List.getElem?_append_right (Nat.le_add_right _ _), Nat.add_sub_cancel_left]
      exact hs
    · have := ih (by omega)
      rw [List.getElem?_append_left]
      · exact this
      · by_cases h9 : Pp ls n + j < (outK ls M).srt.length
        · exact h9
        · rw [List.getElem?_eq_none (by omega)] at this
          cases this
theorem sym_get (ls : List Nat) {M s : Nat} (hs : s < ls.length) (h0 : 0 < ls.getD s 0) (hM : ls.getD s 0 ≤ M) : (outK ls M).srt[Pp ls (ls.getD s 0) + rk ls (ls.getD s 0) s]? = some s :=
  srt_get ls h0 hM (idx_get ls _ ls.length s hs rfl)
/-- A word's number, its length. -/
def wordN (ls : List Nat) (s : Nat) : Nat := Ff ls (ls.getD s 0) + rk ls (ls.getD s 0) s
theorem wordN_lt {ls : List Nat} (h : Kraft ls) {s : Nat} (hs : s < ls.length) (h0 : 0 < ls.getD s 0) (h20 : ls.getD s 0 ≤ 20) : wordN ls s < Nn ls (ls.getD s 0) ∧ wordN ls s < 2 ^ ls.getD s 0 ∧ rk ls (ls.getD s 0) s < Cc ls (ls.getD s 0) := by
  have h1 := rk_lt ls (ls.getD s 0) hs rfl
  obtain ⟨_, h2⟩ := Ff_eq h (ls.getD s 0) h0 h20
  have h3 := Nn_le h (ls.getD s 0) h20
  unfold wordN
  unfold Cc at *
  omega
/-- A word's beginning lies behind the words of that length. -/
theorem word_pre {ls : List Nat} (h : Kraft ls) {s l : Nat} (hs : s < ls.length) (h20 : ls.getD s 0 ≤ 20) (h1 : 1 ≤ l) (hl : l < ls.getD s 0) : Nn ls l ≤ wordN ls s / 2 ^ (ls.getD s 0 - l) := by
  have h2 := Ff_gt h h1 hl h20
  rw [Nat.le_div_iff_mul_le (Nat.two_pow_pos _)]
  unfold wordN
  omega
/-- No word is the beginning of another one. -/
theorem prefix_free {ls : List Nat} (h : Kraft ls) {i k : Nat} (hi : i < ls.length) (hk : k < ls.length) (hi0 : 0 < ls.getD i 0) (hk0 : 0 < ls.getD k 0) (hi20 : ls.getD i 0 ≤ 20) (hk20 : ls.getD k 0 ≤ 20)
    (hle : ls.getD i 0 ≤ ls.getD k 0) (heq : wordN ls k / 2 ^ (ls.getD k 0 - ls.getD i 0) = wordN ls i) : i = k := by
  obtain ⟨a1, a2, a3⟩ := wordN_lt h hi hi0 hi20
  by_cases hlt : ls.getD i 0 < ls.getD k 0
  · have := word_pre h hk hk20 hi0 hlt
    omega
  · have he : ls.getD i 0 = ls.getD k 0 := by omega
    rw [← he, Nat.sub_self, Nat.pow_zero, Nat.div_one] at heq
    unfold wordN at heq
    rw [← he] at heq
    have hr : rk ls (ls.getD i 0) k = rk ls (ls.getD i 0) i := by omega
    rcases Nat.lt_trichotomy i k with h9 | h9 | h9
    · have := rk_lt ls (ls.getD i 0) h9 rfl
      omega
    · exact h9
    · have := rk_lt ls (ls.getD i 0) h9 he.symm
      omega
theorem fullK_kraft {ls : List Nat} {loose : Bool} (h : fullK ls loose = true) : Kraft ls := by
  constructor
  unfold fullK at h
  simp only [Bool.or_eq_true, Bool.and_eq_true, decide_eq_true_eq] at h
  rcases h with h | ⟨_, h | ⟨_, h⟩⟩
  · omega
  · have := (k_zero ls h).1; omega
  · omega
end Go.Proofs.Ytofalbbbnhnadaa
