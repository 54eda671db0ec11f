/- prefix: what is put is got; plain, and the shapes of the laws. -/
import Derived.Test.YtofalbbbnhnadaaPcH
import Derived.Test.YtofalbbbnhnadaaPfW
namespace Go.Proofs.Ytofalbbbnhnadaa
open Go.RowKit
set_option linter.unusedVariables false
set_option linter.unusedSimpArgs false

theorem vN_word (hi : Bool) (xs : List Int) (a n x : Nat) (hx : x < 2 ^ n) (hb : ∀ j, j < n → bt hi xs (a + j) = x / 2 ^ (n - 1 - j) % 2) : ∀ j, j ≤ n → vN hi xs a j = x / 2 ^ (n - j)
  | 0, _ => by rw [Nat.sub_zero, Nat.div_eq_of_lt hx]; rfl
  | j + 1, hj => by
    have h1 := vN_word hi xs a n x hx hb j (by omega)
    show 2 * vN hi xs a j + bt hi xs (a + j) = _
    rw [h1, hb j (by omega), show n - 1 - j = n - (j + 1) by omega]
    have h2 : 2 ^ (n - j) = 2 ^ (n - (j + 1)) * 2 := by rw [← Nat.pow_succ]; congr 1; omega
    rw [h2, ← Nat.div_div_eq_div_mul]
    omega
/-- A symbol's bits tell it. -/
theorem get_sym {ls : List Nat} (hk : Kraft ls) {M : Nat} (hM : M ≤ 20) {s : Nat} (hs : s < ls.length) (h0 : 0 < ls.getD s 0) (hsM : ls.getD s 0 ≤ M) {w w' : World} {gr mr cr at0 : Nat} {hi : Bool} {Ar : Option Addr} {xs : List Int} {e : Ending}
    (hb : ∀ j, j < ls.getD s 0 → bt hi xs (at0 + j) = wordN ls s / 2 ^ (ls.getD s 0 - 1 - j) % 2) (hroom : at0 + ls.getD s 0 ≤ 8 * mr) (h : GetPost ls M w gr mr cr at0 hi Ar xs e w') :
    e = .returned (.tuple #[.int .i64 (s : Nat), .int .i64 ((0 : Nat) : Int)]) ∧ Rr w' gr hi Ar mr cr xs (at0 + ls.getD s 0) ∧ Keeps (fun k => k = gr) w w' := by
  obtain ⟨q1, q2, q3⟩ := wordN_lt hk hs h0 (by omega)
  have hv := vN_word hi xs at0 (ls.getD s 0) (wordN ls s) q2 hb
  obtain ⟨n, hn⟩ : ∃ n, n = ls.getD s 0 := ⟨_, rfl⟩
  rw [← hn] at h0 hsM hroom hv q1 q2 q3 ⊢
  obtain ⟨s2, er, l, he, hl1, hlM, hop, hkp, hcase⟩ := h
  have hvn : vN hi xs at0 n = wordN ls s := by rw [hv n (Nat.le_refl _), Nat.sub_self, Nat.pow_zero, Nat.div_one]
  have hW : wordN ls s = Ff ls n + rk ls n s := by unfold wordN; rw [← hn]
  have hhit : hitK ls (vN hi xs at0 n) n := by
    unfold hitK
    rw [hvn, hW]
    omega
  have hlive : ∀ j, 1 ≤ j → j < n → liveK ls (vN hi xs at0 j) j n := fun j h1 h2 => by
    unfold liveK
    rw [hv j (by omega), hW]
    refine ⟨by omega, Nat.div_le_div_right (by omega), Nat.div_le_div_right (by omega)⟩
  have hno : ∀ j, 1 ≤ j → j < n → ¬ hitK ls (vN hi xs at0 j) j := fun j h1 h2 h9 => by
    have h3 := word_pre hk hs (by rw [← hn]; omega) h1 (by rw [← hn]; exact h2)
    rw [← hn, ← hv j (by omega)] at h3
    obtain ⟨_, e2⟩ := Ff_eq hk j h1 (by omega)
    unfold hitK at h9
    omega
  have hln : l = n := by
    rcases Nat.lt_trichotomy l n with h9 | h9 | h9
    · exfalso
      rcases hcase with ⟨_, _, h8, _⟩ | ⟨_, _, h8 | h8⟩
      · omega
      · exact hno l hl1 h9 h8.2.1
      · exact h8.2.2.2 n h9 hsM (hlive l hl1 h9)
    · exact h9
    · exact absurd hhit (hop n h0 h9).1
  subst hln
  rcases hcase with ⟨_, _, h8, _⟩ | ⟨_, h7, h8 | h8⟩
  · omega
  · obtain ⟨rfl, _, h9⟩ := h8
    have h10 := idx_get ls l ls.length s hs hn.symm
    rw [hvn, hW, Nat.add_sub_cancel_left, h10] at h9
    injection h9 with h9
    subst h9
    exact ⟨he, h7, hkp⟩
  · exact absurd hhit h8.2.2.1
/-- The bits of symbols. -/
def bitsL (ls : List Nat) (l : List Nat) : List Int := l.flatMap (symBits ls)
theorem bitsL_snoc (ls l : List Nat) (s : Nat) : bitsL ls (l ++ [s]) = bitsL ls l ++ symBits ls s := by simp [bitsL]
theorem symBits_len (ls : List Nat) (s : Nat) : (symBits ls s).length = ls.getD s 0 := by simp [symBits, bitsOf]
theorem bitsL_len (ls : List Nat) (h : ∀ i, ls.getD i 0 ≤ 20) : ∀ l : List Nat, (bitsL ls l).length ≤ 20 * l.length
  | [] => by simp [bitsL]
  | s :: r => by
    have h1 := bitsL_len ls h r
    have h2 := h s
    show (symBits ls s ++ bitsL ls r).length ≤ _
    rw [List.length_append, symBits_len, List.length_cons]
    omega
theorem bitsL_isBits (ls l : List Nat) : IsBits (bitsL ls l) := fun x hx => by
  obtain ⟨s, _, h⟩ := List.mem_flatMap.1 hx
  exact isBits_bitsOf _ _ _ x h
theorem bitsL_get (ls : List Nat) (l : List Nat) (i s : Nat) (hi : l[i]? = some s) (j : Nat) (hj : j < ls.getD s 0) : (bitsL ls l).getD ((bitsL ls (l.take i)).length + j) 0 = (wordN ls s : Int) / 2 ^ (ls.getD s 0 - 1 - j) % 2 ∧ (bitsL ls (l.take i)).length + ls.getD s 0 ≤ (bitsL ls l).length ∧ (bitsL ls (l.take (i + 1))).length = (bitsL ls (l.take i)).length + ls.getD s 0 := by
  have hil : i < l.length := by
    by_cases h : i < l.length
    · exact h
    · rw [List.getElem?_eq_none (by omega)] at hi; cases hi
  have hsplit : l = l.take i ++ s :: l.drop (i + 1) := by
    have h1 : l.drop i = s :: l.drop (i + 1) := by
      rw [List.drop_eq_getElem_cons hil]
      rw [List.getElem?_eq_getElem hil] at hi
      injection hi with hi
      rw [hi]
    rw [← h1, List.take_append_drop]
  have hb : bitsL ls l = bitsL ls (l.take i) ++ (symBits ls s ++ bitsL ls (l.drop (i + 1))) := by
    conv => lhs; rw [hsplit]
    simp [bitsL]
  have ht : l.take (i + 1) = l.take i ++ [s] := by
    rw [List.take_add_one, hi]
    rfl
  refine ⟨?_, ?_, ?_⟩
  · rw [hb, List.getD_eq_getElem?_getD, List.getElem?_append_right (by omega), Nat.add_sub_cancel_left, List.getElem?_append_left (by rw [symBits_len]; exact hj)]
    unfold symBits bitsOf
    rw [List.getElem?_map, List.getElem?_range hj]
    rfl
  · rw [hb, List.length_append, List.length_append, symBits_len]
    omega
  · rw [ht, bitsL_snoc, List.length_append, symBits_len]
theorem bt_pk (hi : Bool) (l : List Int) (h : IsBits l) (j : Nat) (hj : j < l.length) : bt hi (pk hi l) j = (l.getD j 0).toNat := by
  unfold bt
  rw [List.getD_eq_getElem?_getD, unpk_pk hi l h j (by omega)]
  rfl
/-- New refuses. -/
theorem newFail (m : Nat) (xs : List Int) (most : Int) (loose : Bool) (h : okL most m xs = false ∨ fullK (toN xs) loose = false) (hm : m ≤ 140737488355328) : ∃ er : Nat, 0 < er ∧ er < 100 ∧ ∀ w A c, Nums .i64 w A m c xs → Calls Try.prog 8 #[.slice A m c, .int .i64 most, .bool loose] w fun e w' => e = .returned (.tuple #[.pointer none, .int .i64 er]) ∧ Grow w w' := by
  cases hok : okL most m xs
  · exact ⟨2, by omega, by omega, fun w A c hx => pNew_bad w A m c xs hx most loose hok hm⟩
  · have hf : fullK (toN xs) loose = false := by
      rcases h with h | h
      · rw [hok] at h; cases h
      · exact h
    exact ⟨13, by omega, by omega, fun w A c hx => pNew_code w A m c xs hx most loose hok hf⟩
/-- New makes a code. -/
theorem newGood (m : Nat) (xs : List Int) (most : Int) (loose : Bool) (h1 : okL most m xs = true) (h2 : fullK (toN xs) loose = true) (hl : xs.length = m) : ∃ M : Nat, most = (M : Int) ∧ 1 ≤ M ∧ M ≤ 20 ∧ m ≤ 65536 ∧ ∀ w A c, Nums .i64 w A m c xs → Calls Try.prog 8 #[.slice A m c, .int .i64 most, .bool loose] w fun e w' => ∃ g, e = .returned (.tuple #[.pointer (some ⟨g, 0, none⟩), .int .i64 0]) ∧ CodeX w' g m M w'.heap.size (toN xs) ∧ Grow w w' := by
  obtain ⟨M, rfl, a1, a2, a3, a4, a5, a6⟩ := okL_facts h1 hl
  refine ⟨M, rfl, a1, a2, a4, fun w A c hx => (pNew_is w A m c xs hx M loose h1 h2).mono ?_⟩
  rintro x w' ⟨g, rfl, hm⟩
  refine ⟨g, rfl, hm.codeX hl a2 a6 (fullK_kraft h2), ?_⟩
  obtain ⟨gm, gw, B, srt, F, C, P, q1, q2⟩ := hm
  exact q1.grow
/-- Two words of one bit each. -/
theorem two_ok : okL 1 2 [1, 1] = true ∧ fullK (toN [1, 1]) false = true := ⟨by decide, by decide⟩
theorem two_nums (w : World) : Nums .i64 (w.alloc (.cells #[.int .i64 1, .int .i64 1] 3)) (some ⟨w.heap.size, 0, none⟩) 2 2 [1, 1] := by
  have ho : (w.alloc (.cells #[.int .i64 1, .int .i64 1] 3)).ownsRow w.heap.size 3 1 (.slice (some ⟨w.heap.size, 0, none⟩) 2 2) 2 (([1, 1] : List Int).map (Value.int .i64)) :=
    ⟨rfl, .inr ⟨w.heap.size, 2, #[.int .i64 1, .int .i64 1], rfl, Nat.le_refl _, heap_alloc_new w _, Nat.le_refl _, by unfold maxLen; omega, rfl, rfl⟩⟩
  exact Nums.of_own ho (fun x hx => by
    simp at hx
    subst hx
    exact mk_i64 (by decide) (by decide))
/-- A writer behind the code, the symbols that were put. -/
structure PB (W w : World) (g m M B : Nat) (ls : List Nat) (hi : Bool) (gb : Nat) (v ov : Value) (l osy : List Nat) : Prop where
  code : CodeX w g m M B ls
  wr : Wr w gb hi v (bitsL ls l)
  row : w.ownsRow B 3 1 ov osy.length (osy.map fun s => .int .i64 (s : Nat))
  grow : Grow W w
  hB : W.heap.size ≤ B
  hgb : B ≤ gb
  hv : ∀ b, v.ownBlock = some b → B ≤ b
  hBw : B ≤ w.heap.size
namespace PB
variable {W w w' : World} {g m M B gb : Nat} {ls : List Nat} {hi : Bool} {v v' ov ov' : Value} {l osy l' osy' : List Nat}
theorem put (h : PB W w g m M B ls hi gb v ov l osy) (k : WrKeep w w' gb v v') (hw : Wr w' gb hi v' (bitsL ls l')) : PB W w' g m M B ls hi gb v' ov l' osy := by
  obtain ⟨k1, k2⟩ := k
  have hS : ∀ b, b < B → ¬ (b = gb ∨ v.ownBlock = some b) := fun b hb h9 => by
    rcases h9 with h9 | h9
    · have := h.hgb; omega
    · have := h.hv b h9; omega
  refine ⟨h.code.keep k1 hS, hw, owns_keep h.row k1 (fun b hb h9 => ?_), ?_, h.hB, h.hgb, fun b hb => ?_, Nat.le_trans h.hBw k1.size⟩
  · rcases h9 with h9 | h9
    · subst h9; exact row_ne h.row h.wr.2.1 (by decide) hb
    · rcases h.row.2 with ⟨hv, _⟩ | ⟨g2, cap, cur, hv, _, hh, _⟩
      · rw [hv] at hb; simp [Value.ownBlock] at hb
      · rw [hv] at hb
        have hk : g2 = b := by simpa [Value.ownBlock] using hb
        subst hk
        exact row_ne h.wr.2.2 hh (by decide) h9
  · refine Keeps.trans h.grow k1 fun i hi9 h9 => hS i (Nat.lt_of_lt_of_le hi9 h.hB) h9
  · rcases k2 with h9 | ⟨i, h9, hi9⟩
    · rw [h9] at hb; exact h.hv b hb
    · rw [h9] at hb; injection hb with hb; have := h.hBw; omega
theorem app (h : PB W w g m M B ls hi gb v ov l osy) (k : Keeps (fun k => ov.ownBlock = some k) w w') (ho : w'.ownsRow B 3 1 ov' osy'.length (osy'.map fun s => .int .i64 (s : Nat))) : PB W w' g m M B ls hi gb v ov' l osy' := by
  have hS : ∀ b, b < B → ¬ (ov.ownBlock = some b) := fun b hb h9 => by have := own_ge h.row b h9; omega
  refine ⟨h.code.keep k hS, h.wr.keep k (row_ne h.row h.wr.2.1 (by decide)) (fun b hb h9 => ?_), ho, Keeps.trans h.grow k fun i hi9 h9 => hS i (Nat.lt_of_lt_of_le hi9 h.hB) h9, h.hB, h.hgb, h.hv, Nat.le_trans h.hBw k.size⟩
  rcases h.row.2 with ⟨hv, _⟩ | ⟨g2, cap, cur, hv, _, hh, _⟩
  · rw [hv] at h9; simp [Value.ownBlock] at h9
  · rw [hv] at h9
    have hk : g2 = b := by simpa [Value.ownBlock] using h9
    subst hk
    exact row_ne h.wr.2.2 hh (by decide) hb
theorem grown (h : PB W w g m M B ls hi gb v ov l osy) (k : Grow w w') : PB W w' g m M B ls hi gb v ov l osy :=
  ⟨h.code.grow k, h.wr.keep k (fun h => h) (fun _ _ h => h), owns_keep h.row k (fun _ _ h => h), Grow.trans _ _ _ h.grow k, h.hB, h.hgb, h.hv, Nat.le_trans h.hBw k.size⟩
end PB
/-- A symbol is put, or not. -/
theorem put_cases (ls : List Nat) (m : Nat) (s : Int) : (s < 0 ∨ (m : Int) ≤ s ∨ ∃ k : Nat, s = k ∧ k < m ∧ ls.getD k 0 = 0) ∨ ∃ k : Nat, s = k ∧ k < m ∧ 0 < ls.getD k 0 := by
  by_cases h1 : s < 0
  · exact .inl (.inl h1)
  · by_cases h2 : (m : Int) ≤ s
    · exact .inl (.inr (.inl h2))
    · obtain ⟨k, rfl⟩ : ∃ k : Nat, s = (k : Int) := ⟨s.toNat, by omega⟩
      by_cases h3 : ls.getD k 0 = 0
      · exact .inl (.inr (.inr ⟨k, rfl, by omega, h3⟩))
      · exact .inr ⟨k, rfl, by omega, by omega⟩
end Go.Proofs.Ytofalbbbnhnadaa
