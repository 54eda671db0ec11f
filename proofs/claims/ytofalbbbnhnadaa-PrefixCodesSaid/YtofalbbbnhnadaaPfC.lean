/- prefix: Word, Symbols; the document's Has. -/
import Derived.Test.YtofalbbbnhnadaaPfR
import Derived.BigQuiet
import Derived.Deep.QuietTactic
namespace Go.Proofs.Ytofalbbbnhnadaa
open Go.RowKit
set_option linter.unusedVariables false
set_option linter.unusedSimpArgs false

/-- A code's words. -/
def CodeW (w : World) (g m : Nat) (ws : List (Nat × Nat)) : Prop := ∃ (gw : Nat) (srt : Value) (F C P : Nat → Nat) (M : Nat), CodeAt w g (.slice (some ⟨gw, 0, none⟩) m m) srt F C P M ∧ WordsAt w gw 73 ws ∧ ws.length = m
theorem CodeW.keep {w w' : World} {g m : Nat} {ws : List (Nat × Nat)} (h : CodeW w g m ws) (k : Grow w w') : CodeW w' g m ws := by
  obtain ⟨gw, srt, F, C, P, M, h1, h2, h3⟩ := h
  exact ⟨gw, srt, F, C, P, M, h1.keep k (fun h => h), h2.keep k (fun h => h), h3⟩
theorem Made.codeW {w w' : World} {m M g : Nat} {xs : List Int} (h : Made w m M g xs w') (hl : xs.length = m) : CodeW w' g m (outK (toN xs) M).ws := by
  obtain ⟨gm, gw, B, srt, F, C, P, h1, h2⟩ := h
  exact ⟨gw, srt, F, C, P, M, h1.code, h1.wds, by rw [(outK_facts (toN xs) M).1, toN_len, hl]⟩
/-- Does a symbol have a word? -/
def hasB (ws : List (Nat × Nat)) (s : Int) : Bool := decide (0 ≤ s) && decide (s < ws.length) && decide (0 < (ws.getD s.toNat (0, 0)).2)
set_option maxRecDepth 4000 in
theorem cNone_is (w : World) (g m : Nat) (ws : List (Nat × Nat)) (h : CodeW w g m ws) : Calls Try.prog 31 #[.pointer (some ⟨g, 0, none⟩)] w fun e w' => e = .returned (.bool false) ∧ w = w' := by
  obtain ⟨gw, srt, F, C, P, M, h1, h2, h3⟩ := h
  have d0 := h1.words
  have hq := fun (w : World) (a : Option Addr) (n c : Nat) => Lib.run_eql_slice_nil (P := Try.prog) w 50 73 a n c 0 0 Try.underlying50
  clear h1 h2
  go_enter Try.func31, Try.ntmps31
  go_wp2_with fail
  go_ret
  exact ⟨rfl, rfl⟩
set_option maxRecDepth 4000 in
theorem cSymbols_is (w : World) (g m : Nat) (ws : List (Nat × Nat)) (h : CodeW w g m ws) : Calls Try.prog 13 #[.pointer (some ⟨g, 0, none⟩)] w fun e w' => e = .returned (.int .i64 m) ∧ w = w' := by
  have HN := Lib.hid (cNone_is w g m ws h)
  obtain ⟨gw, srt, F, C, P, M, h1, h2, h3⟩ := h
  have d0 := h1.words
  clear h1 h2
  go_enter Try.func13, Try.ntmps13
  go_wp2_with fail
  refine HN.out.mono ?_
  rintro x w1 ⟨rfl, rfl⟩
  go_wp2_with fail
  go_ret
  exact ⟨rfl, rfl⟩
/-- The document's words. -/
def RefW (w : World) (gw m : Nat) (ws : List (Nat × Nat)) : Prop := WordsAt w gw 43 ws ∧ ws.length = m
set_option maxRecDepth 4000 in
theorem has_is (w : World) (gw m : Nat) (ws : List (Nat × Nat)) (h : RefW w gw m ws) (s : Int) : Calls Try.prog 15 #[.slice (some ⟨gw, 0, none⟩) m m, .int .i64 s] w fun e w' => e = .returned (.bool (hasB ws s)) ∧ w = w' := by
  by_cases h1 : s < 0
  · rw [show hasB ws s = false by unfold hasB; rw [decide_eq_false (by omega)]; rfl]
    clear h
    go_enter Try.func15, Try.ntmps15
    go_wp2_with fail
    go_ret
    exact ⟨rfl, rfl⟩
  obtain ⟨k, rfl⟩ : ∃ k : Nat, s = (k : Int) := ⟨s.toNat, by omega⟩
  by_cases h2 : k < m
  · obtain ⟨p, hp⟩ : ∃ p, ws[k]? = some p := ⟨ws[k]'(by rw [h.2]; exact h2), List.getElem?_eq_getElem _⟩
    obtain ⟨z0, z1⟩ := h.1.cell0 k p hp
    have hr : hasB ws k = decide (0 < p.2) := by
      unfold hasB
      rw [decide_eq_true (by omega), decide_eq_true (by rw [h.2]; omega), Int.toNat_natCast, List.getD_eq_getElem?_getD, hp]
      rfl
    rw [hr]
    obtain ⟨a, b⟩ := p
    simp only at z0 z1 ⊢
    have hki : (k : Int) < (m : Int) := by omega
    clear h hr hp z0 h1
    by_cases hb : 0 < b
    · rw [decide_eq_true hb]
      have hbi : (0 : Int) < (b : Int) := by omega
      go_enter Try.func15, Try.ntmps15
      go_wp2_with fail
      go_ret
      exact ⟨rfl, rfl⟩
    · obtain rfl : b = 0 := by omega
      go_enter Try.func15, Try.ntmps15
      go_wp2_with fail
      go_ret
      exact ⟨rfl, rfl⟩
  · rw [show hasB ws k = false by unfold hasB; rw [decide_eq_true (show (0 : Int) ≤ k by omega), decide_eq_false (by rw [h.2]; omega)]; rfl]
    have hki : ¬ (k : Int) < (m : Int) := by omega
    clear h h1
    go_enter Try.func15, Try.ntmps15
    go_wp2_with fail
    go_ret
    exact ⟨rfl, rfl⟩
set_option maxRecDepth 8000 in
theorem word_out (w : World) (g m : Nat) (ws : List (Nat × Nat)) (h : CodeW w g m ws) (s : Int) (hs : s < 0 ∨ (m : Int) ≤ s) : Calls Try.prog 14 #[.pointer (some ⟨g, 0, none⟩), .int .i64 s] w fun e w' => e = .returned (.tuple #[.int .u32 0, .int .i64 0, .int .i64 2]) ∧ Grow w w' := by
  have HN := Lib.hid (cNone_is w g m ws h)
  obtain ⟨gw, srt, F, C, P, M, h1, h2, h3⟩ := h
  have d0 := h1.words
  clear h1 h2
  by_cases hs0 : s < 0
  · go_enter Try.func14, Try.ntmps14
    go_wp2_with fail
    refine HN.out.mono ?_
    rintro x w1 ⟨rfl, rfl⟩
    go_wp2_with fail
    go_ret3
    exact ⟨rfl, Keeps.refl _ _⟩
  have hs1 : (m : Int) ≤ s := by omega
  go_enter Try.func14, Try.ntmps14
  go_wp2_with fail
  refine HN.out.mono ?_
  rintro x w1 ⟨rfl, rfl⟩
  go_wp2_with fail
  go_ret3
  exact ⟨rfl, Keeps.refl _ _⟩
set_option maxRecDepth 8000 in
theorem word_in (w : World) (g m : Nat) (ws : List (Nat × Nat)) (h : CodeW w g m ws) (s : Nat) (p : Nat × Nat) (hp : ws[s]? = some p) (hz : p.2 = 0 → p.1 = 0) : Calls Try.prog 14 #[.pointer (some ⟨g, 0, none⟩), .int .i64 s] w fun e w' => e = .returned (.tuple #[.int .u32 (p.1 : Nat), .int .i64 (p.2 : Nat), .int .i64 (if 0 < p.2 then 0 else 2 : Nat)]) ∧ Grow w w' := by
  have HN := Lib.hid (cNone_is w g m ws h)
  obtain ⟨gw, srt, F, C, P, M, h1, h2, h3⟩ := h
  have d0 := h1.words
  obtain ⟨z0, z1⟩ := h2.cell0 s p hp
  have hsm : s < m := by
    rw [← h3]
    by_cases h9 : s < ws.length
    · exact h9
    · rw [List.getElem?_eq_none (by omega)] at hp; cases hp
  have hsi : (s : Int) < (m : Int) := by omega
  have hsn : ¬ (m : Int) ≤ (s : Int) := by omega
  obtain ⟨a, b⟩ := p
  simp only at z0 z1 hz ⊢
  clear h1 h2 hp h3 hsm
  by_cases hb : 0 < b
  · rw [if_pos hb]
    have hbe : ((b : Int) == 0) = false := by rw [beq_eq_false_iff_ne]; omega
    have hbn : ¬ (b : Int) = 0 := by omega
    have hbm : ¬ b = 0 := by omega
    clear hz
    go_enter Try.func14, Try.ntmps14
    go_wp2_with fail
    refine HN.out.mono ?_
    rintro x w1 ⟨rfl, rfl⟩
    go_wp2_with fail
    have hga := heap_alloc_new w (.cells #[.int .u32 (a : Nat), .int .i64 (b : Nat)] 73)
    have HG : Hid (Grow w (w.alloc (.cells #[.int .u32 (a : Nat), .int .i64 (b : Nat)] 73)).drew) := ((Keeps.refl _ w).alloc _).drew
    refine wp_region_seq (by kernel_rfl) (by kernel_rfl) ?_
    have e0 : (w.alloc (.cells #[.int .u32 (a : Nat), .int .i64 (b : Nat)] 73)).drew.cell? ⟨w.heap.size, 0, none⟩ = some (.int .u32 (a : Nat)) := blk_cell hga 0
    have e1 : (w.alloc (.cells #[.int .u32 (a : Nat), .int .i64 (b : Nat)] 73)).drew.cell? ⟨w.heap.size, 1, none⟩ = some (.int .i64 (b : Nat)) := blk_cell hga 1
    clear hga
    generalize (w.alloc (.cells #[.int .u32 (a : Nat), .int .i64 (b : Nat)] 73)).drew = wd at *
    go_wp2_with fail
    refine ⟨by kernel_rfl, ?_⟩
    go_wp2_with fail
    go_ret3
    exact ⟨rfl, HG.out⟩
  · obtain rfl : b = 0 := by omega
    obtain rfl : a = 0 := hz rfl
    rw [if_neg hb]
    clear hz hb
    go_enter Try.func14, Try.ntmps14
    go_wp2_with fail
    refine HN.out.mono ?_
    rintro x w1 ⟨rfl, rfl⟩
    go_wp2_with fail
    go_ret3
    exact ⟨rfl, Keeps.refl _ _⟩
/-- What comes of symbols so often: none where it is too much. -/
def cst (ws : List (Nat × Nat)) (ys : List Int) : Nat → Option Nat
  | 0 => some 0
  | k + 1 => match cst ws ys k with
    | none => none
    | some n => if 0 < (ws.getD k (0, 0)).2 ∧ (4611686018427387904 - n) / (ws.getD k (0, 0)).2 < (ys.getD k 0).toNat then none else some (n + (ys.getD k 0).toNat * (ws.getD k (0, 0)).2)
/-- A number that may not be. -/
def badY (ws : List (Nat × Nat)) (ys : List Int) (i : Nat) : Prop := ys.getD i 0 < 0 ∨ 0 < ys.getD i 0 ∧ (ws.getD i (0, 0)).2 = 0
instance (ws : List (Nat × Nat)) (ys : List Int) (i : Nat) : Decidable (badY ws ys i) := by unfold badY; exact inferInstance
/-- The cost: a number, an error's. -/
def CostPost (ws : List (Nat × Nat)) (ys : List Int) (e : Ending) (w w' : World) : Prop :=
  ∃ v er : Nat, e = .returned (.tuple #[.int .i64 v, .int .i64 er]) ∧ Grow w w' ∧
    ((ws.length < ys.length ∨ ∃ i, i < ys.length ∧ badY ws ys i) ∧ v = 0 ∧ er = 2 ∨
     (ys.length ≤ ws.length ∧ (∀ i, i < ys.length → ¬ badY ws ys i)) ∧ (cst ws ys ys.length = none ∧ v = 0 ∧ er = 3 ∨ cst ws ys ys.length = some v ∧ er = 0))
theorem CostPost.uniq {ws : List (Nat × Nat)} {ys : List Int} {e1 e2 : Ending} {w1 w1' w2 w2' : World} (h1 : CostPost ws ys e1 w1 w1') (h2 : CostPost ws ys e2 w2 w2') : e1 = e2 := by
  obtain ⟨v, er, rfl, _, h1⟩ := h1
  obtain ⟨v2, er2, rfl, _, h2⟩ := h2
  have hv : v = v2 ∧ er = er2 := by
    rcases h1 with ⟨a, rfl, rfl⟩ | ⟨⟨a1, a2⟩, h1⟩
    · rcases h2 with ⟨_, rfl, rfl⟩ | ⟨⟨b1, b2⟩, _⟩
      · exact ⟨rfl, rfl⟩
      · rcases a with a | ⟨i, hi, a⟩
        · omega
        · exact absurd a (b2 i hi)
    · rcases h2 with ⟨b, _⟩ | ⟨_, h2⟩
      · rcases b with b | ⟨i, hi, b⟩
        · omega
        · exact absurd b (a2 i hi)
      · rcases h1 with ⟨c1, rfl, rfl⟩ | ⟨c1, rfl⟩
        · rcases h2 with ⟨_, rfl, rfl⟩ | ⟨c2, _⟩
          · exact ⟨rfl, rfl⟩
          · rw [c1] at c2; cases c2
        · rcases h2 with ⟨c2, _⟩ | ⟨c2, rfl⟩
          · rw [c1] at c2; cases c2
          · rw [c1] at c2; injection c2 with c2; exact ⟨c2, rfl⟩
  rw [hv.1, hv.2]
theorem cst_le (ws : List (Nat × Nat)) (ys : List Int) : ∀ k n, cst ws ys k = some n → n ≤ 4611686018427387904
  | 0, n, h => by
    injection h with h
    omega
  | k + 1, n, h => by
    unfold cst at h
    cases hc : cst ws ys k with
    | none => rw [hc] at h; cases h
    | some n0 =>
      rw [hc] at h
      simp only at h
      have h0 := cst_le ws ys k n0 hc
      generalize (ws.getD k (0, 0)).2 = l at *
      generalize (ys.getD k 0).toNat = y at *
      split at h
      · cases h
      · rename_i hcond
        injection h with h
        by_cases hl : 0 < l
        · have h1 : ¬ (4611686018427387904 - n0) / l < y := fun h9 => hcond ⟨hl, h9⟩
          have h2 : y * l ≤ 4611686018427387904 - n0 := by
            have h3 : y ≤ (4611686018427387904 - n0) / l := by omega
            exact Nat.le_trans (Nat.mul_le_mul_right l h3) (Nat.div_mul_le_self _ _)
          omega
        · obtain rfl : l = 0 := by omega
          rw [Nat.mul_zero] at h
          omega
/-- The loop goes on with one more. -/
theorem cst_step {ws : List (Nat × Nat)} {ys : List Int} {k n l y : Nat} (h : cst ws ys k = some n) (hl : (ws.getD k (0, 0)).2 = l) (hy : (ys.getD k 0).toNat = y) :
    cst ws ys (k + 1) = if 0 < l ∧ (4611686018427387904 - n) / l < y then none else some (n + y * l) := by
  show (match cst ws ys k with | none => none | some n => _) = _
  rw [h, ← hl, ← hy]
theorem cst_none {ws : List (Nat × Nat)} {ys : List Int} {k : Nat} (h : cst ws ys k = none) : ∀ j, cst ws ys (k + j) = none
  | 0 => h
  | j + 1 => by
    show (match cst ws ys (k + j) with | none => none | some n => _) = _
    rw [cst_none h j]
end Go.Proofs.Ytofalbbbnhnadaa
