/- Package-merge: plain. No theorem on the program stands here. -/
namespace Go.Proofs.Ytfegjdabjdahgaa
set_option linter.unusedVariables false
abbrev Coin := Nat × List Nat
/-- Two lists together: of equal worth those of the first one first. -/
def mergeBy {α : Type} (k : α → Nat) : List α → List α → List α
  | [], r => r
  | a :: l, [] => a :: l
  | a :: l, b :: r => if k a ≤ k b then a :: mergeBy k l (b :: r) else b :: mergeBy k (a :: l) r
termination_by l r => l.length + r.length
theorem mergeBy_nil {α : Type} (k : α → Nat) (r : List α) : mergeBy k [] r = r := by rw [mergeBy]
theorem mergeBy_nil2 {α : Type} (k : α → Nat) (l : List α) : mergeBy k l [] = l := by cases l <;> rw [mergeBy]
theorem mergeBy_cons {α : Type} (k : α → Nat) (a b : α) (l r : List α) : mergeBy k (a :: l) (b :: r) = if k a ≤ k b then a :: mergeBy k l (b :: r) else b :: mergeBy k (a :: l) r := by rw [mergeBy]
theorem mergeBy_perm {α : Type} (k : α → Nat) (l r : List α) : (mergeBy k l r).Perm (l ++ r) := by
  induction l, r using mergeBy.induct k with
  | case1 r => rw [mergeBy_nil]; exact List.Perm.refl _
  | case2 a l => rw [mergeBy_nil2, List.append_nil]
  | case3 a l b r h ih => rw [mergeBy_cons, if_pos h]; exact ih.cons a
  | case4 a l b r h ih =>
    rw [mergeBy_cons, if_neg h]
    exact (ih.cons b).trans (List.perm_middle.symm)
theorem mergeBy_len {α : Type} (k : α → Nat) (l r : List α) : (mergeBy k l r).length = l.length + r.length := by
  rw [(mergeBy_perm k l r).length_eq, List.length_append]
theorem mergeBy_map {α β : Type} (k : α → Nat) (k' : β → Nat) (f : α → β) (hf : ∀ a, k' (f a) = k a) (l r : List α) : (mergeBy k l r).map f = mergeBy k' (l.map f) (r.map f) := by
  induction l, r using mergeBy.induct k with
  | case1 r => rw [mergeBy_nil, List.map_nil, mergeBy_nil]
  | case2 a l => rw [mergeBy_nil2, List.map_nil, mergeBy_nil2]
  | case3 a l b r h ih =>
    rw [mergeBy_cons, if_pos h, List.map_cons, ih, List.map_cons, List.map_cons, mergeBy_cons, hf, hf, if_pos h]
  | case4 a l b r h ih =>
    rw [mergeBy_cons, if_neg h, List.map_cons, ih, List.map_cons, List.map_cons, mergeBy_cons, hf, hf, if_neg h]
def Up2 {α : Type} (k : α → Nat) (l : List α) : Prop := l.Pairwise (fun a b => k a ≤ k b)
theorem mergeBy_up {α : Type} (k : α → Nat) (l r : List α) (hl : Up2 k l) (hr : Up2 k r) : Up2 k (mergeBy k l r) := by
  induction l, r using mergeBy.induct k with
  | case1 r => rw [mergeBy_nil]; exact hr
  | case2 a l => rw [mergeBy_nil2]; exact hl
  | case3 a l b r h ih =>
    rw [mergeBy_cons, if_pos h]
    have hl' := List.pairwise_cons.1 hl
    refine List.pairwise_cons.2 ⟨fun x hx => ?_, ih hl'.2 hr⟩
    rcases List.mem_append.1 ((mergeBy_perm k l (b :: r)).mem_iff.1 hx) with h1 | h1
    · exact hl'.1 x h1
    · rcases List.mem_cons.1 h1 with rfl | h1
      · exact h
      · exact Nat.le_trans h ((List.pairwise_cons.1 hr).1 x h1)
  | case4 a l b r h ih =>
    rw [mergeBy_cons, if_neg h]
    have hr' := List.pairwise_cons.1 hr
    refine List.pairwise_cons.2 ⟨fun x hx => ?_, ih hl hr'.2⟩
    rcases List.mem_append.1 ((mergeBy_perm k (a :: l) r).mem_iff.1 hx) with h1 | h1
    · rcases List.mem_cons.1 h1 with rfl | h1
      · omega
      · have := (List.pairwise_cons.1 hl).1 x h1; omega
    · exact hr'.1 x h1
/-- Of the first ones of two merged lists. -/
theorem mergeBy_take {α : Type} (k : α → Nat) : ∀ (t : Nat) (l r : List α), Up2 k l → t ≤ l.length + r.length →
    ∃ s p, s + p = t ∧ s ≤ l.length ∧ p ≤ r.length ∧ ((mergeBy k l r).take t).Perm (l.take s ++ r.take p) ∧ ∀ a b, l[s]? = some a → 1 ≤ p → r[p - 1]? = some b → k b < k a := by
  intro t
  induction t with
  | zero => intro l r _ _; exact ⟨0, 0, rfl, Nat.zero_le _, Nat.zero_le _, by simp, fun _ _ _ h => by omega⟩
  | succ t ih =>
    intro l r hl ht
    match l, r with
    | [], r => exact ⟨0, t + 1, by omega, Nat.le_refl _, by simpa using ht, by rw [mergeBy_nil]; simp, fun a b h => by simp at h⟩
    | a :: l, [] => exact ⟨t + 1, 0, by omega, by simpa using ht, Nat.le_refl _, by rw [mergeBy_nil2]; simp, fun _ _ _ h => by omega⟩
    | a :: l, b :: r =>
      rw [mergeBy_cons]
      simp only [List.length_cons] at ht
      by_cases h : k a ≤ k b
      · obtain ⟨s, p, h1, h2, h3, h4, h5⟩ := ih l (b :: r) (List.pairwise_cons.1 hl).2 (by simp; omega)
        refine ⟨s + 1, p, by omega, by simp; omega, h3, ?_, fun x y hx hp hy => ?_⟩
        · rw [if_pos h, List.take_succ_cons, List.take_succ_cons]; exact h4.cons a
        · rw [List.getElem?_cons_succ] at hx; exact h5 x y hx hp hy
      · obtain ⟨s, p, h1, h2, h3, h4, h5⟩ := ih (a :: l) r hl (by simp; omega)
        refine ⟨s, p + 1, by omega, h2, by simp; omega, ?_, fun x y hx hp hy => ?_⟩
        · rw [if_neg h, List.take_succ_cons, List.take_succ_cons]
          exact (h4.cons b).trans List.perm_middle.symm
        · cases p with
          | zero =>
            simp at hy
            subst hy
            have hax : k a ≤ k x := by
              cases s with
              | zero => simp at hx; subst hx; exact Nat.le_refl _
              | succ s => exact (List.pairwise_cons.1 hl).1 x (List.mem_of_getElem? (by rw [List.getElem?_cons_succ] at hx; exact hx))
            omega
          | succ p =>
            refine h5 x y hx (by omega) ?_
            rw [show p + 1 + 1 - 1 = p + 1 by omega, List.getElem?_cons_succ] at hy
            exact hy
/-- Coins two by two. -/
def pairsP : List Coin → List Coin
  | a :: b :: r => (a.1 + b.1, a.2 ++ b.2) :: pairsP r
  | _ => []
theorem pairsP_len : ∀ l : List Coin, (pairsP l).length = l.length / 2
  | [] => rfl
  | [_] => by simp [pairsP]
  | a :: b :: r => by rw [pairsP, List.length_cons, pairsP_len r]; simp; omega
theorem pairsP_get : ∀ (l : List Coin) (p : Nat) (x : Coin), (pairsP l)[p]? = some x → ∃ a b, l[2 * p]? = some a ∧ l[2 * p + 1]? = some b ∧ x = (a.1 + b.1, a.2 ++ b.2)
  | [], p, x, h => by simp [pairsP] at h
  | [_], p, x, h => by simp [pairsP] at h
  | a :: b :: r, p, x, h => by
    rw [pairsP] at h
    cases p with
    | zero => simp at h; exact ⟨a, b, rfl, rfl, h.symm⟩
    | succ p =>
      rw [List.getElem?_cons_succ] at h
      obtain ⟨c, d, h1, h2, h3⟩ := pairsP_get r p x h
      exact ⟨c, d, by rw [show 2 * (p + 1) = 2 * p + 1 + 1 by omega]; exact h1, by rw [show 2 * (p + 1) + 1 = 2 * p + 1 + 1 + 1 by omega]; exact h2, h3⟩
theorem up2_get {α : Type} {k : α → Nat} {l : List α} (h : Up2 k l) {i j : Nat} {a b : α} (hij : i ≤ j) (ha : l[i]? = some a) (hb : l[j]? = some b) : k a ≤ k b := by
  rcases Nat.eq_or_lt_of_le hij with e | e
  · subst e; rw [ha] at hb; injection hb with hb; subst hb; exact Nat.le_refl _
  · obtain ⟨h1, e1⟩ := List.getElem?_eq_some_iff.1 ha
    obtain ⟨h2, e2⟩ := List.getElem?_eq_some_iff.1 hb
    rw [← e1, ← e2]
    exact List.pairwise_iff_getElem.1 h i j h1 h2 e
theorem pairsP_up (l : List Coin) (h : Up2 (·.1) l) : Up2 (·.1) (pairsP l) := by
  refine List.pairwise_iff_getElem.2 fun i j hi hj hij => ?_
  obtain ⟨a, b, h1, h2, h3⟩ := pairsP_get l i _ (List.getElem?_eq_getElem hi)
  obtain ⟨c, d, g1, g2, g3⟩ := pairsP_get l j _ (List.getElem?_eq_getElem hj)
  rw [h3, g3]
  have e1 := up2_get h (by omega) h1 g1
  have e2 := up2_get h (by omega) h2 g2
  simp only at e1 e2 ⊢
  omega
/-- What is told of coins one by one, and of two together as their sum. -/
structure Addi (F : Coin → Nat) : Prop where
  add : ∀ a b : Coin, F (a.1 + b.1, a.2 ++ b.2) = F a + F b
def sumF (F : Coin → Nat) (l : List Coin) : Nat := (l.map F).sum
theorem sumF_append (F : Coin → Nat) (l r : List Coin) : sumF F (l ++ r) = sumF F l + sumF F r := by simp [sumF]
theorem sumF_perm (F : Coin → Nat) {l r : List Coin} (h : l.Perm r) : sumF F l = sumF F r := (h.map F).sum_nat
theorem pairsP_sum {F : Coin → Nat} (hF : Addi F) : ∀ (p : Nat) (l : List Coin), 2 * p ≤ l.length → sumF F ((pairsP l).take p) = sumF F (l.take (2 * p))
  | 0, _, _ => by simp [sumF]
  | p + 1, [], h => by simp at h
  | p + 1, [_], h => by simp at h; omega
  | p + 1, a :: b :: r, h => by
    rw [pairsP, List.take_succ_cons, show 2 * (p + 1) = 2 * p + 1 + 1 by omega, List.take_succ_cons, List.take_succ_cons]
    have := pairsP_sum hF p r (by simp at h; omega)
    simp only [sumF, List.map_cons, List.sum_cons] at this ⊢
    rw [hF.add]; omega
def rounds (base : List Coin) : Nat → List Coin
  | 0 => base
  | k + 1 => mergeBy (·.1) base (pairsP (rounds base k))
theorem rounds_up {base : List Coin} (h : Up2 (·.1) base) : ∀ k, Up2 (·.1) (rounds base k)
  | 0 => h
  | k + 1 => mergeBy_up _ _ _ h (pairsP_up _ (rounds_up h k))
theorem rounds_len (base : List Coin) : ∀ k, (rounds base (k + 1)).length = base.length + (rounds base k).length / 2 := fun k => by
  rw [rounds, mergeBy_len, pairsP_len]
theorem rounds_enough (base : List Coin) (h1 : 1 ≤ base.length) : ∀ k, (rounds base k).length + (base.length - 1) / 2 ^ k = 2 * base.length - 1
  | 0 => by simp [rounds]; omega
  | k + 1 => by
    have ih := rounds_enough base h1 k
    rw [rounds_len, Nat.pow_succ, ← Nat.div_div_eq_div_mul]
    generalize (base.length - 1) / 2 ^ k = x at *
    omega
theorem rounds_2n (base : List Coin) (L : Nat) (h2 : 1 ≤ base.length) (hL : base.length ≤ 2 ^ (L + 1)) : 2 * base.length - 2 ≤ (rounds base L).length := by
  have h := rounds_enough base (by omega) L
  have : (base.length - 1) / 2 ^ L ≤ 1 := by
    have : (base.length - 1) / 2 ^ L < 2 := (Nat.div_lt_iff_lt_mul (Nat.two_pow_pos L)).2 (by rw [Nat.pow_succ] at hL; omega)
    omega
  omega
/-- The sum of a function over the levelsL. -/
def levS (k : Nat) (f : Nat → Nat) : Nat := ((List.range (k + 1)).map f).sum
theorem levS_zero (f : Nat → Nat) : levS 0 f = f 0 := by simp [levS]
theorem levS_succ (k : Nat) (f : Nat → Nat) : levS (k + 1) f = levS k f + f (k + 1) := by simp [levS, List.range_succ]; omega
theorem levS_congr {k : Nat} {f g : Nat → Nat} (h : ∀ j, j ≤ k → f j = g j) : levS k f = levS k g := by
  unfold levS
  congr 1
  refine List.map_congr_left fun j hj => h j ?_
  have := List.mem_range.1 hj; omega
/-- How many of the base are taken on each level. -/
structure Lev (base : List Coin) (k t : Nat) (s : Nat → Nat) : Prop where
  le : ∀ j, j ≤ k → s j ≤ base.length
  mono : ∀ i j, i ≤ j → j ≤ k → s i ≤ s j
  width : levS k (fun j => 2 ^ j * s j) = t * 2 ^ k
  sum : ∀ F : Coin → Nat, Addi F → sumF F ((rounds base k).take t) = levS k (fun j => sumF F (base.take (s j)))
  top : 1 ≤ s k → ∃ a b, base[s k - 1]? = some a ∧ 1 ≤ t ∧ (rounds base k)[t - 1]? = some b ∧ a.1 ≤ b.1
theorem mem_take_le {l : List Coin} (h : Up2 (·.1) l) {t : Nat} {a : Coin} (ha : a ∈ l.take t) (ht : t ≤ l.length) : 1 ≤ t ∧ ∃ b, l[t - 1]? = some b ∧ a.1 ≤ b.1 := by
  obtain ⟨i, hi, e⟩ := List.getElem_of_mem ha
  rw [List.length_take] at hi
  refine ⟨by omega, l[t - 1]'(by omega), List.getElem?_eq_getElem _, ?_⟩
  rw [List.getElem_take] at e
  exact up2_get h (show i ≤ t - 1 by omega) (by rw [List.getElem?_eq_getElem (by omega), e]) (List.getElem?_eq_getElem (by omega))
theorem levelsL {base : List Coin} (h : Up2 (·.1) base) : ∀ k t, t ≤ (rounds base k).length → ∃ s, Lev base k t s
  | 0, t, ht => by
    refine ⟨fun _ => t, fun _ _ => ht, fun _ _ _ _ => Nat.le_refl _, by simp [levS_zero], fun F _ => by rw [levS_zero]; rfl, fun h1 => ?_⟩
    have h1 : 1 ≤ t := h1
    have hl : t - 1 < base.length := by have : t ≤ base.length := ht; omega
    exact ⟨base[t - 1], base[t - 1], List.getElem?_eq_getElem hl, h1, List.getElem?_eq_getElem hl, Nat.le_refl _⟩
  | k + 1, t, ht => by
    have hup := rounds_up h (k + 1)
    obtain ⟨s, p, h1, h2, h3, h4, h5⟩ := mergeBy_take (·.1) t base (pairsP (rounds base k)) h (by rw [rounds, mergeBy_len] at ht; exact ht)
    have h6 : 2 * p ≤ (rounds base k).length := by rw [pairsP_len] at h3; omega
    obtain ⟨s', hs'⟩ := levelsL h k (2 * p) h6
    have htop : s' k ≤ s := by
      rcases Nat.lt_or_ge s (s' k) with h9 | h9
      · exfalso
        obtain ⟨a, b, g1, g2, g3, g4⟩ := hs'.top (by omega)
        have hk := hs'.le k (Nat.le_refl _)
        have hsl : s < base.length := by omega
        have e1 := up2_get h (show s ≤ s' k - 1 by omega) (List.getElem?_eq_getElem hsl) g1
        have hpl : p - 1 < (pairsP (rounds base k)).length := by omega
        have e2 := h5 _ _ (List.getElem?_eq_getElem hsl) (by omega) (List.getElem?_eq_getElem hpl)
        obtain ⟨c, d, q1, q2, q3⟩ := pairsP_get _ _ _ (List.getElem?_eq_getElem hpl)
        rw [q3] at e2
        rw [show 2 * p - 1 = 2 * (p - 1) + 1 by omega, q2] at g3
        injection g3 with g3
        subst g3
        simp only at e1 e2
        omega
      · exact h9
    refine ⟨fun j => if j ≤ k then s' j else s, fun j hj => ?_, fun i j hij hj => ?_, ?_, fun F hF => ?_, fun hs1 => ?_⟩
    · split
      · exact hs'.le j (by assumption)
      · exact h2
    · by_cases c1 : j ≤ k
      · rw [if_pos c1, if_pos (by omega)]; exact hs'.mono i j hij c1
      · rw [if_neg c1]
        by_cases c2 : i ≤ k
        · rw [if_pos c2]; exact Nat.le_trans (hs'.mono i k c2 (Nat.le_refl _)) htop
        · rw [if_neg c2]; exact Nat.le_refl _
    · rw [levS_succ, if_neg (by omega), levS_congr (g := fun j => 2 ^ j * s' j) (fun j hj => by rw [if_pos hj]), hs'.width]
      rw [← h1, Nat.pow_succ, Nat.add_mul, Nat.mul_comm s, Nat.mul_comm (2 * p), Nat.mul_comm p]
      rw [Nat.add_comm]
      congr 1
      rw [Nat.mul_assoc]
    · rw [rounds, sumF_perm F h4, sumF_append, pairsP_sum hF p _ h6, hs'.sum F hF, levS_succ, if_neg (by omega), levS_congr (g := fun j => sumF F (base.take (s' j))) (f := fun j => sumF F (base.take (if j ≤ k then s' j else s))) (fun j hj => by rw [if_pos hj])]
      omega
    · rw [if_neg (by omega)] at hs1 ⊢
      have hsl : s - 1 < base.length := by omega
      have hm : base[s - 1] ∈ (rounds base (k + 1)).take t := by
        rw [rounds, h4.mem_iff, List.mem_append]
        refine .inl ?_
        rw [List.mem_take_iff_getElem]
        exact ⟨s - 1, by omega, rfl⟩
      obtain ⟨g1, b, g2, g3⟩ := mem_take_le hup hm ht
      exact ⟨_, b, List.getElem?_eq_getElem hsl, g1, g2, g3⟩
/-! ### No collection weighs less -/
def SubM (Q M : List Nat) : Prop := ∃ R, (Q ++ R).Perm M
theorem minSum : ∀ (M Q : List Nat) (t : Nat), M.Pairwise (fun a b => a ≤ b) → SubM Q M → t ≤ Q.length → (M.take t).sum ≤ Q.sum
  | M, Q, 0, _, _, _ => by simp
  | [], Q, t + 1, _, h, ht => by
    obtain ⟨R, hR⟩ := h
    have := hR.length_eq
    rw [List.length_append] at this
    simp only [List.length_nil] at this
    omega
  | a :: M, Q, t + 1, hM, h, ht => by
    obtain ⟨R, hR⟩ := h
    have hM' := List.pairwise_cons.1 hM
    rw [List.take_succ_cons, List.sum_cons]
    by_cases ha : a ∈ Q
    · have h1 := List.perm_cons_erase ha
      have h2 : SubM (Q.erase a) M := ⟨R, ((h1.symm.append_right R).trans hR).cons_inv⟩
      have h3 := h1.length_eq
      rw [List.length_cons] at h3
      have ih := minSum M (Q.erase a) t hM'.2 h2 (by omega)
      have h4 := h1.sum_nat
      rw [List.sum_cons] at h4
      omega
    · have haR : a ∈ R := by
        have := hR.mem_iff (a := a)
        simp [ha] at this
        exact this
      match Q, ht, hR with
      | q :: Q', ht, hR =>
        have h1 := List.perm_cons_erase haR
        have h2 : (q :: Q' ++ R.erase a).Perm M := by
          have h5 : (a :: (q :: Q' ++ R.erase a)).Perm (a :: M) := (List.perm_middle.symm.trans ((List.Perm.refl (q :: Q')).append h1.symm)).trans hR
          exact h5.cons_inv
        have hq : a ≤ q := hM'.1 q (h2.mem_iff.1 (by simp))
        have h3 : SubM Q' M := ⟨q :: R.erase a, List.perm_middle.trans h2⟩
        have ih := minSum M Q' t hM'.2 h3 (by simpa using ht)
        rw [List.sum_cons]
        omega
theorem addi_fst : Addi (·.1) := ⟨fun a b => rfl⟩
theorem up2_map {l : List Coin} (h : Up2 (·.1) l) : (l.map (·.1)).Pairwise (fun a b => a ≤ b) := by
  rw [List.pairwise_map]; exact h
theorem lowerL {base : List Coin} (h : Up2 (·.1) base) : ∀ (k : Nat) (S : Nat → List Nat), (∀ j, j ≤ k → SubM (S j) (base.map (·.1))) → ∀ t, t * 2 ^ k ≤ levS k (fun j => 2 ^ j * (S j).length) →
    t ≤ (rounds base k).length ∧ sumF (·.1) ((rounds base k).take t) ≤ levS k (fun j => (S j).sum)
  | 0, S, hS, t, ht => by
    rw [levS_zero] at ht
    simp only [Nat.pow_zero, Nat.mul_one, Nat.one_mul] at ht
    have h1 := hS 0 (Nat.le_refl _)
    have h2 := minSum _ _ t (up2_map h) h1 ht
    obtain ⟨R, hR⟩ := h1
    have h3 := hR.length_eq
    rw [List.length_append, List.length_map] at h3
    rw [levS_zero]
    refine ⟨by show t ≤ base.length; omega, ?_⟩
    unfold sumF
    rw [List.map_take]
    exact h2
  | k + 1, S, hS, t, ht => by
    rw [levS_succ] at ht
    obtain ⟨s, hs⟩ : ∃ s, s = (S (k + 1)).length := ⟨_, rfl⟩
    rw [← hs] at ht
    have h1 : 2 * (t - s) * 2 ^ k ≤ levS k (fun j => 2 ^ j * (S j).length) := by
      have e : 2 * (t - s) * 2 ^ k = t * 2 ^ (k + 1) - 2 ^ (k + 1) * s := by
        rw [Nat.mul_comm (2 ^ (k + 1)) s, ← Nat.sub_mul, Nat.pow_succ, Nat.mul_comm 2 (t - s), Nat.mul_assoc, Nat.mul_comm 2 (2 ^ k)]
      omega
    obtain ⟨h2, h3⟩ := lowerL h k S (fun j hj => hS j (by omega)) _ h1
    obtain ⟨R, hR⟩ := hS (k + 1) (Nat.le_refl _)
    have hpl := pairsP_len (rounds base k)
    have hQ : SubM (S (k + 1) ++ ((pairsP (rounds base k)).take (t - s)).map (·.1)) ((rounds base (k + 1)).map (·.1)) := by
      refine ⟨R ++ ((pairsP (rounds base k)).drop (t - s)).map (·.1), ?_⟩
      have e1 : ((rounds base (k + 1)).map (·.1)).Perm (base.map (·.1) ++ (pairsP (rounds base k)).map (·.1)) := by
        rw [← List.map_append]
        exact (mergeBy_perm _ _ _).map _
      refine List.Perm.trans ?_ e1.symm
      have e2 : (pairsP (rounds base k)).map (·.1) = ((pairsP (rounds base k)).take (t - s)).map (·.1) ++ ((pairsP (rounds base k)).drop (t - s)).map (·.1) := by
        rw [← List.map_append, List.take_append_drop]
      rw [e2]
      refine List.Perm.trans ?_ (hR.append_right _)
      generalize ((pairsP (rounds base k)).take (t - s)).map (·.1) = X
      generalize ((pairsP (rounds base k)).drop (t - s)).map (·.1) = Y
      rw [List.append_assoc, List.append_assoc]
      refine List.Perm.append_left _ ?_
      rw [← List.append_assoc, ← List.append_assoc]
      exact List.Perm.append_right _ List.perm_append_comm
    have hQl : (S (k + 1) ++ ((pairsP (rounds base k)).take (t - s)).map (·.1)).length = s + (t - s) := by
      rw [List.length_append, List.length_map, List.length_take, hpl, ← hs, Nat.min_eq_left (by omega)]
    have h4 := minSum _ _ t (up2_map (rounds_up h (k + 1))) hQ (by rw [hQl]; omega)
    have h5 : t ≤ (rounds base (k + 1)).length := by
      obtain ⟨R', hR'⟩ := hQ
      have := hR'.length_eq
      rw [List.length_append, hQl, List.length_map] at this
      omega
    refine ⟨h5, ?_⟩
    rw [levS_succ]
    rw [List.sum_append] at h4
    have h6 := pairsP_sum addi_fst (t - s) (rounds base k) h2
    unfold sumF at h3 h6 ⊢
    rw [List.map_take]
    omega
/-! ### Sums over levelsL and symbols -/
theorem levS_add (k : Nat) (f g : Nat → Nat) : levS k (fun j => f j + g j) = levS k f + levS k g := by
  induction k with
  | zero => simp [levS_zero]
  | succ k ih => rw [levS_succ, levS_succ, levS_succ, ih]; omega
theorem levS_none {k : Nat} {f : Nat → Nat} (h : ∀ j, j ≤ k → f j = 0) : levS k f = 0 := by
  induction k with
  | zero => rw [levS_zero]; exact h 0 (Nat.le_refl _)
  | succ k ih => rw [levS_succ, ih (fun j hj => h j (by omega)), h (k + 1) (Nat.le_refl _)]
theorem levS_mono {k : Nat} {f g : Nat → Nat} (h : ∀ j, j ≤ k → f j ≤ g j) : levS k f ≤ levS k g := by
  induction k with
  | zero => rw [levS_zero, levS_zero]; exact h 0 (Nat.le_refl _)
  | succ k ih => rw [levS_succ, levS_succ]; have := ih (fun j hj => h j (by omega)); have := h (k + 1) (Nat.le_refl _); omega
theorem levS_mul (k c : Nat) (f : Nat → Nat) : levS k (fun j => c * f j) = c * levS k f := by
  induction k with
  | zero => rw [levS_zero, levS_zero]
  | succ k ih => rw [levS_succ, levS_succ, ih, Nat.mul_add]
theorem levS_swap {α : Type} (k : Nat) (h : Nat → α → Nat) : ∀ l : List α, levS k (fun j => (l.map (h j)).sum) = (l.map (fun p => levS k (fun j => h j p))).sum
  | [] => by simp only [List.map_nil, List.sum_nil]; exact levS_none fun _ _ => rfl
  | a :: l => by
    simp only [List.map_cons, List.sum_cons]
    rw [levS_add, levS_swap k h l]
theorem lev_pow (k d : Nat) (hd : d ≤ k + 1) : levS k (fun j => if d ≤ j then 2 ^ j else 0) + 2 ^ d = 2 ^ (k + 1) := by
  induction k with
  | zero =>
    rw [levS_zero]
    match d, hd with
    | 0, _ => rfl
    | 1, _ => rfl
  | succ k ih =>
    rw [levS_succ]
    by_cases h : d ≤ k + 1
    · rw [if_pos h]; have := ih h; rw [Nat.pow_succ 2 (k + 1)]; omega
    · obtain rfl : d = k + 2 := by omega
      rw [if_neg (by omega), levS_none (fun j hj => if_neg (by omega))]
      simp
theorem lev_cnt (k d : Nat) (hd : d ≤ k + 1) : levS k (fun j => if d ≤ j then 1 else 0) = k + 1 - d := by
  induction k with
  | zero =>
    rw [levS_zero]
    match d, hd with
    | 0, _ => rfl
    | 1, _ => rfl
  | succ k ih =>
    rw [levS_succ]
    by_cases h : d ≤ k + 1
    · rw [if_pos h, ih h]; omega
    · obtain rfl : d = k + 2 := by omega
      rw [if_neg (by omega), levS_none (fun j hj => if_neg (by omega))]
      omega
theorem filter_sum {α : Type} (P : α → Bool) (g : α → Nat) : ∀ l : List α, ((l.filter P).map g).sum = (l.map (fun p => if P p then g p else 0)).sum
  | [] => rfl
  | a :: l => by
    rw [List.filter_cons, List.map_cons, List.sum_cons, ← filter_sum P g l]
    split <;> simp
theorem const_sum {α : Type} (c : Nat) : ∀ l : List α, (l.map (fun _ => c)).sum = l.length * c
  | [] => by simp
  | a :: l => by rw [List.map_cons, List.sum_cons, const_sum c l, List.length_cons, Nat.succ_mul]; omega
theorem sum_add {α : Type} (f g : α → Nat) : ∀ l : List α, (l.map (fun p => f p + g p)).sum = (l.map f).sum + (l.map g).sum
  | [] => rfl
  | a :: l => by rw [List.map_cons, List.sum_cons, sum_add f g l]; simp only [List.map_cons, List.sum_cons]; omega
theorem sum_congr {α : Type} {f g : α → Nat} {l : List α} (h : ∀ p ∈ l, f p = g p) : (l.map f).sum = (l.map g).sum := by rw [List.map_congr_left h]
/-! ### The lengths -/
def coinOf (p : Nat × Nat) : Coin := (p.1, [p.2])
/-- How often a symbol is in some coins. -/
def cntX (x : Nat) (c : Coin) : Nat := c.2.count x
theorem addi_cnt (x : Nat) : Addi (cntX x) := ⟨fun a b => by simp [cntX, List.count_append]⟩
def lenP (bs : List (Nat × Nat)) (L x : Nat) : Nat := sumF (cntX x) ((rounds (bs.map coinOf) (L - 1)).take (2 * bs.length - 2))
theorem cnt_take (bs : List (Nat × Nat)) (hd : (bs.map (·.2)).Nodup) (s i : Nat) (p : Nat × Nat) (hp : bs[i]? = some p) : sumF (cntX p.2) ((bs.map coinOf).take s) = if i < s then 1 else 0 := by
  induction bs generalizing s i with
  | nil => simp at hp
  | cons b bs ih =>
    rw [List.map_cons] at hd
    have hd' := List.nodup_cons.1 hd
    cases s with
    | zero => simp [sumF]
    | succ s =>
      rw [List.map_cons, List.take_succ_cons]
      show cntX p.2 (coinOf b) + sumF (cntX p.2) ((bs.map coinOf).take s) = _
      cases i with
      | zero =>
        simp at hp
        subst hp
        have h0 : sumF (cntX b.2) ((bs.map coinOf).take s) = 0 := by
          unfold sumF
          rw [List.sum_eq_zero_iff_forall_eq_nat]
          intro y hy
          obtain ⟨c, hc, rfl⟩ := List.mem_map.1 hy
          obtain ⟨q, hq, rfl⟩ := List.mem_map.1 (List.mem_of_mem_take hc)
          have : q.2 ≠ b.2 := fun e => hd'.1 (by rw [← e]; exact List.mem_map_of_mem hq)
          simp [cntX, coinOf, this]
        rw [h0, if_pos (by omega)]
        simp [cntX, coinOf]
      | succ i =>
        rw [List.getElem?_cons_succ] at hp
        rw [ih hd'.2 s i hp]
        have : b.2 ≠ p.2 := fun e => hd'.1 (by rw [e]; exact List.mem_map_of_mem (List.mem_of_getElem? hp))
        have h0 : cntX p.2 (coinOf b) = 0 := by simp [cntX, coinOf, this]
        rw [h0, Nat.zero_add]
        by_cases h : i < s
        · rw [if_pos h, if_pos (by omega)]
        · rw [if_neg h, if_neg (by omega)]
theorem cut_of {s : Nat → Nat} {k : Nat} (hm : ∀ i j, i ≤ j → j ≤ k → s i ≤ s j) (i : Nat) : ∃ d, d ≤ k + 1 ∧ ∀ j, j ≤ k → (i < s j ↔ d ≤ j) := by
  induction k with
  | zero =>
    by_cases h : i < s 0
    · exact ⟨0, by omega, fun j hj => by obtain rfl : j = 0 := by omega
                                         simp [h]⟩
    · exact ⟨1, by omega, fun j hj => by obtain rfl : j = 0 := by omega
                                         simp [h]⟩
  | succ k ih =>
    obtain ⟨d, hd, he⟩ := ih (fun i j h1 h2 => hm i j h1 (by omega))
    by_cases h : i < s (k + 1)
    · refine ⟨d, by omega, fun j hj => ?_⟩
      by_cases hj' : j ≤ k
      · exact he j hj'
      · obtain rfl : j = k + 1 := by omega
        simp [h, hd]
    · refine ⟨k + 2, by omega, fun j hj => ?_⟩
      by_cases hj' : j ≤ k
      · have := hm j (k + 1) (by omega) (Nat.le_refl _)
        constructor
        · intro h1; omega
        · intro h1; omega
      · obtain rfl : j = k + 1 := by omega
        constructor
        · intro h1; exact absurd h1 h
        · intro h1; omega
/-- What is so of the lengths. -/
structure Good (bs : List (Nat × Nat)) (L : Nat) : Prop where
  rng : ∀ p ∈ bs, 1 ≤ lenP bs L p.2 ∧ lenP bs L p.2 ≤ L
  kraft : (bs.map (fun p => 2 ^ (L - lenP bs L p.2))).sum = 2 ^ L
  cost : (bs.map (fun p => p.1 * lenP bs L p.2)).sum = sumF (·.1) ((rounds (bs.map coinOf) (L - 1)).take (2 * bs.length - 2))
theorem get_range {α : Type} (l : List α) (f : α → Nat) (g : Nat → Nat) (h : ∀ i p, l[i]? = some p → f p = g i) : (l.map f).sum = ((List.range l.length).map g).sum := by
  congr 1
  apply List.ext_getElem
  · simp
  · intro i h1 h2
    simp only [List.getElem_map, List.getElem_range]
    simp at h1
    exact h i _ (List.getElem?_eq_getElem h1)
theorem range_lt (n s : Nat) (h : s ≤ n) (c : Nat) : ((List.range n).map (fun i => if i < s then c else 0)).sum = c * s := by
  induction n with
  | zero => obtain rfl : s = 0 := by omega
            simp
  | succ n ih =>
    rw [List.range_succ, List.map_append, List.sum_append]
    simp only [List.map_cons, List.map_nil, List.sum_cons, List.sum_nil, Nat.add_zero]
    by_cases hs : s ≤ n
    · rw [ih hs, if_neg (by omega)]; rfl
    · obtain rfl : s = n + 1 := by omega
      rw [if_pos (by omega)]
      have e : ((List.range n).map (fun i => if i < n + 1 then c else 0)).sum = ((List.range n).map (fun _ => c)).sum := by
        congr 1
        refine List.map_congr_left fun i hi => ?_
        have := List.mem_range.1 hi
        rw [if_pos (by omega)]
      rw [e, const_sum, List.length_range, Nat.mul_succ, Nat.mul_comm]
theorem take_sum (bs : List (Nat × Nat)) (n : Nat) (hn : n = bs.length) (s : Nat) (hs : s ≤ n) : sumF (·.1) ((bs.map coinOf).take s) = ((List.range n).map (fun i => if i < s then (bs.getD i (0, 0)).1 else 0)).sum := by
  subst hn
  induction bs generalizing s with
  | nil => simp [sumF]
  | cons b bs ih =>
    rw [List.length_cons, List.range_succ_eq_map]
    simp only [List.map_cons, List.sum_cons, List.map_map]
    cases s with
    | zero =>
      have h9 := ih 0 (Nat.zero_le _)
      simp only [List.take_zero] at h9 ⊢
      rw [if_neg (by omega), h9, Nat.zero_add]
      congr 1
    | succ s =>
      rw [List.take_succ_cons, if_pos (by omega)]
      show (coinOf b).1 + sumF (·.1) ((bs.map coinOf).take s) = _
      rw [ih s (by simpa using hs)]
      congr 1
      congr 1
      refine List.map_congr_left fun i _ => ?_
      simp
theorem goodL {bs : List (Nat × Nat)} {L : Nat} (hu : Up2 (·.1) bs) (hd : (bs.map (·.2)).Nodup) (hL : 1 ≤ L) (h2 : 2 ≤ bs.length) (hn : bs.length ≤ 2 ^ L) : Good bs L := by
  obtain ⟨k, rfl⟩ : ∃ k, L = k + 1 := ⟨L - 1, by omega⟩
  have hbl : (bs.map coinOf).length = bs.length := List.length_map ..
  have hub : Up2 (·.1) (bs.map coinOf) := by unfold Up2; rw [List.pairwise_map]; exact hu
  obtain ⟨n, hn'⟩ : ∃ n, n = bs.length := ⟨_, rfl⟩
  have ht := rounds_2n (bs.map coinOf) k (by omega) (by rw [hbl]; exact hn)
  rw [hbl] at ht
  obtain ⟨s, hs⟩ := levelsL hub k _ ht
  have hsn : ∀ j, j ≤ k → s j ≤ n := fun j hj => by rw [hn', ← hbl]; exact hs.le j hj
  have htop : s k = n := by
    rcases Nat.lt_or_ge (s k) n with h9 | h9
    · exfalso
      have h1 : levS k (fun j => 2 ^ j * s j) ≤ levS k (fun j => (n - 1) * 2 ^ j) := levS_mono fun j hj => by
        rw [Nat.mul_comm]
        exact Nat.mul_le_mul_right _ (by have := hs.mono j k hj (Nat.le_refl _); omega)
      rw [hs.width, levS_mul k (n - 1) (fun j => 2 ^ j)] at h1
      have h3 : levS k (fun j => 2 ^ j) + 1 = 2 ^ (k + 1) := by
        have := lev_pow k 0 (by omega)
        simpa using this
      have h4 : (2 * bs.length - 2) * 2 ^ k = (n - 1) * 2 ^ (k + 1) := by
        rw [← hn', Nat.pow_succ, show 2 * n - 2 = (n - 1) * 2 by omega, Nat.mul_assoc, Nat.mul_comm 2]
      rw [h4, ← h3, Nat.mul_add] at h1
      omega
    · have := hsn k (Nat.le_refl _); omega
  -- the length of the i-th
  have hlen : ∀ i p, bs[i]? = some p → lenP bs (k + 1) p.2 = levS k (fun j => if i < s j then 1 else 0) := fun i p hp => by
    unfold lenP
    rw [Nat.add_sub_cancel, hs.sum _ (addi_cnt p.2)]
    exact levS_congr fun j _ => cnt_take bs hd (s j) i p hp
  have hcut := fun i => cut_of hs.mono i
  have hl2 : ∀ i p, bs[i]? = some p → ∃ d, d ≤ k + 1 ∧ (∀ j, j ≤ k → (i < s j ↔ d ≤ j)) ∧ lenP bs (k + 1) p.2 = k + 1 - d := fun i p hp => by
    obtain ⟨d, h1, h3⟩ := hcut i
    refine ⟨d, h1, h3, ?_⟩
    rw [hlen i p hp, ← lev_cnt k d h1]
    exact levS_congr fun j hj => by simp only [h3 j hj]
  refine ⟨fun p hp => ?_, ?_, ?_⟩
  · obtain ⟨i, hi, e⟩ := List.getElem_of_mem hp
    obtain ⟨d, h1, h3, h4⟩ := hl2 i p (by rw [List.getElem?_eq_getElem hi, e])
    have := (h3 k (Nat.le_refl _)).1 (by omega)
    omega
  · have e1 : (bs.map (fun p => 2 ^ (k + 1 - lenP bs (k + 1) p.2))).sum + levS k (fun j => 2 ^ j * s j) = n * 2 ^ (k + 1) := by
      have e2 : levS k (fun j => 2 ^ j * s j) = levS k (fun j => ((List.range n).map (fun i => if i < s j then 2 ^ j else 0)).sum) := levS_congr fun j hj => (range_lt n (s j) (hsn j hj) (2 ^ j)).symm
      rw [e2, levS_swap, hn']
      obtain ⟨G, hG⟩ : ∃ G : Nat → Nat, ∀ i p, bs[i]? = some p → 2 ^ (k + 1 - lenP bs (k + 1) p.2) = G i := ⟨fun i => 2 ^ (k + 1 - levS k (fun j => if i < s j then 1 else 0)), fun i p hp => by rw [hlen i p hp]⟩
      rw [get_range bs _ G hG, ← sum_add]
      have e3 : ((List.range bs.length).map (fun i => G i + levS k (fun j => if i < s j then 2 ^ j else 0))).sum = ((List.range bs.length).map (fun _ => 2 ^ (k + 1))).sum := by
        refine sum_congr fun i hi => ?_
        have hi := List.mem_range.1 hi
        obtain ⟨d, h1, h3, h4⟩ := hl2 i _ (List.getElem?_eq_getElem hi)
        rw [← hG i _ (List.getElem?_eq_getElem hi), h4, show k + 1 - (k + 1 - d) = d by omega, Nat.add_comm, ← lev_pow k d h1]
        congr 1
        exact levS_congr fun j hj => by simp only [h3 j hj]
      rw [e3, const_sum, List.length_range]
    rw [hs.width] at e1
    have h4 : (2 * bs.length - 2) * 2 ^ k = (n - 1) * 2 ^ (k + 1) := by
      rw [← hn', Nat.pow_succ, show 2 * n - 2 = (n - 1) * 2 by omega, Nat.mul_assoc, Nat.mul_comm 2]
    rw [h4] at e1
    have h5 : n * 2 ^ (k + 1) = (n - 1) * 2 ^ (k + 1) + 2 ^ (k + 1) := by
      rw [← Nat.succ_mul]; congr 1; omega
    omega
  · rw [Nat.add_sub_cancel, hs.sum _ addi_fst]
    have e1 : levS k (fun j => sumF (·.1) ((bs.map coinOf).take (s j))) = levS k (fun j => ((List.range n).map (fun i => if i < s j then (bs.getD i (0, 0)).1 else 0)).sum) := levS_congr fun j hj => take_sum bs n hn' (s j) (hsn j hj)
    rw [e1, levS_swap, hn']
    refine get_range bs _ _ fun i p hp => ?_
    rw [hlen i p hp]
    have e2 : bs.getD i (0, 0) = p := by simp [List.getD_eq_getElem?_getD, hp]
    rw [e2, ← levS_mul]
    exact levS_congr fun j _ => by split <;> simp
/-- No lengths that may be cost less. -/
theorem bestL {bs : List (Nat × Nat)} {L : Nat} (hu : Up2 (·.1) bs) (hd : (bs.map (·.2)).Nodup) (hL : 1 ≤ L) (h2 : 2 ≤ bs.length) (hn : bs.length ≤ 2 ^ L) (o : Nat → Nat) (ho : ∀ p ∈ bs, 1 ≤ o p.2 ∧ o p.2 ≤ L) (hk : (bs.map (fun p => 2 ^ (L - o p.2))).sum ≤ 2 ^ L) :
    (bs.map (fun p => p.1 * lenP bs L p.2)).sum ≤ (bs.map (fun p => p.1 * o p.2)).sum := by
  rw [(goodL hu hd hL h2 hn).cost]
  obtain ⟨k, rfl⟩ : ∃ k, L = k + 1 := ⟨L - 1, by omega⟩
  rw [Nat.add_sub_cancel]
  have hub : Up2 (·.1) (bs.map coinOf) := by unfold Up2; rw [List.pairwise_map]; exact hu
  have h1 := lowerL hub k (fun j => (bs.filter (fun p => decide (k + 1 - o p.2 ≤ j))).map (·.1)) (fun j _ => ?_) (2 * bs.length - 2) ?_
  · refine Nat.le_trans h1.2 (Nat.le_of_eq ?_)
    have e1 : levS k (fun j => ((bs.filter (fun p => decide (k + 1 - o p.2 ≤ j))).map (·.1)).sum) = levS k (fun j => (bs.map (fun p => if k + 1 - o p.2 ≤ j then p.1 else 0)).sum) := levS_congr fun j _ => by
      rw [filter_sum]
      refine sum_congr fun p _ => ?_
      simp
    rw [e1, levS_swap]
    refine sum_congr fun p hp => ?_
    have h3 := ho p hp
    have h4 := lev_cnt k (k + 1 - o p.2) (by omega)
    rw [show p.1 * o p.2 = p.1 * (k + 1 - (k + 1 - o p.2)) by congr 1; omega, ← h4, ← levS_mul]
    exact levS_congr fun j _ => by split <;> simp
  · refine ⟨(bs.filter (fun p => !decide (k + 1 - o p.2 ≤ j))).map (·.1), ?_⟩
    rw [← List.map_append, List.map_map]
    exact (List.filter_append_perm _ bs).map _
  · have e1 : levS k (fun j => 2 ^ j * ((bs.filter (fun p => decide (k + 1 - o p.2 ≤ j))).map (·.1)).length) = levS k (fun j => (bs.map (fun p => if k + 1 - o p.2 ≤ j then 2 ^ j else 0)).sum) := levS_congr fun j _ => by
      have e2 := filter_sum (fun p : Nat × Nat => decide (k + 1 - o p.2 ≤ j)) (fun _ => 2 ^ j) bs
      rw [const_sum] at e2
      rw [List.length_map, Nat.mul_comm, e2]
      refine sum_congr fun p _ => ?_
      simp
    rw [e1, levS_swap]
    have e3 : (bs.map (fun p => levS k (fun j => if k + 1 - o p.2 ≤ j then 2 ^ j else 0))).sum + (bs.map (fun p => 2 ^ (k + 1 - o p.2))).sum = bs.length * 2 ^ (k + 1) := by
      rw [← sum_add, ← const_sum]
      refine sum_congr fun p hp => ?_
      exact lev_pow k (k + 1 - o p.2) (by omega)
    have h4 : (2 * bs.length - 2) * 2 ^ k + 2 ^ (k + 1) = bs.length * 2 ^ (k + 1) := by
      rw [Nat.pow_succ, show 2 * bs.length - 2 = (bs.length - 1) * 2 by omega, Nat.mul_assoc, Nat.mul_comm 2, ← Nat.succ_mul]
      congr 1; omega
    omega
/-! ### Sorted ones are one -/
def Lex (a b : Nat × Nat) : Prop := a.1 < b.1 ∨ (a.1 = b.1 ∧ a.2 < b.2)
theorem lex_ext : ∀ (l l' : List (Nat × Nat)), l.Pairwise Lex → l'.Pairwise Lex → l.Perm l' → l = l'
  | [], l', _, _, h => (List.nil_perm.1 h).symm ▸ rfl
  | x :: r, [], _, _, h => by have := h.length_eq; simp at this
  | x :: r, y :: s, h1, h2, h => by
    rw [List.pairwise_cons] at h1 h2
    have hxy : x = y := by
      have a1 : x ∈ y :: s := h.mem_iff.1 (List.mem_cons_self ..)
      have a2 : y ∈ x :: r := h.mem_iff.2 (List.mem_cons_self ..)
      rcases List.mem_cons.1 a1 with e | e
      · exact e
      · rcases List.mem_cons.1 a2 with e2 | e2
        · exact e2.symm
        · have g1 := h2.1 x e
          have g2 := h1.1 y e2
          unfold Lex at g1 g2
          omega
    subst hxy
    rw [lex_ext r s h1.2 h2.2 h.cons_inv]
/-- One put in its place. -/
def insB (x : Nat × Nat) : List (Nat × Nat) → List (Nat × Nat)
  | [] => [x]
  | a :: l => if a.1 ≤ x.1 then a :: insB x l else x :: a :: l
theorem insB_perm (x : Nat × Nat) : ∀ l, (insB x l).Perm (x :: l)
  | [] => List.Perm.refl _
  | a :: l => by
    unfold insB
    split
    · exact ((insB_perm x l).cons a).trans (List.Perm.swap ..)
    · exact List.Perm.refl _
theorem insB_lex {x : Nat × Nat} : ∀ {l}, l.Pairwise Lex → (∀ a ∈ l, a.2 < x.2) → (insB x l).Pairwise Lex
  | [], _, _ => by simp [insB]
  | a :: l, h, hx => by
    have h' := List.pairwise_cons.1 h
    have ha := hx a (List.mem_cons_self ..)
    unfold insB
    split
    · rename_i hle
      refine List.pairwise_cons.2 ⟨fun y hy => ?_, insB_lex h'.2 fun b hb => hx b (List.mem_cons_of_mem _ hb)⟩
      rcases List.mem_cons.1 ((insB_perm x l).mem_iff.1 hy) with rfl | hy
      · unfold Lex; omega
      · exact h'.1 y hy
    · rename_i hgt
      refine List.pairwise_cons.2 ⟨fun y hy => ?_, h⟩
      rcases List.mem_cons.1 hy with rfl | hy
      · unfold Lex; omega
      · have := h'.1 y hy
        unfold Lex at *; omega
/-- The symbols that come, in their order. -/
def comers : Nat → List Int → List (Nat × Nat)
  | _, [] => []
  | i, x :: r => if 0 < x then (x.toNat, i) :: comers (i + 1) r else comers (i + 1) r
theorem comers_ge : ∀ (l : List Int) (i : Nat), ∀ p ∈ comers i l, i ≤ p.2 ∧ p.2 < i + l.length ∧ (p.1 : Int) = l.getD (p.2 - i) 0 ∧ 0 < p.1
  | [], i, p, hp => by simp [comers] at hp
  | x :: r, i, p, hp => by
    have ih := comers_ge r (i + 1) p
    have step : p ∈ comers (i + 1) r → i ≤ p.2 ∧ p.2 < i + (x :: r).length ∧ (p.1 : Int) = (x :: r).getD (p.2 - i) 0 ∧ 0 < p.1 := fun h => by
      obtain ⟨h1, h2, h3, h4⟩ := ih h
      refine ⟨by omega, by simp; omega, ?_, h4⟩
      rw [show p.2 - i = p.2 - (i + 1) + 1 by omega, List.getD_cons_succ]
      exact h3
    unfold comers at hp
    split at hp
    · rcases List.mem_cons.1 hp with rfl | hp
      · simp; omega
      · exact step hp
    · exact step hp
theorem comers_all : ∀ (l : List Int) (i x : Nat), x < l.length → 0 < l.getD x 0 → ((l.getD x 0).toNat, i + x) ∈ comers i l
  | [], i, x, hx, _ => by simp at hx
  | a :: r, i, 0, _, h => by
    simp at h
    simp [comers, h]
  | a :: r, i, x + 1, hx, h => by
    have ih := comers_all r (i + 1) x (by simpa using hx) (by simpa using h)
    rw [List.getD_cons_succ, show i + (x + 1) = i + 1 + x by omega]
    unfold comers
    split
    · exact List.mem_cons_of_mem _ ih
    · exact ih
theorem comers_asc : ∀ (l : List Int) (i : Nat), (comers i l).Pairwise (fun a b => a.2 < b.2)
  | [], i => by simp [comers]
  | x :: r, i => by
    unfold comers
    split
    · exact List.pairwise_cons.2 ⟨fun p hp => by have := comers_ge r (i + 1) p hp; simp only; omega, comers_asc r (i + 1)⟩
    · exact comers_asc r (i + 1)
theorem comers_append : ∀ (l m : List Int) (i : Nat), comers i (l ++ m) = comers i l ++ comers (i + l.length) m
  | [], m, i => by simp [comers]
  | x :: r, m, i => by
    rw [List.cons_append, comers, comers, comers_append r m (i + 1), List.length_cons, show i + 1 + r.length = i + (r.length + 1) by omega]
    split <;> rfl
theorem comers_len : ∀ (l : List Int) (i : Nat), (comers i l).length ≤ l.length
  | [], i => by simp [comers]
  | x :: r, i => by
    have := comers_len r (i + 1)
    unfold comers
    split <;> simp <;> omega
/-- The coins of the first round: stably sorted. -/
def baseP (often : List Int) : List (Nat × Nat) := (comers 0 often).foldl (fun l x => insB x l) []
theorem fold_ins : ∀ (c l : List (Nat × Nat)), l.Pairwise Lex → c.Pairwise (fun a b => a.2 < b.2) → (∀ a ∈ l, ∀ x ∈ c, a.2 < x.2) → (c.foldl (fun l x => insB x l) l).Pairwise Lex ∧ (c.foldl (fun l x => insB x l) l).Perm (l ++ c)
  | [], l, h, _, _ => ⟨h, by simp⟩
  | x :: c, l, h, hc, hlt => by
    have hc' := List.pairwise_cons.1 hc
    rw [List.foldl_cons]
    obtain ⟨h1, h2⟩ := fold_ins c (insB x l) (insB_lex h fun a ha => hlt a ha x (List.mem_cons_self ..)) hc'.2 fun a ha y hy => by
      rcases List.mem_cons.1 ((insB_perm x l).mem_iff.1 ha) with rfl | ha
      · exact hc'.1 y hy
      · exact hlt a ha y (List.mem_cons_of_mem _ hy)
    exact ⟨h1, h2.trans (((insB_perm x l).append_right c).trans List.perm_middle.symm)⟩
theorem baseP_lex (often : List Int) : (baseP often).Pairwise Lex := (fold_ins _ [] (List.Pairwise.nil) (comers_asc _ _) (fun a ha => by cases ha)).1
theorem baseP_perm (often : List Int) : (baseP often).Perm (comers 0 often) := (fold_ins _ [] (List.Pairwise.nil) (comers_asc _ _) (fun a ha => by cases ha)).2
theorem baseP_only {often : List Int} {l : List (Nat × Nat)} (h : l.Pairwise Lex) (hp : l.Perm (comers 0 often)) : l = baseP often := lex_ext _ _ h (baseP_lex often) (hp.trans (baseP_perm often).symm)
theorem baseP_up (often : List Int) : Up2 (·.1) (baseP often) := (baseP_lex often).imp fun {a b} h => by unfold Lex at h; show a.1 ≤ b.1; omega
theorem baseP_nodup (often : List Int) : ((baseP often).map (·.2)).Nodup := by
  refine ((baseP_perm often).map (·.2)).nodup_iff.2 ?_
  unfold List.Nodup
  rw [List.pairwise_map]
  exact (comers_asc often 0).imp fun h => by omega
/-! ### The answer -/
def sumPos : List Int → Int → Option Int
  | [], s => some s
  | x :: r, s => if 1099511627776 - s < x then none else sumPos r (s + x)
/-- What is wrong with numbers: 0, 2 or 3. -/
def wrongP (often : List Int) (most : Int) : Int :=
  if most < 1 ∨ 20 < most ∨ 65536 < often.length ∨ often.any (fun x => decide (x < 0)) = true then 2
  else if (sumPos often 0).isNone then 3 else 0
def lensP (often : List Int) (L : Nat) : List Int := (List.range often.length).map fun x => ((if (baseP often).length < 2 then cntX x (0, (baseP often).map (·.2)) else lenP (baseP often) L x : Nat) : Int)
def limP (often : List Int) (most : Int) : List Int × Int :=
  if wrongP often most ≠ 0 then ([], wrongP often most)
  else if 2 ^ most.toNat < (baseP often).length then ([], 13)
  else (lensP often most.toNat, 0)
theorem rounds_sum {F : Coin → Nat} (hF : Addi F) (base : List Coin) : ∀ k, sumF F (rounds base k) ≤ (k + 1) * sumF F base
  | 0 => by simp [rounds]
  | k + 1 => by
    have ih := rounds_sum hF base k
    have h1 : sumF F (rounds base (k + 1)) = sumF F base + sumF F (pairsP (rounds base k)) := by
      rw [rounds, sumF_perm F (mergeBy_perm _ _ _), sumF_append]
    have h2 : sumF F (pairsP (rounds base k)) ≤ sumF F (rounds base k) := by
      have h3 := pairsP_sum hF (pairsP (rounds base k)).length (rounds base k) (by rw [pairsP_len]; omega)
      rw [List.take_length] at h3
      rw [h3]
      have h4 : sumF F (rounds base k) = sumF F ((rounds base k).take (2 * (pairsP (rounds base k)).length)) + sumF F ((rounds base k).drop (2 * (pairsP (rounds base k)).length)) := by
        rw [← sumF_append, List.take_append_drop]
      omega
    rw [h1, show (k + 1 + 1) * sumF F base = sumF F base + (k + 1) * sumF F base by rw [Nat.succ_mul]; omega]
    omega
theorem sumF_mem {F : Coin → Nat} : ∀ {l : List Coin} {c : Coin}, c ∈ l → F c ≤ sumF F l
  | a :: l, c, h => by
    have e : sumF F (a :: l) = F a + sumF F l := by simp [sumF]
    rw [e]
    rcases List.mem_cons.1 h with rfl | h
    · omega
    · have := sumF_mem (F := F) h; omega
theorem sumF_take (F : Coin → Nat) (l : List Coin) (t : Nat) : sumF F (l.take t) ≤ sumF F l := by
  have h4 : sumF F l = sumF F (l.take t) + sumF F (l.drop t) := by rw [← sumF_append, List.take_append_drop]
  omega
theorem rounds_le (base : List Coin) : ∀ k, (rounds base k).length ≤ 2 * base.length
  | 0 => by simp [rounds]; omega
  | k + 1 => by rw [rounds_len]; have := rounds_le base k; omega
theorem addi_len : Addi (fun c => c.2.length) := ⟨fun a b => by simp⟩
theorem pairsP_syms (P : Nat → Prop) : ∀ l : List Coin, (∀ c ∈ l, ∀ s ∈ c.2, P s) → ∀ c ∈ pairsP l, ∀ s ∈ c.2, P s
  | [], _ => by simp [pairsP]
  | [_], _ => by simp [pairsP]
  | a :: b :: r, h => by
    intro c hc s hs
    rw [pairsP] at hc
    rcases List.mem_cons.1 hc with rfl | hc
    · rcases List.mem_append.1 hs with hs | hs
      · exact h a (by simp) s hs
      · exact h b (by simp) s hs
    · exact pairsP_syms P r (fun c hc => h c (by simp [hc])) c hc s hs
theorem rounds_syms (P : Nat → Prop) (base : List Coin) (h : ∀ c ∈ base, ∀ s ∈ c.2, P s) : ∀ k, ∀ c ∈ rounds base k, ∀ s ∈ c.2, P s
  | 0 => h
  | k + 1 => by
    intro c hc s hs
    rw [rounds] at hc
    rcases List.mem_append.1 ((mergeBy_perm _ _ _).mem_iff.1 hc) with hc | hc
    · exact h c hc s hs
    · exact pairsP_syms P _ (rounds_syms P base h k) c hc s hs
theorem sumF_flat (x : Nat) : ∀ l : List Coin, sumF (cntX x) l = (l.flatMap (·.2)).count x
  | [] => rfl
  | a :: l => by
    have e : sumF (cntX x) (a :: l) = cntX x a + sumF (cntX x) l := by simp [sumF]
    rw [e, sumF_flat x l, List.flatMap_cons, List.count_append]
    rfl
theorem flat_len : ∀ l : List Coin, (l.flatMap (·.2)).length = sumF (fun c => c.2.length) l
  | [] => rfl
  | a :: l => by
    have e : sumF (fun c : Coin => c.2.length) (a :: l) = a.2.length + sumF (fun c => c.2.length) l := by simp [sumF]
    rw [e, ← flat_len l, List.flatMap_cons, List.length_append]
theorem sumPos_bd : ∀ (xs : List Int) (s t : Int), (∀ x ∈ xs, 0 ≤ x) → 0 ≤ s → s ≤ 1099511627776 → sumPos xs s = some t → s ≤ t ∧ t ≤ 1099511627776 ∧ t = s + xs.sum
  | [], s, t, _, _, h2, h => by injection h with h; subst h; simp; exact h2
  | x :: r, s, t, hx, h1, h2, h => by
    have h0 := hx x (List.mem_cons_self ..)
    unfold sumPos at h
    split at h
    · cases h
    · have := sumPos_bd r (s + x) t (fun y hy => hx y (List.mem_cons_of_mem _ hy)) (by omega) (by omega) h
      rw [List.sum_cons]; omega
theorem comers_sum : ∀ (xs : List Int) (i : Nat), (∀ x ∈ xs, 0 ≤ x) → (((comers i xs).map (·.1)).sum : Nat) = xs.sum
  | [], i, _ => rfl
  | x :: r, i, h => by
    have h0 := h x (List.mem_cons_self ..)
    have ih := comers_sum r (i + 1) fun y hy => h y (List.mem_cons_of_mem _ hy)
    unfold comers
    rw [List.sum_cons]
    split
    · rw [List.map_cons, List.sum_cons]; omega
    · omega
theorem baseP_sum (xs : List Int) (h : ∀ x ∈ xs, 0 ≤ x) : ((sumF (·.1) ((baseP xs).map coinOf) : Nat) : Int) = xs.sum := by
  rw [← comers_sum xs 0 h]
  congr 1
  unfold sumF
  rw [List.map_map]
  exact ((baseP_perm xs).map _).sum_nat
theorem baseP_len (xs : List Int) : (baseP xs).length ≤ xs.length := by
  rw [(baseP_perm xs).length_eq]; exact comers_len xs 0
theorem baseP_mem {xs : List Int} {p : Nat × Nat} (h : p ∈ baseP xs) : p.2 < xs.length ∧ (p.1 : Int) = xs.getD p.2 0 ∧ 0 < p.1 := by
  have h1 := comers_ge xs 0 p ((baseP_perm xs).mem_iff.1 h)
  rw [Nat.sub_zero, Nat.zero_add] at h1
  exact ⟨h1.2.1, h1.2.2.1, h1.2.2.2⟩
/-- What is known of numbers that nothing is wrong with. -/
theorem wrong_ok {xs : List Int} {most : Int} (h : wrongP xs most = 0) : 1 ≤ most ∧ most ≤ 20 ∧ xs.length ≤ 65536 ∧ (∀ x ∈ xs, 0 ≤ x) ∧ sumF (·.1) ((baseP xs).map coinOf) ≤ 1099511627776 := by
  unfold wrongP at h
  split at h
  · cases h
  · rename_i h1
    have hx : ∀ x ∈ xs, 0 ≤ x := fun x hx => by
      rcases Int.lt_or_le x 0 with h9 | h9
      · exact absurd (.inr (.inr (.inr (List.any_eq_true.2 ⟨x, hx, by simpa using h9⟩)))) h1
      · exact h9
    refine ⟨by omega, by omega, by omega, hx, ?_⟩
    cases hs : sumPos xs 0 with
    | none => rw [hs] at h; simp at h
    | some t =>
      have h2 := sumPos_bd xs 0 t hx (by omega) (by omega) hs
      have h3 := baseP_sum xs hx
      omega
end Go.Proofs.Ytfegjdabjdahgaa
