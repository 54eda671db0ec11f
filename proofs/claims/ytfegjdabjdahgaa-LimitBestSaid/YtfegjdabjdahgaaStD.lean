/- Pointers sorted: what symMergeCmpFunc turns on: plain. -/
import Derived.Test.YtfegjdabjdahgaaStC
namespace Go.Proofs.Ytfegjdabjdahgaa
open Go.RowKit
set_option linter.unusedVariables false
set_option linter.unusedSimpArgs false

/-- The first one, on its way up. -/
def shL (f : Nat → Nat) (a k p : Nat) : Nat := if p < a ∨ k < p then f p else if p = k then f a else f (p + 1)
theorem shL_start (f : Nat → Nat) (a : Nat) : shL f a a = f := by
  funext p
  unfold shL
  by_cases h : p < a ∨ a < p
  · rw [if_pos h]
  · rw [if_neg h, if_pos (by omega), show p = a by omega]
theorem shL_succ (f : Nat → Nat) {a k : Nat} (h : a ≤ k) : swapF (shL f a k) k (k + 1) = shL f a (k + 1) := by
  funext p
  unfold swapF shL
  repeat' split
  all_goals first | omega | (congr 1; omega) | rfl
theorem shL_up {o : Ord} {f : Nat → Nat} {a i b : Nat} (hi : a + 1 ≤ i) (hib : i ≤ b) (hu : Up o (a + 1) b f) (h1 : ∀ p, a + 1 ≤ p → p < i → o.lt (f p) (f a)) (h2 : ∀ p, i ≤ p → p < b → o.lt (f a) (f p)) : Up o a b (shL f a (i - 1)) := by
  intro p q hp hpq hq
  have e : ∀ r, a ≤ r → shL f a (i - 1) r = if i - 1 < r then f r else if r = i - 1 then f a else f (r + 1) := fun r hr => by
    unfold shL
    by_cases h : i - 1 < r
    · rw [if_pos (.inr h), if_pos h]
    · rw [if_neg (by omega), if_neg h]
  rw [e p hp, e q (by omega)]
  by_cases c1 : i - 1 < p
  · rw [if_pos c1, if_pos (by omega)]; exact hu p q (by omega) hpq hq
  · rw [if_neg c1]
    by_cases c2 : p = i - 1
    · rw [if_pos c2, if_pos (by omega)]; exact h2 q (by omega) hq
    · rw [if_neg c2]
      by_cases c3 : i - 1 < q
      · rw [if_pos c3]; exact hu (p + 1) q (by omega) (by omega) hq
      · rw [if_neg c3]
        by_cases c4 : q = i - 1
        · rw [if_pos c4]; exact h1 (p + 1) (by omega) (by omega)
        · rw [if_neg c4]; exact hu (p + 1) (q + 1) (by omega) (by omega) (by omega)
/-- The last one, on its way down. -/
def shR (f : Nat → Nat) (m k p : Nat) : Nat := if p < k ∨ m < p then f p else if p = k then f m else f (p - 1)
theorem shR_start (f : Nat → Nat) (m : Nat) : shR f m m = f := by
  funext p
  unfold shR
  by_cases h : p < m ∨ m < p
  · rw [if_pos h]
  · rw [if_neg h, if_pos (by omega), show p = m by omega]
theorem shR_succ (f : Nat → Nat) {m k : Nat} (h : k + 1 ≤ m) : swapF (shR f m (k + 1)) (k + 1) k = shR f m k := by
  funext p
  unfold swapF shR
  repeat' split
  all_goals first | omega | (congr 1; omega) | rfl
theorem shR_up {o : Ord} {f : Nat → Nat} {a i m : Nat} (hi : a ≤ i) (him : i ≤ m) (hu : Up o a m f) (h1 : ∀ p, a ≤ p → p < i → o.lt (f p) (f m)) (h2 : ∀ p, i ≤ p → p < m → o.lt (f m) (f p)) : Up o a (m + 1) (shR f m i) := by
  intro p q hp hpq hq
  have e : ∀ r, r ≤ m → shR f m i r = if r < i then f r else if r = i then f m else f (r - 1) := fun r hr => by
    unfold shR
    by_cases h : r < i
    · rw [if_pos (.inl h), if_pos h]
    · rw [if_neg (by omega), if_neg h]
  rw [e p (by omega), e q (by omega)]
  by_cases c1 : q < i
  · rw [if_pos c1, if_pos (by omega)]; exact hu p q hp hpq (by omega)
  · rw [if_neg c1]
    by_cases c2 : q = i
    · rw [if_pos c2, if_pos (by omega)]; exact h1 p hp (by omega)
    · rw [if_neg c2]
      by_cases c3 : p < i
      · rw [if_pos c3]; exact hu p (q - 1) hp (by omega) (by omega)
      · rw [if_neg c3]
        by_cases c4 : p = i
        · rw [if_pos c4]; exact h2 (q - 1) (by omega) (by omega)
        · rw [if_neg c4]; exact hu (p - 1) (q - 1) (by omega) (by omega) (by omega)
/-! ### The cut -/
theorem rotG_same (f : Nat → Nat) {s m e : Nat} (h : s = m ∨ e = m) (hs : s ≤ m) (he : m ≤ e) : rotG f s m e = f := by
  funext p
  unfold rotG
  repeat' split
  all_goals first | rfl | (congr 1; omega)
structure Cut (o : Ord) (a m b lo hi s : Nat) (f : Nat → Nat) : Prop where
  am : a < m
  mb : m < b
  lim : (m ≤ (a + b) / 2 ∧ lo = a ∧ hi = m) ∨ ((a + b) / 2 < m ∧ lo = (a + b) / 2 + m - b ∧ hi = (a + b) / 2)
  los : lo ≤ s
  shi : s ≤ hi
  below : ∀ c, lo ≤ c → c < s → o.lt (f c) (f ((a + b) / 2 + m - 1 - c))
  above : ∀ c, s ≤ c → c < hi → o.lt (f ((a + b) / 2 + m - 1 - c)) (f c)
namespace Cut
variable {o : Ord} {a m b lo hi s : Nat} {f : Nat → Nat}
theorem nums (h : Cut o a m b lo hi s f) : a ≤ s ∧ s ≤ m ∧ s ≤ (a + b) / 2 ∧ m ≤ (a + b) / 2 + m - s ∧ (a + b) / 2 + m - s ≤ b ∧ (a + b) / 2 ≤ (a + b) / 2 + m - s := by
  have h1 := h.am; have h2 := h.mb; have h3 := h.lim; have h4 := h.los; have h5 := h.shi
  omega
theorem at1 (h : Cut o a m b lo hi s f) (p : Nat) (h1 : a ≤ p) (h2 : p < s) : rotG f s m ((a + b) / 2 + m - s) p = f p := by
  unfold rotG; rw [if_pos (.inl h2)]
theorem at2 (h : Cut o a m b lo hi s f) (p : Nat) (h1 : s ≤ p) (h2 : p < (a + b) / 2) : rotG f s m ((a + b) / 2 + m - s) p = f (p + (m - s)) := by
  have := h.nums
  unfold rotG; rw [if_neg (by omega), if_pos (by omega)]
theorem at3 (h : Cut o a m b lo hi s f) (p : Nat) (h1 : (a + b) / 2 ≤ p) (h2 : p < (a + b) / 2 + m - s) : rotG f s m ((a + b) / 2 + m - s) p = f (p - ((a + b) / 2 - s)) := by
  have := h.nums
  unfold rotG; rw [if_neg (by omega), if_neg (by omega)]
  congr 1; omega
theorem at4 (h : Cut o a m b lo hi s f) (p : Nat) (h1 : (a + b) / 2 + m - s ≤ p) : rotG f s m ((a + b) / 2 + m - s) p = f p := by
  unfold rotG; rw [if_pos (.inr h1)]
theorem up1 (h : Cut o a m b lo hi s f) (hu : Up o a m f) : Up o a s (rotG f s m ((a + b) / 2 + m - s)) := fun p q h1 h2 h3 => by
  have := h.nums
  rw [h.at1 p h1 (by omega), h.at1 q (by omega) h3]; exact hu p q h1 h2 (by omega)
theorem up2 (h : Cut o a m b lo hi s f) (hu : Up o m b f) : Up o s ((a + b) / 2) (rotG f s m ((a + b) / 2 + m - s)) := fun p q h1 h2 h3 => by
  have := h.nums
  rw [h.at2 p h1 (by omega), h.at2 q (by omega) h3]; exact hu _ _ (by omega) (by omega) (by omega)
theorem up3 (h : Cut o a m b lo hi s f) (hu : Up o a m f) : Up o ((a + b) / 2) ((a + b) / 2 + m - s) (rotG f s m ((a + b) / 2 + m - s)) := fun p q h1 h2 h3 => by
  have := h.nums
  rw [h.at3 p h1 (by omega), h.at3 q (by omega) h3]; exact hu _ _ (by omega) (by omega) (by omega)
theorem up4 (h : Cut o a m b lo hi s f) (hu : Up o m b f) : Up o ((a + b) / 2 + m - s) b (rotG f s m ((a + b) / 2 + m - s)) := fun p q h1 h2 h3 => by
  have := h.nums
  rw [h.at4 p h1, h.at4 q (by omega)]; exact hu _ _ (by omega) (by omega) (by omega)
theorem ahead1 (h : Cut o a m b lo hi s f) (hA : Ahead o a m b f) : Ahead o a s ((a + b) / 2) (rotG f s m ((a + b) / 2 + m - s)) := fun p q h1 h2 h3 h4 => by
  have := h.nums
  rw [h.at1 p h1 h2, h.at2 q h3 h4]; exact hA _ _ (by omega) (by omega) (by omega) (by omega)
theorem ahead2 (h : Cut o a m b lo hi s f) (hA : Ahead o a m b f) : Ahead o ((a + b) / 2) ((a + b) / 2 + m - s) b (rotG f s m ((a + b) / 2 + m - s)) := fun p q h1 h2 h3 h4 => by
  have := h.nums
  rw [h.at3 p h1 h2, h.at4 q h3]; exact hA _ _ (by omega) (by omega) (by omega) (by omega)
theorem up_le {o : Ord} {a b : Nat} {f : Nat → Nat} (hu : Up o a b f) {p q : Nat} (h1 : a ≤ p) (h2 : p ≤ q) (h3 : q < b) {x : Nat} (hx : o.lt (f q) x) : o.lt (f p) x := by
  rcases Nat.eq_or_lt_of_le h2 with e | e
  · rw [e]; exact hx
  · exact Ord.trans (hu p q h1 e h3) hx
theorem up_ge {o : Ord} {a b : Nat} {f : Nat → Nat} (hu : Up o a b f) {p q : Nat} (h1 : a ≤ p) (h2 : p ≤ q) (h3 : q < b) {x : Nat} (hx : o.lt x (f p)) : o.lt x (f q) := by
  rcases Nat.eq_or_lt_of_le h2 with e | e
  · rw [← e]; exact hx
  · exact Ord.trans hx (hu p q h1 e h3)
theorem cross (h : Cut o a m b lo hi s f) (hl : Up o a m f) (hr : Up o m b f) (p q : Nat) (h1 : a ≤ p) (h2 : p < (a + b) / 2) (h3 : (a + b) / 2 ≤ q) (h4 : q < b) :
    o.lt (rotG f s m ((a + b) / 2 + m - s) p) (rotG f s m ((a + b) / 2 + m - s) q) := by
  have hn := h.nums
  have hlim := h.lim
  have hm1 := h.am
  have hm2 := h.mb
  by_cases c1 : p < s <;> by_cases c2 : q < (a + b) / 2 + m - s
  · rw [h.at1 p h1 c1, h.at3 q h3 c2]; exact hl _ _ h1 (by omega) (by omega)
  · rw [h.at1 p h1 c1, h.at4 q (by omega)]
    have hb := h.below (s - 1) (by omega) (by omega)
    rw [show (a + b) / 2 + m - 1 - (s - 1) = (a + b) / 2 + m - s by omega] at hb
    exact up_ge hr (by omega) (show (a + b) / 2 + m - s ≤ q by omega) h4 (up_le hl h1 (show p ≤ s - 1 by omega) (by omega) hb)
  · rw [h.at2 p (by omega) h2, h.at3 q h3 c2]
    have ha := h.above s (Nat.le_refl _) (by omega)
    exact up_ge hl (by omega) (show s ≤ q - ((a + b) / 2 - s) by omega) (by omega) (up_le hr (by omega) (show p + (m - s) ≤ (a + b) / 2 + m - 1 - s by omega) (by omega) ha)
  · rw [h.at2 p (by omega) h2, h.at4 q (by omega)]; exact hr _ _ (by omega) (by omega) h4
end Cut
/-- Both halves sorted, the first one's below the second one's. -/
theorem up_join {o : Ord} {n a c b : Nat} {f1 f2 f3 : Nat → Nat} (hac : a ≤ c) (hcb : c ≤ b) (t2 : Turn n a c f1 f2) (u2 : Up o a c f2) (t3 : Turn n c b f2 f3) (u3 : Up o c b f3)
    (hx : ∀ p q, a ≤ p → p < c → c ≤ q → q < b → o.lt (f1 p) (f1 q)) : Up o a b f3 := by
  intro p q h1 h2 h3
  by_cases c1 : q < c
  · rw [t3.loc.out p (.inl (by omega)), t3.loc.out q (.inl c1)]; exact u2 p q h1 h2 c1
  · by_cases c2 : c ≤ p
    · exact u3 p q c2 h2 h3
    · obtain ⟨r, r1, r2, e⟩ := t3.loc.in_ q (by omega) h3
      obtain ⟨t, t1, t2', e2⟩ := t2.loc.in_ p h1 (by omega)
      rw [t3.loc.out p (.inl (by omega)), e, e2, t2.loc.out r (.inr r1)]
      exact hx t r t1 t2' r1 r2
theorem up_none (o : Ord) {a b : Nat} (f : Nat → Nat) (h : b ≤ a + 1) : Up o a b f := fun p q h1 h2 h3 => by omega
end Go.Proofs.Ytfegjdabjdahgaa
