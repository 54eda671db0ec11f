/- What is so of the lengths of package-merge: plain. -/
import Derived.Test.YtfegjdabjdahgaaLmF
import Derived.Test.YtfegjdabjdahgaaCost
namespace Go.Proofs.Ytfegjdabjdahgaa
open Go.RowKit
set_option linter.unusedVariables false
set_option linter.unusedSimpArgs false

def lenN (xs : List Int) (L x : Nat) : Nat := if (baseP xs).length < 2 then cntX x (0, (baseP xs).map (·.2)) else lenP (baseP xs) L x
theorem lensP_getN {xs : List Int} {L j : Nat} (hj : j < xs.length) : (lensP xs L).getD j 0 = (lenN xs L j : Nat) := lensP_get hj
theorem lensP_len (xs : List Int) (L : Nat) : (lensP xs L).length = xs.length := by simp [lensP]
def pS (f : Nat → Nat) : Nat → Nat
  | 0 => 0
  | i + 1 => pS f i + f i
theorem pS_le {f g : Nat → Nat} : ∀ n, (∀ j, j < n → f j ≤ g j) → pS f n ≤ pS g n
  | 0, _ => Nat.le_refl _
  | n + 1, h => Nat.add_le_add (pS_le n fun j hj => h j (by omega)) (h n (by omega))
theorem pS_congr {f g : Nat → Nat} (n : Nat) (h : ∀ j, j < n → f j = g j) : pS f n = pS g n :=
  Nat.le_antisymm (pS_le n fun j hj => Nat.le_of_eq (h j hj)) (pS_le n fun j hj => Nat.le_of_eq (h j hj).symm)
theorem pS_mul (f : Nat → Nat) (c : Nat) : ∀ n, pS (fun j => f j * c) n = pS f n * c
  | 0 => by simp [pS]
  | n + 1 => by simp only [pS]; rw [pS_mul f c n, Nat.add_mul]
theorem pS_mono (f : Nat → Nat) {i n : Nat} (h : i ≤ n) : pS f i ≤ pS f n := by
  induction n with
  | zero => rw [show i = 0 by omega]; exact Nat.le_refl _
  | succ n ih =>
    rcases Nat.eq_or_lt_of_le h with e | e
    · rw [e]; exact Nat.le_refl _
    · exact Nat.le_trans (ih (by omega)) (Nat.le_add_right _ _)
theorem comers_pS (g : Nat × Nat → Nat) (xs : List Int) : ∀ i, i ≤ xs.length → ((comers 0 (xs.take i)).map g).sum = pS (fun j => if 0 < xs.getD j 0 then g ((xs.getD j 0).toNat, j) else 0) i
  | 0, _ => by simp [comers, pS]
  | i + 1, h => by
    rw [comers_snoc xs i (by omega), List.map_append, List.sum_append, comers_pS g xs i (by omega), pS]
    congr 1
    split <;> simp
theorem base_pS (g : Nat × Nat → Nat) (xs : List Int) : ((baseP xs).map g).sum = pS (fun j => if 0 < xs.getD j 0 then g ((xs.getD j 0).toNat, j) else 0) xs.length := by
  rw [((baseP_perm xs).map g).sum_nat]
  have h := comers_pS g xs xs.length (Nat.le_refl _)
  rwa [List.take_length] at h
theorem mem_base {xs : List Int} {x : Nat} (hx : x < xs.length) (h : 0 < xs.getD x 0) : ((xs.getD x 0).toNat, x) ∈ baseP xs := by
  have h1 := comers_all xs 0 x hx h
  rw [Nat.zero_add] at h1
  exact (baseP_perm xs).mem_iff.2 h1
theorem lenP_off {bs : List (Nat × Nat)} {L x : Nat} (h : ∀ p ∈ bs, p.2 ≠ x) : lenP bs L x = 0 := by
  unfold lenP
  rw [sumF_flat]
  refine List.count_eq_zero.2 fun hm => ?_
  obtain ⟨c, hc, hs⟩ := List.mem_flatMap.1 hm
  refine rounds_syms (fun s => s ≠ x) (bs.map coinOf) (fun c hc s hs => ?_) (L - 1) c (List.mem_of_mem_take hc) x hs rfl
  obtain ⟨p, hp, rfl⟩ := List.mem_map.1 hc
  have e : s = p.2 := List.mem_singleton.1 hs
  rw [e]; exact h p hp
theorem lenN_rng {xs : List Int} {L : Nat} (hL : 1 ≤ L) (hn : (baseP xs).length ≤ 2 ^ L) {j : Nat} (hj : j < xs.length) : lenN xs L j ≤ L ∧ (0 < lenN xs L j ↔ 0 < xs.getD j 0) := by
  by_cases hk : (baseP xs).length < 2
  · have e : lenN xs L j = ((baseP xs).map (·.2)).count j := by unfold lenN; rw [if_pos hk]; rfl
    rw [e]
    have h1 := List.nodup_iff_count.1 (baseP_nodup xs) j
    refine ⟨by omega, ?_⟩
    rw [List.count_pos_iff]
    constructor
    · intro hm
      obtain ⟨p, hp, rfl⟩ := List.mem_map.1 hm
      have := baseP_mem hp
      omega
    · intro h
      exact List.mem_map.2 ⟨_, mem_base hj h, rfl⟩
  · have e : lenN xs L j = lenP (baseP xs) L j := by unfold lenN; rw [if_neg hk]
    rw [e]
    have hG := goodL (baseP_up xs) (baseP_nodup xs) hL (by omega) hn
    by_cases h : 0 < xs.getD j 0
    · have := hG.rng _ (mem_base hj h)
      simp only at this
      exact ⟨this.2, fun _ => h, fun _ => this.1⟩
    · have h0 : lenP (baseP xs) L j = 0 := lenP_off fun p hp e => by
        have := baseP_mem hp
        rw [e] at this
        omega
      rw [h0]
      exact ⟨Nat.zero_le _, fun h9 => absurd h9 (by omega), fun h9 => absurd h9 h⟩
theorem lenN_kraft {xs : List Int} {L : Nat} (hL : 1 ≤ L) (hL2 : L ≤ 20) (hn : (baseP xs).length ≤ 2 ^ L) (hk : 2 ≤ (baseP xs).length) : pS (fun j => if 0 < lenN xs L j then 2 ^ (20 - lenN xs L j) else 0) xs.length = 1048576 := by
  have hG := goodL (baseP_up xs) (baseP_nodup xs) hL hk hn
  have h1 := base_pS (fun p => 2 ^ (L - lenP (baseP xs) L p.2)) xs
  rw [hG.kraft] at h1
  have h2 : pS (fun j => if 0 < lenN xs L j then 2 ^ (20 - lenN xs L j) else 0) xs.length = pS (fun j => (if 0 < xs.getD j 0 then 2 ^ (L - lenP (baseP xs) L j) else 0) * 2 ^ (20 - L)) xs.length := pS_congr _ fun j hj => by
    obtain ⟨h3, h4⟩ := lenN_rng hL hn hj
    have e : lenN xs L j = lenP (baseP xs) L j := by unfold lenN; rw [if_neg (by omega)]
    by_cases h : 0 < xs.getD j 0
    · rw [if_pos (h4.2 h), if_pos h, ← Nat.pow_add, e]
      congr 1
      omega
    · rw [if_neg (fun h9 => h (h4.1 h9)), if_neg h, Nat.zero_mul]
  rw [h2, pS_mul, ← h1, ← Nat.pow_add, show L + (20 - L) = 20 by omega]
theorem base_len_pS (xs : List Int) : (baseP xs).length = pS (fun j => if 0 < xs.getD j 0 then 1 else 0) xs.length := by
  have h := base_pS (fun _ => 1) xs
  rw [const_sum, Nat.mul_one] at h
  exact h
def costN (xs : List Int) (o : Nat → Nat) : Nat := pS (fun j => (xs.getD j 0).toNat * o j) xs.length
theorem costN_base (xs : List Int) (o : Nat → Nat) : ((baseP xs).map (fun p => p.1 * o p.2)).sum = costN xs o := by
  rw [base_pS]
  exact pS_congr _ fun j hj => by
    split
    · rfl
    · rw [show (xs.getD j 0).toNat = 0 by omega, Nat.zero_mul]
theorem costN_congr {xs : List Int} {o o' : Nat → Nat} (h : ∀ j, j < xs.length → o j = o' j) : costN xs o = costN xs o' := pS_congr _ fun j hj => by rw [h j hj]
/-- No other lengths cost less. -/
theorem best_cost {xs : List Int} {L : Nat} (hL : 1 ≤ L) (hn : (baseP xs).length ≤ 2 ^ L) (hk : 2 ≤ (baseP xs).length) (o : Nat → Nat) (ho : ∀ j, j < xs.length → 0 < xs.getD j 0 → 1 ≤ o j ∧ o j ≤ L) (hs : pS (fun j => if 0 < xs.getD j 0 then 2 ^ (L - o j) else 0) xs.length ≤ 2 ^ L) : costN xs (lenN xs L) ≤ costN xs o := by
  have h1 := bestL (baseP_up xs) (baseP_nodup xs) hL hk hn o (fun p hp => by
    have h := baseP_mem hp
    exact ho p.2 h.1 (by omega)) (by rw [base_pS (fun p => 2 ^ (L - o p.2))]; exact hs)
  rw [costN_base xs (lenP (baseP xs) L), costN_base xs o] at h1
  rw [costN_congr (o := lenN xs L) (o' := lenP (baseP xs) L) fun j hj => by unfold lenN; rw [if_neg (by omega)]]
  exact h1
theorem costN_bd {xs : List Int} {o : Nat → Nat} (hs : sumF (·.1) ((baseP xs).map coinOf) ≤ 1099511627776) (ho : ∀ j, j < xs.length → o j ≤ 20) : costN xs o ≤ 21990232555520 := by
  have h1 : costN xs o ≤ pS (fun j => (xs.getD j 0).toNat * 20) xs.length := pS_le _ fun j hj => Nat.mul_le_mul_left _ (ho j hj)
  have h2 : pS (fun j => (xs.getD j 0).toNat * 20) xs.length = ((baseP xs).map (fun p => p.1 * 20)).sum := (costN_base xs (fun _ => 20)).symm
  have h3 : ((baseP xs).map (fun p => p.1 * 20)).sum = ((baseP xs).map (fun p => p.1)).sum * 20 := by
    induction baseP xs with
    | nil => rfl
    | cons a l ih => simp only [List.map_cons, List.sum_cons]; rw [ih, Nat.add_mul]
  have h4 : sumF (·.1) ((baseP xs).map coinOf) = ((baseP xs).map (fun p => p.1)).sum := by
    unfold sumF
    rw [List.map_map]
    rfl
  omega
theorem costSt_ok {xs ys : List Int} (hl : xs.length = ys.length) (hx : ∀ x ∈ xs, 0 ≤ x) (hy : ∀ x ∈ ys, 0 ≤ x) (hb : costN xs (fun j => (ys.getD j 0).toNat) ≤ 4611686018427387904) : ∀ i, i ≤ xs.length → costSt xs ys i = some ((pS (fun j => (xs.getD j 0).toNat * (ys.getD j 0).toNat) i : Nat) : Int)
  | 0, _ => rfl
  | i + 1, h => by
    rw [costSt, costSt_ok hl hx hy hb i (by omega)]
    simp only [Option.bind_some]
    have h1 := pS_mono (fun j => (xs.getD j 0).toNat * (ys.getD j 0).toNat) h
    have h2 : pS (fun j => (xs.getD j 0).toNat * (ys.getD j 0).toNat) xs.length ≤ 4611686018427387904 := hb
    simp only [pS] at h1 ⊢
    have hxi : 0 ≤ xs.getD i 0 := by
      rw [List.getD_eq_getElem?_getD, List.getElem?_eq_getElem (by omega)]; exact hx _ (List.getElem_mem _)
    have hyi : 0 ≤ ys.getD i 0 := by
      rw [List.getD_eq_getElem?_getD, List.getElem?_eq_getElem (by omega)]; exact hy _ (List.getElem_mem _)
    generalize pS (fun j => (xs.getD j 0).toNat * (ys.getD j 0).toNat) i = s at *
    generalize hM : pS (fun j => (xs.getD j 0).toNat * (ys.getD j 0).toNat) xs.length = M at *
    clear hM
    generalize xs.getD i 0 = x at *
    generalize ys.getD i 0 = y at *
    obtain ⟨x, rfl⟩ : ∃ n : Nat, x = (n : Int) := ⟨x.toNat, by omega⟩
    obtain ⟨y, rfl⟩ : ∃ n : Nat, y = (n : Int) := ⟨y.toNat, by omega⟩
    simp only [Int.toNat_natCast] at h1 ⊢
    have e : ((x * y : Nat) : Int) = (x : Int) * (y : Int) := Int.natCast_mul x y
    rw [if_neg]
    · rfl
    · rintro ⟨h3, h4⟩
      have h5 : (x : Int) ≤ (4611686018427387904 - (s : Int)) / (y : Int) := (Int.le_ediv_iff_mul_le h3).2 (by rw [← e]; omega)
      omega
theorem any_neg {xs : List Int} (h : ∀ x ∈ xs, 0 ≤ x) : xs.any neg = false := by
  cases hc : xs.any neg with
  | false => rfl
  | true =>
    obtain ⟨x, hx, h1⟩ := List.any_eq_true.1 hc
    have h2 := h x hx
    unfold neg at h1
    simp at h1
    omega
theorem costR_ok {xs ys : List Int} (hl : xs.length = ys.length) (hx : ∀ x ∈ xs, 0 ≤ x) (hy : ∀ x ∈ ys, 0 ≤ x) (hb : costN xs (fun j => (ys.getD j 0).toNat) ≤ 4611686018427387904) : costR xs ys = (((costN xs (fun j => (ys.getD j 0).toNat) : Nat) : Int), (0 : Int)) := by
  rw [costR_eq, if_neg, costSt_ok hl hx hy hb _ (Nat.le_refl _)]
  · rfl
  · rw [any_neg hx, any_neg hy]
    simp [hl]
/-- What comes out if nothing is wrong. -/
theorem lim_cases (xs : List Int) (most : Int) : ((limP xs most).1 = [] ∧ (limP xs most).2 ≠ 0) ∨
    (wrongP xs most = 0 ∧ (baseP xs).length ≤ 2 ^ most.toNat ∧ limP xs most = (lensP xs most.toNat, 0)) := by
  unfold limP
  by_cases h : wrongP xs most = 0
  · rw [if_neg (by rw [h]; simp)]
    by_cases h2 : 2 ^ most.toNat < (baseP xs).length
    · rw [if_pos h2]; exact .inl ⟨rfl, by simp⟩
    · rw [if_neg h2]; exact .inr ⟨h, by omega, rfl⟩
  · rw [if_pos h]; exact .inl ⟨rfl, h⟩
theorem lens_nonneg (xs : List Int) (L : Nat) : ∀ x ∈ lensP xs L, 0 ≤ x := fun x hx => by
  unfold lensP at hx
  obtain ⟨j, _, rfl⟩ := List.mem_map.1 hx
  omega
theorem costR_lens {xs : List Int} {L : Nat} (hL : 1 ≤ L) (hL2 : L ≤ 20) (hn : (baseP xs).length ≤ 2 ^ L) (hx : ∀ x ∈ xs, 0 ≤ x) (hs : sumF (·.1) ((baseP xs).map coinOf) ≤ 1099511627776) : costR xs (lensP xs L) = (((costN xs (lenN xs L) : Nat) : Int), (0 : Int)) := by
  have e : costN xs (fun j => ((lensP xs L).getD j 0).toNat) = costN xs (lenN xs L) := costN_congr fun j hj => by rw [lensP_getN hj, Int.toNat_natCast]
  rw [costR_ok (lensP_len xs L).symm hx (lens_nonneg xs L), e]
  rw [e]
  have := costN_bd (xs := xs) (o := lenN xs L) hs fun j hj => by have := (lenN_rng hL hn hj).1; omega
  omega
/-- Longer words cost no more. -/
theorem more_cost {xs : List Int} {L : Nat} (hL : 1 ≤ L) (hn : (baseP xs).length ≤ 2 ^ L) : costN xs (lenN xs (L + 1)) ≤ costN xs (lenN xs L) := by
  by_cases hk : 2 ≤ (baseP xs).length
  · have hn2 : (baseP xs).length ≤ 2 ^ (L + 1) := by rw [Nat.pow_succ]; omega
    refine best_cost (by omega) hn2 hk (lenN xs L) (fun j hj h => ?_) (Nat.le_of_eq ?_)
    · have h1 := lenN_rng hL hn hj
      exact ⟨h1.2.2 h, by omega⟩
    · have hG := goodL (baseP_up xs) (baseP_nodup xs) hL hk hn
      have h1 := base_pS (fun p => 2 ^ (L - lenP (baseP xs) L p.2)) xs
      rw [hG.kraft] at h1
      rw [Nat.pow_succ, h1, ← pS_mul]
      exact pS_congr _ fun j hj => by
        by_cases h : 0 < xs.getD j 0
        · have h2 := (lenN_rng hL hn hj).1
          have e : lenN xs L j = lenP (baseP xs) L j := by unfold lenN; rw [if_neg (by omega)]
          rw [e] at h2
          rw [if_pos h, if_pos h, ← Nat.pow_succ, e]
          congr 1
          show L + 1 - lenP (baseP xs) L j = L - lenP (baseP xs) L j + 1
          omega
        · rw [if_neg h, if_neg h, Nat.zero_mul]
  · refine Nat.le_of_eq (costN_congr fun j hj => ?_)
    unfold lenN
    rw [if_pos (by omega), if_pos (by omega)]
end Go.Proofs.Ytfegjdabjdahgaa
