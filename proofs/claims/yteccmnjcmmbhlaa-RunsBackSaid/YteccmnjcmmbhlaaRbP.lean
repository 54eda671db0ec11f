/- Runs written shorter and read again; places to the front; symbols of places: plain laws. -/
import Derived.Test.YteccmnjcmmbhlaaFrP
import Derived.Test.YteccmnjcmmbhlaaPkP
import Derived.Test.YteccmnjcmmbhlaaPlc
import Derived.Test.YteccmnjcmmbhlaaUnW
namespace Go.Proofs.Yteccmnjcmmbhlaa
open Go.RowKit
set_option linter.unusedVariables false

/-! ### A run ahead -/
theorem rl_le (x : Int) : ∀ (r : List Int) (f : Nat), rl x r f ≤ r.length
  | [], f => by cases f <;> simp [rl]
  | y :: r, 0 => by simp [rl]
  | y :: r, f + 1 => by
    unfold rl
    have := rl_le x r f
    split <;> simp <;> omega
theorem rl_max (x : Int) : ∀ (r : List Int) (f : Nat), rl x r f ≤ f
  | [], f => by cases f <;> simp [rl]
  | y :: r, 0 => by simp [rl]
  | y :: r, f + 1 => by
    unfold rl
    have := rl_max x r f
    split <;> omega
theorem rl_split (x : Int) : ∀ (r : List Int) (f : Nat), r = List.replicate (rl x r f) x ++ r.drop (rl x r f)
  | [], f => by cases f <;> simp [rl]
  | y :: r, 0 => by simp [rl]
  | y :: r, f + 1 => by
    unfold rl
    by_cases h : y = x
    · rw [if_pos h, List.replicate_succ, List.drop_succ_cons, List.cons_append, ← rl_split x r f, h]
    · rw [if_neg h]; simp
theorem rl_next (x : Int) : ∀ (r : List Int) (f : Nat), rl x r f < f → ∀ y, (r.drop (rl x r f)).head? = some y → y ≠ x
  | [], f => by cases f <;> simp [rl]
  | z :: r, 0 => by simp [rl]
  | z :: r, f + 1 => by
    unfold rl
    by_cases h : z = x
    · rw [if_pos h, List.drop_succ_cons]
      intro h1
      exact rl_next x r f (by omega)
    · rw [if_neg h]
      intro _ y hy
      simp at hy
      rw [← hy]; exact h
/-! ### Written shorter: not by more than a quarter -/
theorem packL_len (l : List Int) : 4 * (packL l).length ≤ 5 * l.length := by
  induction l using packL.induct with
  | case1 => simp [packL]
  | case2 x r ih =>
    rw [packL, List.length_append, List.length_append, List.length_replicate]
    rw [List.length_drop] at ih
    have h1 : rl x r 258 ≤ r.length := rl_le x r 258
    split
    · simp only [List.length_cons, List.length_nil]
      omega
    · simp only [List.length_cons, List.length_nil]
      omega
theorem packL_short (l : List Int) : (packL l).length ≤ l.length + l.length / 4 := by
  have := packL_len l
  omega
/-! ### And read again -/
theorem unp_ones (most : Int) (x : Int) (rest : List Int) : ∀ (m : Nat) (out : List Int) (like : Nat), 1 ≤ like → like + m ≤ 4 → (out.length : Int) + m ≤ most →
    unp most (List.replicate m x ++ rest) x like out = unp most rest x (like + m) (out ++ List.replicate m x) := by
  intro m
  induction m with
  | zero => intro out like _ _ _; simp
  | succ m ih =>
    intro out like h1 h2 h3
    rw [List.replicate_succ, List.cons_append, unp, if_neg (by omega), if_neg (by omega), if_pos ⟨by omega, rfl⟩]
    rw [ih (out ++ [x]) (like + 1) (by omega) (by omega) (by rw [List.length_append]; simp; omega)]
    rw [List.append_assoc, show like + 1 + m = like + (m + 1) by omega]
    rfl
theorem unp_pack (most : Int) (l : List Int) : ∀ (p : Int) (like : Nat) (out : List Int), like ≤ 3 → (like = 0 ∨ ∀ y, l.head? = some y → y ≠ p) → (out.length : Int) + l.length ≤ most → unp most (packL l) p like out = (out ++ l, 0) := by
  induction l using packL.induct with
  | case1 =>
    intro p like out h _ _
    rw [packL, unp, if_neg (by omega), List.append_nil]
  | case2 x r ih =>
    intro p like out h1 h2 h3
    have hle : rl x r 258 ≤ r.length := rl_le x r 258
    have hsp := rl_split x r 258
    have hne := rl_next x r 258
    have hm := rl_max x r 258
    rw [List.length_cons] at h3
    have hs : ¬ (0 < like ∧ x = p) := by
      rintro ⟨h4, rfl⟩
      rcases h2 with h2 | h2
      · omega
      · exact h2 x rfl rfl
    rw [packL]
    generalize rl x r 258 = n at *
    have hrep : List.replicate (min (n + 1) 4) x = x :: List.replicate (min n 3) x := by
      rw [show min (n + 1) 4 = min n 3 + 1 by omega, List.replicate_succ]
    have e0 : ∀ Z, unp most (List.replicate (min (n + 1) 4) x ++ Z) p like out = unp most Z x (1 + min n 3) (out ++ [x] ++ List.replicate (min n 3) x) := fun Z => by
      rw [hrep, List.cons_append, unp, if_neg (by omega), if_neg (by omega), if_neg hs]
      exact unp_ones most x Z (min n 3) (out ++ [x]) 1 (by omega) (by omega) (by rw [List.length_append]; simp; omega)
    have hL : (r.drop n).length = r.length - n := List.length_drop ..
    by_cases h4 : 4 ≤ n + 1
    · rw [if_pos h4, List.append_assoc, e0, List.singleton_append, unp, if_pos (by omega)]
      rw [if_neg (by simp only [List.length_append, List.length_replicate, List.length_cons, List.length_nil]; omega)]
      rw [Int.toNat_natCast, ih _ 0 _ (by omega) (.inl rfl) (by simp only [List.length_append, List.length_replicate, List.length_cons, List.length_nil, hL]; omega)]
      congr 1
      rw [List.append_assoc, List.append_assoc, List.append_assoc, ← List.append_assoc (List.replicate (min n 3) x), List.replicate_append_replicate, show min n 3 + (n + 1 - 4) = n by omega, ← hsp]
      rfl
    · rw [if_neg h4, List.append_nil, e0, ih x _ _ (by omega) (.inr (hne (by omega))) (by simp only [List.length_append, List.length_replicate, List.length_cons, List.length_nil, hL]; omega)]
      congr 1
      rw [show min n 3 = n by omega, List.append_assoc, List.append_assoc, ← hsp]
      rfl
theorem unpR_pack (l : List Int) : unp (l.length : Int) (packL l) 0 0 [] = (l, 0) := by
  have h := unp_pack (l.length : Int) l 0 0 [] (by omega) (.inl rfl) (by simp)
  simpa using h
/-! ### Places -/
theorem idxP_head (a : Int) (r : List Int) (y : Int) : idxP (a :: r) y = 0 ↔ a = y := by
  unfold idxP
  rw [List.findIdx_cons]
  by_cases h : a = y <;> simp [h]
theorem mtf_rng : ∀ (b l : List Int), (∀ x ∈ b, x ∈ l) → ∀ k ∈ mtfP l b, 0 ≤ k ∧ k < l.length
  | [], _, _ => by intro k hk; cases hk
  | x :: r, l, h => by
    intro k hk
    have hx := h x (List.mem_cons_self ..)
    have hlt := idxP_lt hx
    rw [mtfP] at hk
    rcases List.mem_cons.1 hk with rfl | hk
    · omega
    · have := mtf_rng r (takeP l (idxP l x)) (fun y hy => by rw [takeP_mem hlt]; exact h y (List.mem_cons_of_mem _ hy)) k hk
      rw [takeP_len hlt] at this
      exact this
theorem mtf_zero : ∀ (b l : List Int) (i : Nat), (∀ x ∈ b, x ∈ l) → i + 1 < b.length → ((mtfP l b).getD (i + 1) 0 = 0 ↔ b.getD (i + 1) 0 = b.getD i 0)
  | [], _, _, _, hi => by simp at hi
  | [x], _, _, _, hi => by simp at hi
  | x :: y :: r, l, i, h, hi => by
    have hx := h x (List.mem_cons_self ..)
    have hlt := idxP_lt hx
    have hsub : ∀ z ∈ y :: r, z ∈ takeP l (idxP l x) := fun z hz => by rw [takeP_mem hlt]; exact h z (List.mem_cons_of_mem _ hz)
    cases i with
    | zero =>
      rw [mtfP, mtfP, List.getD_cons_succ, List.getD_cons_zero, List.getD_cons_succ, List.getD_cons_zero, List.getD_cons_zero]
      rw [show ((idxP (takeP l (idxP l x)) y : Nat) : Int) = 0 ↔ idxP (takeP l (idxP l x)) y = 0 by omega]
      unfold takeP
      rw [idxP_head, idxP_get hx]
      exact eq_comm
    | succ i =>
      rw [mtfP, List.getD_cons_succ, List.getD_cons_succ, List.getD_cons_succ]
      exact mtf_zero (y :: r) _ i hsub (by simpa using hi)
/-! ### Symbols of places, and places of symbols -/
def symT (n : Int) : List Int → Nat → List Int
  | [], run => shortL run ++ [n + 1]
  | p :: r, run => if p = 0 then symT n r (run + 1) else shortL run ++ (p + 1) :: symT n r 0
theorem symGo_T (n : Int) : ∀ (ps out : List Int) (run : Nat), (symGo ps out run).1 ++ shortL (symGo ps out run).2 ++ [n + 1] = out ++ symT n ps run
  | [], out, run => by rw [symGo, symT, List.append_assoc]
  | p :: r, out, run => by
    rw [symGo, symT]
    by_cases h : p = 0
    · rw [if_pos h, if_pos h, symGo_T n r]
    · rw [if_neg h, if_neg h, symGo_T n r]
      simp
theorem shortL_pow (r : Nat) : 2 ^ (shortL r).length ≤ r + 1 := by
  induction r using Nat.strongRecOn with
  | ind r ih =>
    by_cases h : 0 < r
    · rw [shortL_pos r h, List.length_cons, Nat.pow_succ]
      have := ih ((r - 1) / 2) (by omega)
      omega
    · obtain rfl : r = 0 := by omega
      simp [shortL]
theorem shortL_20 {r : Nat} (h : r ≤ 1048576) : (shortL r).length ≤ 20 := by
  have h1 := shortL_pow r
  rcases Nat.lt_or_ge 20 (shortL r).length with h2 | h2
  · have h3 : 2 ^ 21 ≤ 2 ^ (shortL r).length := Nat.pow_le_pow_right (by decide) h2
    omega
  · exact h2
theorem plGo_short (n q : Int) (rest out : List Int) : ∀ (run acc deep : Nat), deep + (shortL run).length ≤ 20 → plGo n q (shortL run ++ rest) out acc deep = plGo n q rest out (acc + run * 2 ^ deep) (deep + (shortL run).length) := by
  intro run
  induction run using Nat.strongRecOn with
  | ind r ih =>
    intro acc deep h
    by_cases h0 : 0 < r
    · rw [shortL_pos r h0] at h ⊢
      rw [List.length_cons] at h
      rw [List.cons_append, plGo, if_pos (by omega), if_neg (by omega), ih ((r - 1) / 2) (by omega) _ _ (by omega), List.length_cons]
      have e : acc + ((((r + 1) % 2 : Nat) : Int) + 1).toNat * 2 ^ deep + (r - 1) / 2 * 2 ^ (deep + 1) = acc + r * 2 ^ deep := by
        have e1 : r = ((((r + 1) % 2 : Nat) : Int) + 1).toNat + (r - 1) / 2 * 2 := by omega
        have e2 : (r - 1) / 2 * 2 ^ (deep + 1) = (r - 1) / 2 * 2 * 2 ^ deep := by rw [Nat.pow_succ, Nat.mul_comm (2 ^ deep) 2, Nat.mul_assoc]
        rw [e2, Nat.add_assoc, ← Nat.add_mul, ← e1]
      rw [e, show deep + 1 + (shortL ((r - 1) / 2)).length = deep + ((shortL ((r - 1) / 2)).length + 1) by omega]
    · obtain rfl : r = 0 := by omega
      simp [shortL]
theorem plGo_T (n q : Int) (hn : 1 ≤ n) : ∀ (ps out : List Int) (run : Nat), (∀ p ∈ ps, 0 ≤ p ∧ p < n) → run + ps.length ≤ 1048576 → (out.length : Int) + run + ps.length ≤ q → plGo n q (symT n ps run) out 0 0 = (out ++ List.replicate run 0 ++ ps, 0)
  | [], out, run, _, h1, h2 => by
    simp only [List.length_nil] at h1 h2
    rw [symT, plGo_short n q [n + 1] out run 0 0 (by have := shortL_20 (r := run) (by omega); omega), plGo, if_neg (by omega), if_neg (by omega), if_neg (by omega), if_pos rfl, if_pos rfl]
    simp
  | p :: r, out, run, h, h1, h2 => by
    rw [List.length_cons] at h1 h2
    have hp := h p (List.mem_cons_self ..)
    have hr : ∀ z ∈ r, 0 ≤ z ∧ z < n := fun z hz => h z (List.mem_cons_of_mem _ hz)
    rw [symT]
    by_cases h0 : p = 0
    · rw [if_pos h0, plGo_T n q hn r out (run + 1) hr (by omega) (by omega), h0]
      rw [show run + 1 = run + 1 from rfl, List.replicate_succ']
      simp
    · rw [if_neg h0, plGo_short n q _ out run 0 0 (by have := shortL_20 (r := run) (by omega); omega), plGo, if_neg (by omega), if_neg (by omega), if_neg (by omega), if_neg (by omega), if_neg (by omega)]
      rw [plGo_T n q hn r _ 0 hr (by omega) (by simp only [List.length_append, List.length_replicate, List.length_cons, List.length_nil]; omega)]
      rw [Nat.zero_add, Nat.pow_zero, Nat.mul_one]
      simp
theorem plR_symR (ps : List Int) (n : Int) (hn1 : 1 ≤ n) (hn2 : n ≤ 256) (h : ∀ p ∈ ps, 0 ≤ p ∧ p < n) (hl : ps.length ≤ 1048576) : (symR ps n).2 = 0 ∧ plR (symR ps n).1 n ps.length = (ps, 0) := by
  have hb : ¬ ps.any (badP n) = true := by
    intro hh
    obtain ⟨x, hx, hq⟩ := List.any_eq_true.1 hh
    have := h x hx
    unfold badP at hq
    rw [decide_eq_true_iff] at hq
    omega
  unfold symR
  rw [if_neg (by rintro (h9 | h9 | h9); omega; omega; exact hb h9)]
  refine ⟨rfl, ?_⟩
  unfold plR
  rw [if_neg (by omega)]
  simp only
  rw [symGo_T, List.nil_append, plGo_T n _ hn1 ps [] 0 h (by omega) (by simp)]
  simp
theorem symR_len (ps : List Int) (n : Int) : (symR ps n).1.length ≤ ps.length + 1 := by
  have hT : ∀ (ps : List Int) (run : Nat), (symT n ps run).length ≤ run + ps.length + 1 := by
    intro ps
    induction ps with
    | nil => intro run; rw [symT, List.length_append]; have := shortL_len run; simp; omega
    | cons p r ih =>
      intro run
      rw [symT]
      split
      · have := ih (run + 1); simp; omega
      · have := ih 0
        have := shortL_len run
        rw [List.length_append, List.length_cons, List.length_cons]
        omega
  unfold symR
  split
  · simp
  · simp only
    rw [symGo_T, List.nil_append]
    have := hT ps 0
    omega
theorem packL_in {l : List Int} (h : ∀ x ∈ l, inKind .u8 x) : ∀ y ∈ packL l, inKind .u8 y := by
  induction l using packL.induct with
  | case1 => intro y hy; rw [packL] at hy; cases hy
  | case2 x r ih =>
    intro y hy
    have hm := rl_max x r 258
    have hx := h x (List.mem_cons_self ..)
    rw [packL, List.mem_append, List.mem_append] at hy
    rcases hy with (hy | hy) | hy
    · rw [List.eq_of_mem_replicate hy]; exact hx
    · split at hy
      · rw [List.mem_singleton.1 hy]; exact mk_u8 (by omega) (by omega)
      · cases hy
    · exact ih (fun z hz => h z (List.mem_cons_of_mem _ (List.mem_of_mem_drop hz))) y hy
theorem shortL_in (r : Nat) : ∀ y ∈ shortL r, 0 ≤ y ∧ y ≤ 1 := by
  induction r using Nat.strongRecOn with
  | ind r ih =>
    by_cases h : 0 < r
    · intro y hy
      rw [shortL_pos r h] at hy
      rcases List.mem_cons.1 hy with rfl | hy
      · omega
      · exact ih ((r - 1) / 2) (by omega) y hy
    · obtain rfl : r = 0 := by omega
      intro y hy; simp [shortL] at hy
theorem symT_in (n : Int) (hn : 0 ≤ n ∧ n ≤ 256) : ∀ (ps : List Int) (run : Nat), (∀ p ∈ ps, 0 ≤ p ∧ p < n) → ∀ y ∈ symT n ps run, 0 ≤ y ∧ y ≤ 257
  | [], run, _ => by
    intro y hy
    rw [symT, List.mem_append] at hy
    rcases hy with hy | hy
    · have := shortL_in run y hy; omega
    · rw [List.mem_singleton.1 hy]; omega
  | p :: r, run, h => by
    intro y hy
    have hp := h p (List.mem_cons_self ..)
    have hr : ∀ z ∈ r, 0 ≤ z ∧ z < n := fun z hz => h z (List.mem_cons_of_mem _ hz)
    rw [symT] at hy
    split at hy
    · exact symT_in n hn r (run + 1) hr y hy
    · rcases List.mem_append.1 hy with hy | hy
      · have := shortL_in run y hy; omega
      · rcases List.mem_cons.1 hy with rfl | hy
        · omega
        · exact symT_in n hn r 0 hr y hy
theorem symR_in (ps : List Int) (n : Int) (h : ∀ p ∈ ps, 0 ≤ p ∧ p < n) (hn : n ≤ 256) : ∀ y ∈ (symR ps n).1, inKind .i64 y := by
  intro y hy
  unfold symR at hy
  split at hy
  · cases hy
  · rename_i hq
    simp only at hy
    rw [symGo_T, List.nil_append] at hy
    have := symT_in n (by omega) ps 0 h y hy
    exact mk_i64 (by omega) (by omega)
end Go.Proofs.Yteccmnjcmmbhlaa
