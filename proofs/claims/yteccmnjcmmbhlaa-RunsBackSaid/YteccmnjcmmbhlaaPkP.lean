/- Runs of like bytes, written shorter and read again: plain. -/
namespace Go.Proofs.Yteccmnjcmmbhlaa
set_option linter.unusedVariables false

def rl (x : Int) : List Int → Nat → Nat
  | [], _ => 0
  | _ :: _, 0 => 0
  | y :: r, f + 1 => if y = x then rl x r f + 1 else 0

def packL : List Int → List Int
  | [] => []
  | x :: r => (List.replicate (min (rl x r 258 + 1) 4) x ++ if 4 ≤ rl x r 258 + 1 then [((rl x r 258 + 1 - 4 : Nat) : Int)] else []) ++ packL (r.drop (rl x r 258))
termination_by l => l.length
decreasing_by simp; omega

/-- The first n are one run, and no longer one. -/
structure IsRun (l : List Int) (n : Nat) : Prop where
  pos : 1 ≤ n
  len : n ≤ l.length
  max : n ≤ 259
  all : ∀ i, i < n → l.getD i 0 = l.getD 0 0
  end_ : n = l.length ∨ n = 259 ∨ l.getD n 0 ≠ l.getD 0 0

theorem rl_char (x : Int) : ∀ (r : List Int) (f m : Nat), (∀ i, i < m → r.getD i 0 = x) → m ≤ f → m ≤ r.length → (m = r.length ∨ m = f ∨ r.getD m 0 ≠ x) → rl x r f = m
  | [], f, m, _, _, hl, _ => by simp at hl; subst hl; cases f <;> rfl
  | y :: r, 0, m, _, hf, _, _ => by
    obtain rfl : m = 0 := by omega
    rfl
  | y :: r, f + 1, m, h, hf, hl, he => by
    unfold rl
    cases m with
    | zero =>
      have : y ≠ x := by
        rcases he with he | he | he
        · simp at he
        · omega
        · simpa using he
      rw [if_neg this]
    | succ m =>
      have h0 := h 0 (by omega)
      simp at h0
      rw [if_pos h0, rl_char x r f m (fun i hi => by have := h (i + 1) (by omega); simpa using this) (by omega) (by simpa using hl) (by simpa using he)]

theorem IsRun.rl_eq {x : Int} {r : List Int} {n : Nat} (h : IsRun (x :: r) n) : rl x r 258 = n - 1 := by
  have hp := h.pos
  have hl := h.len
  have hm := h.max
  simp at hl
  refine rl_char x r 258 (n - 1) (fun i hi => by have := h.all (i + 1) (by omega); simpa using this) (by omega) (by omega) ?_
  rcases h.end_ with e | e | e
  · simp at e; omega
  · omega
  · obtain ⟨m, rfl⟩ : ∃ m, n = m + 1 := ⟨n - 1, by omega⟩
    right; right
    simpa using e
theorem packL_run {l : List Int} {n : Nat} (h : IsRun l n) : packL l = (List.replicate (min n 4) (l.getD 0 0) ++ if 4 ≤ n then [(n : Int) - 4] else []) ++ packL (l.drop n) := by
  cases l with
  | nil => have h1 := h.pos; have h2 := h.len; simp at h2; omega
  | cons x r =>
    have hp := h.pos
    rw [packL, h.rl_eq, show n - 1 + 1 = n by omega]
    obtain ⟨m, rfl⟩ : ∃ m, n = m + 1 := ⟨n - 1, by omega⟩
    simp only [Nat.add_sub_cancel, List.drop_succ_cons, List.getD_cons_zero]
    congr 2
    split
    · rw [show ((m + 1 - 4 : Nat) : Int) = ((m + 1 : Nat) : Int) - 4 by omega]
    · rfl
theorem IsRun.take {l : List Int} {n : Nat} (h : IsRun l n) (m : Nat) (hm : m ≤ n) : l.take m = List.replicate m (l.getD 0 0) := by
  have hl := h.len
  apply List.ext_getElem?
  intro i
  by_cases hi : i < m
  · have h1 := h.all i (by omega)
    simp only [List.getD_eq_getElem?_getD] at h1
    rw [List.getElem?_take, if_pos hi, List.getElem?_replicate, if_pos hi]
    simp only [List.getD_eq_getElem?_getD]
    rw [← h1, List.getElem?_eq_getElem (show i < l.length by omega)]
    rfl
  · rw [List.getElem?_eq_none (by simp; omega), List.getElem?_eq_none (by simp; omega)]

/-- Reads a text of runs: what is left, the byte ahead, how many are like, what came out. -/
def unp (most : Int) : List Int → Int → Nat → List Int → List Int × Int
  | [], _, like, out => if like = 4 then ([], 10) else (out, 0)
  | c :: r, p, like, out =>
    if like = 4 then (if most - (out.length : Int) < c then ([], 3) else unp most r c 0 (out ++ List.replicate c.toNat p))
    else if (out.length : Int) = most then ([], 3)
    else unp most r c (if 0 < like ∧ c = p then like + 1 else 1) (out ++ [c])
theorem unp_end (most p : Int) (like : Nat) (out : List Int) : unp most [] p like out = if like = 4 then ([], 10) else (out, 0) := rfl
theorem unp_step (most p : Int) (xs : List Int) (i like : Nat) (out : List Int) (h : i < xs.length) : unp most (xs.drop i) p like out =
    if like = 4 then (if most - (out.length : Int) < xs.getD i 0 then ([], 3) else unp most (xs.drop (i + 1)) (xs.getD i 0) 0 (out ++ List.replicate (xs.getD i 0).toNat p))
    else if (out.length : Int) = most then ([], 3)
    else unp most (xs.drop (i + 1)) (xs.getD i 0) (if 0 < like ∧ xs.getD i 0 = p then like + 1 else 1) (out ++ [xs.getD i 0]) := by
  rw [List.drop_eq_getElem_cons h]
  have e : xs.getD i 0 = xs[i] := by simp [List.getD_eq_getElem?_getD, h]
  rw [e]
  rfl
end Go.Proofs.Yteccmnjcmmbhlaa
