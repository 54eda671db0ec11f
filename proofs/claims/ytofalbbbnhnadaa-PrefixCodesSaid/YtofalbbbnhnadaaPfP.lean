/- Canonical codes: plain. -/
namespace Go.Proofs.Ytofalbbbnhnadaa
set_option linter.unusedVariables false

/-- What a word of this length takes of 2^20. -/
def kr (l : Nat) : Nat := if 0 < l then 2 ^ (20 - l) else 0
def sumK : List Nat → Nat
  | [] => 0
  | l :: r => kr l + sumK r
def cntK : List Nat → Nat
  | [] => 0
  | l :: r => (if 0 < l then 1 else 0) + cntK r
def oneK : List Nat → Nat
  | [] => 0
  | l :: r => (if l = 1 then 1 else 0) + oneK r
theorem sumK_snoc : ∀ (l : List Nat) (x : Nat), sumK (l ++ [x]) = sumK l + kr x
  | [], x => by simp [sumK]
  | y :: r, x => by simp only [List.cons_append, sumK, sumK_snoc r x]; omega
theorem cntK_snoc : ∀ (l : List Nat) (x : Nat), cntK (l ++ [x]) = cntK l + (if 0 < x then 1 else 0)
  | [], x => by simp [cntK]
  | y :: r, x => by simp only [List.cons_append, cntK, cntK_snoc r x]; omega
theorem oneK_snoc : ∀ (l : List Nat) (x : Nat), oneK (l ++ [x]) = oneK l + (if x = 1 then 1 else 0)
  | [], x => by simp [oneK]
  | y :: r, x => by simp only [List.cons_append, oneK, oneK_snoc r x]; omega
theorem kr_le (l : Nat) : kr l ≤ 524288 := by
  unfold kr
  split
  · have : 2 ^ (20 - l) ≤ 2 ^ 19 := Nat.pow_le_pow_right (by omega) (by omega)
    omega
  · omega
theorem kr_pos (l : Nat) (h : 0 < l) : 1 ≤ kr l := by
  unfold kr
  rw [if_pos h]
  exact Nat.two_pow_pos _
theorem sumK_le : ∀ l : List Nat, sumK l ≤ 524288 * l.length
  | [] => by simp [sumK]
  | x :: r => by
    have h1 := sumK_le r
    have h2 := kr_le x
    simp only [sumK, List.length_cons]
    omega
theorem cntK_le : ∀ l : List Nat, cntK l ≤ l.length
  | [] => by simp [cntK]
  | x :: r => by
    have h1 := cntK_le r
    simp only [cntK, List.length_cons]
    split <;> omega
theorem oneK_le : ∀ l : List Nat, oneK l ≤ l.length
  | [] => by simp [oneK]
  | x :: r => by
    have h1 := oneK_le r
    simp only [oneK, List.length_cons]
    split <;> omega
theorem k_zero : ∀ l : List Nat, cntK l = 0 → sumK l = 0 ∧ oneK l = 0
  | [], _ => ⟨rfl, rfl⟩
  | x :: r, h => by
    simp only [cntK] at h
    have hx : ¬ 0 < x := by
      intro hx
      rw [if_pos hx] at h
      omega
    obtain ⟨h1, h2⟩ := k_zero r (by omega)
    simp only [sumK, oneK, kr]
    rw [if_neg hx, if_neg (by omega), h1, h2]
    exact ⟨rfl, rfl⟩
/-- A single word is of length 1 just where its sum is half of all. -/
theorem k_one : ∀ l : List Nat, (∀ x ∈ l, x ≤ 20) → cntK l = 1 → (sumK l = 524288 ↔ oneK l = 1)
  | [], _, h => by simp [cntK] at h
  | x :: r, hl, h => by
    have hx20 := hl x (List.mem_cons_self ..)
    simp only [cntK] at h
    by_cases hx : 0 < x
    · rw [if_pos hx] at h
      obtain ⟨h1, h2⟩ := k_zero r (by omega)
      simp only [sumK, oneK, kr, h1, h2]
      rw [if_pos hx]
      by_cases h3 : x = 1
      · subst h3
        simp
      · rw [if_neg h3]
        have : 2 ^ (20 - x) ≤ 2 ^ 18 := Nat.pow_le_pow_right (by omega) (by omega)
        constructor <;> intro h9 <;> omega
    · rw [if_neg hx] at h
      have h1 := k_one r (fun y hy => hl y (List.mem_cons_of_mem _ hy)) (by omega)
      simp only [sumK, oneK, kr]
      rw [if_neg hx, if_neg (by omega), Nat.zero_add, Nat.zero_add]
      exact h1
/-- A full code's lengths, or, loosely, such as will do. -/
def fullK (l : List Nat) (loose : Bool) : Bool := decide (sumK l = 1048576) || (loose && (decide (cntK l = 0) || (decide (cntK l = 1) && decide (sumK l = 524288))))
theorem fullK_one (l : List Nat) (loose : Bool) (h : ∀ x ∈ l, x ≤ 20) : fullK l loose = (decide (sumK l = 1048576) || (loose && (decide (cntK l = 0) || (decide (cntK l = 1) && decide (oneK l = 1))))) := by
  unfold fullK
  by_cases h1 : cntK l = 1
  · have h2 := k_one l h h1
    have h3 : decide (sumK l = 524288) = decide (oneK l = 1) := by
      rw [decide_eq_decide]
      exact h2
    rw [h3]
  · rw [show decide (cntK l = 1) = false from decide_eq_false h1]
    rfl
/-- A code as it is made: the next word, the words (0, 0: none), the symbols by length. -/
structure Cn where
  next : Nat
  ws : List (Nat × Nat)
  srt : List Nat
def stp (l : Nat) (st : Cn) (s own : Nat) : Cn := if own = l then ⟨(st.next + 1) % 4294967296, st.ws.set s (st.next, l), st.srt ++ [s]⟩ else st
/-- The first k symbols, at the length l. -/
def inK (ls : List Nat) (l : Nat) : Nat → Cn → Cn
  | 0, st => st
  | k + 1, st => stp l (inK ls l k st) k (ls.getD k 0)
/-- .. begins so. -/
def Cn.up (st : Cn) : Cn := { st with next := st.next * 2 % 4294967296 }
/-- Behind the lengths to l. -/
def outK (ls : List Nat) : Nat → Cn
  | 0 => ⟨0, List.replicate ls.length (0, 0), []⟩
  | l + 1 => inK ls (l + 1) ls.length (outK ls l).up
theorem stp_facts (l : Nat) (st : Cn) (s own : Nat) : (stp l st s own).ws.length = st.ws.length ∧ (stp l st s own).srt.length ≤ st.srt.length + 1 := by
  unfold stp
  split
  · simp
  · exact ⟨rfl, Nat.le_succ _⟩
theorem inK_facts (ls : List Nat) (l : Nat) (st : Cn) : ∀ k, (inK ls l k st).ws.length = st.ws.length ∧ (inK ls l k st).srt.length ≤ st.srt.length + k
  | 0 => ⟨rfl, Nat.le_refl _⟩
  | k + 1 => by
    obtain ⟨a, b⟩ := inK_facts ls l st k
    obtain ⟨c, d⟩ := stp_facts l (inK ls l k st) k (ls.getD k 0)
    exact ⟨c.trans a, Nat.le_trans d (by omega)⟩
theorem inK_ge (ls : List Nat) (l : Nat) (st : Cn) : ∀ k, st.srt.length ≤ (inK ls l k st).srt.length
  | 0 => Nat.le_refl _
  | k + 1 => by
    refine Nat.le_trans (inK_ge ls l st k) ?_
    show _ ≤ (stp l (inK ls l k st) k (ls.getD k 0)).srt.length
    unfold stp
    split
    · simp
    · exact Nat.le_refl _
theorem outK_facts (ls : List Nat) : ∀ l, (outK ls l).ws.length = ls.length ∧ (outK ls l).srt.length ≤ l * ls.length
  | 0 => ⟨by simp [outK], by simp [outK]⟩
  | l + 1 => by
    obtain ⟨a, b⟩ := outK_facts ls l
    obtain ⟨c, d⟩ := inK_facts ls (l + 1) (outK ls l).up ls.length
    refine ⟨c.trans a, Nat.le_trans d ?_⟩
    rw [Nat.add_mul, Nat.one_mul]
    show (outK ls l).srt.length + ls.length ≤ _
    omega
/-- What words are. -/
structure Cn.Ok (st : Cn) : Prop where
  next : st.next < 4294967296
  ws : ∀ p ∈ st.ws, p.1 < 4294967296 ∧ p.2 ≤ 20 ∧ (p.2 = 0 → p.1 = 0)
theorem stp_ok (l : Nat) (st : Cn) (s own : Nat) (h : st.Ok) (h1 : 1 ≤ l) (h2 : l ≤ 20) : (stp l st s own).Ok := by
  unfold stp
  split
  · refine ⟨Nat.mod_lt _ (by omega), fun p hp => ?_⟩
    rcases List.mem_or_eq_of_mem_set hp with hp | rfl
    · exact h.ws p hp
    · exact ⟨h.next, h2, fun h9 => by simp only at h9; omega⟩
  · exact h
theorem inK_ok (ls : List Nat) (l : Nat) (st : Cn) (h : st.Ok) (h1 : 1 ≤ l) (h2 : l ≤ 20) : ∀ k, (inK ls l k st).Ok
  | 0 => h
  | k + 1 => stp_ok _ _ _ _ (inK_ok ls l st h h1 h2 k) h1 h2
theorem up_ok {st : Cn} (h : st.Ok) : st.up.Ok := ⟨Nat.mod_lt _ (by omega), h.ws⟩
theorem outK_ok (ls : List Nat) : ∀ l, l ≤ 20 → (outK ls l).Ok
  | 0, _ => ⟨by show 0 < 4294967296; omega, fun p hp => by rw [(List.mem_replicate.1 hp).2]; exact ⟨by show 0 < 4294967296; omega, by show 0 ≤ 20; omega, fun _ => rfl⟩⟩
  | l + 1, h => inK_ok ls (l + 1) _ (up_ok (outK_ok ls l (by omega))) (by omega) h _
end Go.Proofs.Ytofalbbbnhnadaa
