/- 'make([]T, n)' of a T of any cells; a block of pairs. No theorem on the program stands here. -/
import Derived.Test.YtfegjdabjdahgaaNums
import Derived.Test.YtfegjdabjdahgaaMake
namespace Go.Proofs.Ytfegjdabjdahgaa
open Go.RowKit
set_option linter.unusedVariables false

theorem wpList_makeG {P : Program} {w : World} {ops : Array Oper} {rest : List Oper} {o : Oper} {a : Act} {Q : Exit → Act → World → Prop}
    (hg : o.guard = none) (l c : Operand) (t e : TypeId) (hop : o.op = Op.makeSlice t l c)
    {z : Value} {size bytes : Nat} (h1 : P.underlying t = some (.slice e)) (hinfo : (P.info? e).map (fun i => (i.zero, i.size, i.bytes)) = some (some z, size, bytes))
    (n : Nat) (hl : a.eval l = .int .i64 n) (hc : a.eval c = .int .i64 n) (b2 : bytes * n ≤ 281474976710656) (b3 : n ≤ maxLen)
    (hK : wpList P ops Q rest (a.put o.dst (.slice (some ⟨w.heap.size, 0, none⟩) n n)) (w.alloc (.cells (madeCells z.cells (n * size)) e))) :
    wpList P ops Q (o :: rest) a w := by
  obtain ⟨i, hi, hz, h4, h5⟩ := info_parts hinfo
  refine wpList_plain hg fun K hK' => ?_
  have h63' : (n : Int) ≤ 9223372036854775807 := by simp [maxLen] at b3; omega
  have hb' : (i.bytes : Int) * (n : Int) ≤ 281474976710656 := by
    have h : ((i.bytes * n : Nat) : Int) ≤ 281474976710656 := by rw [h5]; omega
    rwa [Int.natCast_mul] at h
  have hr := run_make (P := P) w t e i z h1 hi hz .i64 .i64 n n (by omega) (Int.le_refl _) hb' h63'
  simp only [Int.toNat_natCast] at hr
  rw [h4] at hr
  unfold Oper.wp
  have hex : (execOp a.eval o).run P w = .ok (.value (.slice (some ⟨w.heap.size, 0, none⟩) n n)) (w.alloc (.cells (madeCells z.cells (n * size)) e)) := by
    obtain ⟨d, op, ty, p, af, g⟩ := o
    simp only at hop
    subst hop
    show (Instr.makeSlice t (a.eval l) (a.eval c) >>= fun v => (pure (Next.value v) : Sem Next)).run P w = _
    rw [Sem.run_bind, hl, hc, hr]
    rfl
  rw [hex]
  exact hK' _ _ hK
/-- An operation that gives a value and leaves the world. -/
theorem wpList_val {P : Program} {w : World} {ops : Array Oper} {rest : List Oper} {o : Oper} {a : Act} {Q : Exit → Act → World → Prop}
    (hg : o.guard = none) (v : Value) (hex : (execOp a.eval o).run P w = .ok (.value v) w) (hK : wpList P ops Q rest (a.put o.dst v) w) :
    wpList P ops Q (o :: rest) a w := by
  refine wpList_plain hg fun K hK' => ?_
  unfold Oper.wp
  rw [hex]
  exact hK' _ _ hK
theorem rowf {w : World} {b e size n : Nat} {v : Value} {xs : List Value} (h : w.ownsRow b e size v n xs) : ∃ A c, v = .slice A n c := by
  rcases h.2 with ⟨rfl, rfl⟩ | ⟨g, cap, cur, rfl, _⟩
  · exact ⟨_, _, rfl⟩
  · exact ⟨_, _, rfl⟩
theorem ckp {S : Nat → Prop} {w w' : World} {p : Addr} {u : Value} (h : w.cell? p = some u) (k : Keeps S w w') (hp : ¬ S p.block) : w'.cell? p = some u := by
  rw [← h]
  exact World.cell?_of_block (k.block _ (World.block_lt_of_cell? w _ h) hp)
theorem gk {S : Nat → Prop} {w w1 : World} (h : Grow w w1) : Keeps S w w1 := h.mono fun _ _ h => h.elim
/-- A block of words: a number and a length each. -/
def WordsAt (w : World) (gw t : Nat) (ws : List (Nat × Nat)) : Prop := ∃ cs : Array Value, w.heap[gw]? = some (.cells cs t (0, 0)) ∧ cs.size = ws.length * 2 ∧ ∀ s p, ws[s]? = some p → cs[s * 2]? = some (.int .u32 (p.1 : Nat)) ∧ cs[s * 2 + 1]? = some (.int .i64 (p.2 : Nat))
namespace WordsAt
variable {w w' : World} {gw t : Nat} {ws : List (Nat × Nat)}
theorem keep {S : Nat → Prop} (h : WordsAt w gw t ws) (k : Keeps S w w') (hg : ¬ S gw) : WordsAt w' gw t ws := by
  obtain ⟨cs, h1, h2, h3⟩ := h
  exact ⟨cs, block_keep h1 k hg, h2, h3⟩
theorem lt (h : WordsAt w gw t ws) : gw < w.heap.size := by
  obtain ⟨cs, h1, _⟩ := h
  exact blk_lt h1
theorem made (w : World) (n t : Nat) : WordsAt (w.alloc (.cells (madeCells #[.int .u32 0, .int .i64 0] (n * 2)) t)) w.heap.size t (List.replicate n (0, 0)) := by
  refine ⟨_, heap_alloc_new w _, by rw [size_madeCells, List.length_replicate], fun s p hp => ?_⟩
  have hs : s < n := by
    by_cases h : s < n
    · exact h
    · rw [List.getElem?_eq_none (by simpa using Nat.le_of_not_lt h)] at hp
      cases hp
  have hpp : p = (0, 0) := by
    have := List.mem_of_getElem? hp
    exact (List.mem_replicate.1 this).2
  subst hpp
  unfold madeCells
  simp only [Array.getElem?_map]
  rw [Array.getElem?_eq_getElem (by simp; omega), Array.getElem?_eq_getElem (by simp; omega)]
  simp only [Option.map_some, Array.getElem_range]
  constructor
  · rw [show s * 2 % (#[Value.int .u32 0, Value.int .i64 0] : Array Value).size = 0 by show s * 2 % 2 = 0; omega]; rfl
  · rw [show (s * 2 + 1) % (#[Value.int .u32 0, Value.int .i64 0] : Array Value).size = 1 by show (s * 2 + 1) % 2 = 1; omega]; rfl
theorem cell0 (h : WordsAt w gw t ws) (s : Nat) (p : Nat × Nat) (hp : ws[s]? = some p) : w.cell? ⟨gw, s * 2, none⟩ = some (.int .u32 (p.1 : Nat)) ∧ w.cell? ⟨gw, s * 2 + 1, none⟩ = some (.int .i64 (p.2 : Nat)) := by
  obtain ⟨cs, h1, h2, h3⟩ := h
  obtain ⟨a, b⟩ := h3 s p hp
  exact ⟨by rw [blk_cell h1]; exact a, by rw [blk_cell h1]; exact b⟩
theorem frozen (h : WordsAt w gw t ws) (s : Nat) : w.frozen? ⟨gw, s, none⟩ = false := by
  obtain ⟨cs, h1, h2, h3⟩ := h
  exact blk_frozen h1 s
/-- A word is stored. -/
theorem set (h : WordsAt w gw t ws) (s : Nat) (hs : s < ws.length) (a b : Nat) : WordsAt ((w.setCell ⟨gw, s * 2, none⟩ (.int .u32 a)).setCell ⟨gw, s * 2 + 1, none⟩ (.int .i64 b)) gw t (ws.set s (a, b)) := by
  obtain ⟨cs, h1, h2, h3⟩ := h
  refine ⟨_, blk_set (blk_set h1 (s * 2) (.int .u32 a)) (s * 2 + 1) (.int .i64 b), by simp [h2], fun k p hp => ?_⟩
  by_cases hk : k = s
  · subst hk
    rw [List.getElem?_set_self hs] at hp
    injection hp with hp
    subst hp
    constructor
    · rw [Array.getElem?_setIfInBounds_ne (by omega), Array.getElem?_setIfInBounds_self_of_lt (by omega)]
    · rw [Array.getElem?_setIfInBounds_self_of_lt (by simp; omega)]
  · rw [List.getElem?_set_ne (fun h => hk h.symm)] at hp
    obtain ⟨q1, q2⟩ := h3 k p hp
    constructor
    · rw [Array.getElem?_setIfInBounds_ne (by omega), Array.getElem?_setIfInBounds_ne (by omega)]
      exact q1
    · rw [Array.getElem?_setIfInBounds_ne (by omega), Array.getElem?_setIfInBounds_ne (by omega)]
      exact q2
end WordsAt
end Go.Proofs.Ytfegjdabjdahgaa
