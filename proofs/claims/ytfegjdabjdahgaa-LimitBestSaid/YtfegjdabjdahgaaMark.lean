/- What a call leaves where it marks rows of its own as constant text ('[]byte("..")'): every cell reads as it did. No theorem on the program stands here. -/
import Derived.Test.YtfegjdabjdahgaaHav
import Derived.Laws.IdiomStrings
namespace Go.Proofs.Ytfegjdabjdahgaa
open Go.RowKit
set_option linter.unusedVariables false

/-- Below B nothing has turned; elsewhere cells have not, though their marks may have. -/
structure Mark (B : Nat) (w w' : World) : Prop where
  os : w'.os = w.os
  tape : w'.tape = w.tape
  output : w'.output = w.output
  size : w.heap.size ≤ w'.heap.size
  old : ∀ k, k < w.heap.size → k < B → w'.heap[k]? = w.heap[k]?
  cell : ∀ k, k < w.heap.size → w'.heap[k]? = w.heap[k]? ∨ ∃ c e f f', w.heap[k]? = some (.cells c e f) ∧ w'.heap[k]? = some (.cells c e f')

namespace Mark
variable {B : Nat} {w w1 w2 : World}
theorem refl (w : World) : Mark B w w := ⟨rfl, rfl, rfl, Nat.le_refl _, fun _ _ _ => rfl, fun _ _ => .inl rfl⟩
theorem trans (h : Mark B w w1) (k : Mark B w1 w2) : Mark B w w2 := by
  refine ⟨k.os.trans h.os, k.tape.trans h.tape, k.output.trans h.output, Nat.le_trans h.size k.size, fun i hi hB => (k.old i (Nat.lt_of_lt_of_le hi h.size) hB).trans (h.old i hi hB), fun i hi => ?_⟩
  rcases h.cell i hi with h1 | ⟨c, e, f, f', h1, h2⟩ <;> rcases k.cell i (Nat.lt_of_lt_of_le hi h.size) with k1 | ⟨c', e', g, g', k1, k2⟩
  · exact .inl (k1.trans h1)
  · exact .inr ⟨c', e', g, g', h1 ▸ k1, k2⟩
  · exact .inr ⟨c, e, f, f', h1, k1.trans h2⟩
  · rw [h2] at k1
    injection k1 with k1
    injection k1 with a1 a2 a3
    subst a1; subst a2
    exact .inr ⟨c, e, f, g', h1, k2⟩
theorem of_grow (h : Grow w w1) : Mark B w w1 := ⟨h.os, h.tape, h.output, h.size, fun k hk _ => h.block k hk (fun h => h), fun k hk => .inl (h.block k hk (fun h => h))⟩
theorem drew (h : Mark B w w1) : Mark B w w1.drew := ⟨h.os, h.tape, h.output, h.size, h.old, h.cell⟩
theorem alloc (h : Mark B w w1) (o : Obj) : Mark B w (w1.alloc o) := h.trans (of_grow ((Keeps.refl _ w1).alloc o))
theorem below (h : Mark w.heap.size w w1) : Below w.heap.size w w1 := ⟨h.os, h.tape, h.output, h.size, fun k hk => h.old k hk hk⟩
theorem cell? (h : Mark B w w1) {p : Addr} (hp : p.block < w.heap.size) : w1.cell? p = w.cell? p := by
  rcases h.cell _ hp with h1 | ⟨c, e, f, f', h1, h2⟩
  · exact World.cell?_of_block h1
  · simp only [World.cell?, h1, h2]
theorem cellOf (h : Mark B w w1) {p : Addr} {v : Value} (hp : w.cell? p = some v) : w1.cell? p = some v := by
  rw [h.cell? (World.block_lt_of_cell? w _ hp)]
  exact hp
theorem cells (h : Mark B w w1) {g : Nat} {c : Array Value} {e : TypeId} {f : Nat × Nat} (hg : w.heap[g]? = some (.cells c e f)) : ∃ f', w1.heap[g]? = some (.cells c e f') := by
  rcases h.cell g (Array.getElem?_eq_some_iff.1 hg).1 with h1 | ⟨c', e', f1, f2, h1, h2⟩
  · exact ⟨f, h1.trans hg⟩
  · rw [hg] at h1
    injection h1 with h1
    injection h1 with a1 a2 a3
    subst a1; subst a2
    exact ⟨f2, h2⟩
/-- A row's mark. -/
theorem freeze (h : Mark B w w1) {p : Addr} (hp : B ≤ p.block) (n : Nat) : Mark B w (w1.freeze p n) := by
  refine h.trans ?_
  unfold World.freeze
  split
  · exact refl _
  · refine ⟨rfl, rfl, rfl, by simp, fun k hk hB => ?_, fun k hk => ?_⟩
    · simp only [Array.getElem?_modify]
      rw [if_neg (by omega)]
    · simp only [Array.getElem?_modify]
      by_cases e : p.block = k
      · rw [if_pos e]
        cases ho : w1.heap[k]? with
        | none => exact .inl rfl
        | some o =>
          cases o
          case cells c e f => exact .inr ⟨c, e, f, _, rfl, rfl⟩
          all_goals exact .inl rfl
      · rw [if_neg e]; exact .inl rfl
end Mark

/-- '[]byte("..")' of a constant: the literal's row, marked. -/
theorem run_mark {P : Program} (w : World) (t e : TypeId) (C : Array Value) (f : Nat × Nat) (n c g : Nat) (ht : P.underlying t = some (.slice e)) (he : P.underlying e = some (.int .u8)) (hg : w.heap[g]? = some (.cells C e f)) :
    (convert t t (.slice (some ⟨g, 0, none⟩) n c)).run P w = .ok (.slice (some ⟨g, 0, none⟩) n c) (w.freeze ⟨g, C.size, none⟩ 1) := by
  have hsh : w.shape? g = some (e, C.size) := by
    unfold World.shape?
    rw [hg]
  simp [convert, run_underlying ht, run_underlying he, markStringish, hsh]
/-- What a constant text's row is good for. -/
def Lit8 (B : Nat) (e : TypeId) (cs : List Nat) (v : Value) (w : World) : Prop := ∃ g f, v = .slice (some ⟨g, 0, none⟩) cs.length cs.length ∧ B ≤ g ∧ w.heap[g]? = some (.cells (cs.map fun k : Nat => Value.int .u8 k).toArray e f)
theorem Lit8.mark {B : Nat} {e : TypeId} {cs : List Nat} {v : Value} {w w' : World} (h : Lit8 B e cs v w) (k : Mark B w w') : Lit8 B e cs v w' := by
  obtain ⟨g, f, hv, hB, hg⟩ := h
  obtain ⟨f', hg'⟩ := k.cells hg
  exact ⟨g, f', hv, hB, hg'⟩
theorem Lit8.new (B : Nat) (e : TypeId) (cs : List Nat) (w : World) (hB : B ≤ w.heap.size) : Lit8 B e cs (.slice (some ⟨w.heap.size, 0, none⟩) cs.length cs.length) (w.alloc (.cells (cs.map fun k : Nat => Value.int .u8 k).toArray e)) :=
  ⟨w.heap.size, (0, 0), rfl, hB, heap_alloc_new w _⟩
theorem Lit8.cellAt {B : Nat} {e : TypeId} {cs : List Nat} {g n c : Nat} {w : World} (h : Lit8 B e cs (.slice (some ⟨g, 0, none⟩) n c) w) (j : Nat) (hj : j < cs.length) : w.cell? ⟨g, j, none⟩ = some (.int .u8 (cs.getD j 0 : Nat)) := by
  obtain ⟨g', f, hv, hB, hg⟩ := h
  injection hv with hv _ _
  injection hv with hv
  injection hv with hv _
  subst hv
  simp [World.cell?, hg, List.getD_eq_getElem?_getD, hj]
end Go.Proofs.Ytfegjdabjdahgaa
