/- volume: rows of parts, the set of numbers, the sort. -/
import Derived.Test.YtnjdhkaabpmahaaVjB
import Derived.Test.YtnjdhkaabpmahaaRow
import Derived.Maps.OwnOps
namespace Go.Proofs.Ytnjdhkaabpmahaa
open Go.RowKit
set_option linter.unusedVariables false
set_option linter.unusedSimpArgs false

theorem Try.infoPart : (Try.prog.info? 51).map (fun i => (i.zero, i.size, i.bytes)) = some (some (.agg #[.int .i64 0, .int .i64 0, .int .i64 0, .int .u32 0, .slice none 0 0]), 5, 56) := by kernel_rfl
/-- A part as it lies: number, count, all, sum; its share's slice. -/
abbrev PV := (Nat × Nat × Nat × Nat) × (Option Addr × Nat × Nat)
def encP (p : PV) : List Value := [.int .i64 (p.1.1 : Nat), .int .i64 (p.1.2.1 : Nat), .int .i64 (p.1.2.2.1 : Nat), .int .u32 (p.1.2.2.2 : Nat), .slice p.2.1 p.2.2.1 p.2.2.2]
theorem encP_len (p : PV) : (encP p).length = 5 := rfl
theorem encP_one (p : PV) : ∀ v ∈ encP p, v.oneCell' = true := fun v hv => by
  simp only [encP, List.mem_cons, List.not_mem_nil, or_false] at hv
  rcases hv with rfl | rfl | rfl | rfl | rfl <;> rfl
def cellsP (L : List PV) : List Value := L.flatMap encP
theorem cellsP_snoc (L : List PV) (a : PV) : cellsP (L ++ [a]) = cellsP L ++ encP a := by simp [cellsP]
theorem cellsP_len : ∀ L : List PV, (cellsP L).length = L.length * 5
  | [] => rfl
  | a :: L => by
    show (encP a ++ cellsP L).length = _
    rw [List.length_append, cellsP_len L, encP_len, List.length_cons]; omega
theorem cellsP_one (L : List PV) : ∀ v ∈ cellsP L, v.oneCell' = true := fun v hv => by
  obtain ⟨p, _, h⟩ := List.mem_flatMap.1 hv
  exact encP_one p v h
theorem cellsP_at : ∀ (L : List PV) (i : Nat) (a : PV), L[i]? = some a → ∀ j, j < 5 → (cellsP L)[i * 5 + j]? = (encP a)[j]?
  | b :: L, 0, a, h, j, hj => by
    have h : b = a := by simpa using h
    subst h
    show (encP b ++ cellsP L)[0 * 5 + j]? = _
    rw [Nat.zero_mul, Nat.zero_add, List.getElem?_append_left (by show j < 5; exact hj)]
  | b :: L, i + 1, a, h, j, hj => by
    have h : L[i]? = some a := by simpa using h
    show (encP b ++ cellsP L)[(i + 1) * 5 + j]? = _
    rw [List.getElem?_append_right (by show 5 ≤ _; omega)]
    show (cellsP L)[(i + 1) * 5 + j - 5]? = _
    rw [show (i + 1) * 5 + j - 5 = i * 5 + j by omega]
    exact cellsP_at L i a h j hj
/-- A row of parts that the call owns. -/
def PRow (w : World) (B : Nat) (A : Option Addr) (n c : Nat) (L : List PV) : Prop := w.ownsRow B 51 5 (.slice A n c) n (cellsP L)
theorem PRow.len {w : World} {B n c : Nat} {A : Option Addr} {L : List PV} (h : PRow w B A n c L) : L.length = n := by
  have h1 := h.1
  rw [cellsP_len] at h1
  omega
theorem PRow.cells {w : World} {B n c : Nat} {A : Option Addr} {L : List PV} (h : PRow w B A n c L) (hn : 0 < n) : ∃ g, A = some ⟨g, 0, none⟩ ∧ B ≤ g ∧ g < w.heap.size ∧ ∀ i p, L[i]? = some p → ∀ j v, (encP p)[j]? = some v → w.cell? ⟨g, i * 5 + j, none⟩ = some v ∧ w.frozen? ⟨g, i * 5 + j, none⟩ = false := by
  rcases h.2 with ⟨_, h0⟩ | ⟨g, cap, cur, hv, hB, hh, r⟩
  · omega
  · injection hv with e1 e2 e3
    subst e1
    refine ⟨g, rfl, hB, blk_lt hh, fun i p hp j v hj => ⟨?_, blk_frozen hh _⟩⟩
    have hi : i < L.length := (List.getElem?_eq_some_iff.1 hp).1
    have hj5 : j < 5 := (List.getElem?_eq_some_iff.1 hj).1
    have hl := h.len
    have h1 := h.cellAt (i * 5 + j) (by omega)
    rw [h1, cellsP_at L i p hp j hj5, hj]
theorem PRow.keep {S : Nat → Prop} {w w' : World} {B n c : Nat} {A : Option Addr} {L : List PV} (h : PRow w B A n c L) (k : Keeps S w w') (hS : ∀ b, B ≤ b → b < w.heap.size → ¬ S b) : PRow w' B A n c L :=
  owns_keep h k fun i hi => hS i (own_ge h i hi) (row_lt h i hi)
theorem PRow.grow {w w' : World} {B n c : Nat} {A : Option Addr} {L : List PV} (h : PRow w B A n c L) (k : Grow w w') : PRow w' B A n c L := h.keep k fun _ _ _ h => h

/-! ### The set of numbers -/
theorem lawI : Go.Maps.Keyed Try.prog 3 := Go.Maps.int_keyed Try.underlying3
theorem zeroB (w : World) : (zeroValue 4).run Try.prog w = .ok (.bool false) w := by kernel_rfl
theorem plainElem_bool_inv {P : Program} {e : TypeId} (he : P.underlying e = some .bool) {v : Value} {z : DataW Unit × List MemPlace} (h : plainElem P e v = some z) : ∃ x, v = .bool x ∧ z = (.lit (.bool x), []) := by
  unfold plainElem at h
  rw [he] at h
  cases v <;> simp at h
  exact ⟨_, rfl, h.symm⟩
def MapS (w : World) (g n : Nat) (S : Nat → Bool) : Prop :=
  ∃ D : DataW Unit, w.ownsMap Try.prog 3 (plainElem Try.prog 4) g n D ∧ Go.Maps.IsMap D ∧ ∀ k : Nat, D.atKey (.int .i64 (k : Int)) (.lit (.bool false)) = .lit (.bool (S k))
theorem MapS.new (w : World) : MapS (w.alloc (.map #[] 0)) w.heap.size 0 (fun _ => false) :=
  ⟨.map [], World.ownsMap_made _ _ _ _, Go.Maps.isMap_empty, fun k => rfl⟩
theorem MapS.keep {S : Nat → Prop} {w w' : World} {g n : Nat} {F : Nat → Bool} (h : MapS w g n F) (k : Keeps S w w') (hS : ¬ S g) : MapS w' g n F := by
  obtain ⟨D, ⟨es, clock, hb, r⟩, r2⟩ := h
  exact ⟨D, ⟨es, clock, (k.block g (Array.getElem?_eq_some_iff.1 hb).1 hS).trans hb, r⟩, r2⟩
theorem MapS.lt {w : World} {g n : Nat} {F : Nat → Bool} (h : MapS w g n F) : g < w.heap.size := by
  obtain ⟨D, h, _⟩ := h
  exact h.lt
theorem wf_nat {k : Nat} (hk : k < 65536) : (Lit.int .i64 (k : Int)).wf = true := by
  have h1 : IntKind.i64.min = -9223372036854775808 := rfl
  have h2 : IntKind.i64.max = 9223372036854775807 := rfl
  have h3 : (-9223372036854775808 : Int) ≤ (k : Int) := by omega
  have h4 : (k : Int) ≤ 9223372036854775807 := by omega
  show (decide (IntKind.i64.min ≤ (k : Int)) && decide ((k : Int) ≤ IntKind.i64.max)) = true
  rw [h1, h2, decide_eq_true h3, decide_eq_true h4]
  rfl
set_option maxRecDepth 100000 in
theorem MapS.look {w : World} {g n k : Nat} {F : Nat → Bool} (h : MapS w g n F) (hk : k < 65536) : (Instr.lookup 67 (.map (some g)) (.int .i64 (k : Nat)) false).run Try.prog w = .ok (.bool (F k)) w := by
  obtain ⟨D, ho, _, hat⟩ := h
  obtain ⟨v, ps, hrun, hv⟩ := ho.lookup (t := 67) lawI Try.underlying67 (zeroB w) (plainElem_bool Try.underlying4 false) (Go.Maps.keyOf_int_mk Try.underlying3 (wf_nat hk))
  rw [hat k] at hv
  obtain ⟨x, rfl, hx⟩ := plainElem_bool_inv Try.underlying4 hv
  injection hx with h1 _
  injection h1 with h1
  injection h1 with h1
  rw [hrun, h1]
theorem wpList_putS {w : World} {ops : Array Oper} {rest : List Oper} {o : Oper} {a : Act} {Q : Exit → Act → World → Prop} (hg : o.guard = none) (m x v : Operand) (hop : o.op = Op.mapUpdate 67 m x v)
    (g n k : Nat) (F : Nat → Bool) (hm : a.eval m = .map (some g)) (h : MapS w g n F) (hn : n < maxLen) (hx : a.eval x = .int .i64 (k : Nat)) (hv : a.eval v = .bool true) (hk : k < 65536)
    (hK : ∀ w', MapS w' g (n + 1) (fun j => F j || (j == k)) → Keeps (fun b => b = g) w w' → wpList Try.prog ops Q rest (a.put o.dst undef) w') : wpList Try.prog ops Q (o :: rest) a w := by
  obtain ⟨D, ho, hi, hat⟩ := h
  refine wpList_mapUpdate_own w hg m x v 67 hop 3 4 lawI Try.underlying67 _ g n D hm ho hn _ _ _ hx hv (Go.Maps.keyOf_int_mk Try.underlying3 (wf_nat hk)) _ [] (plainElem_bool Try.underlying4 true) fun w' ho' hg' => ?_
  refine hK w' ⟨_, ho', hi.put _ _, fun j => ?_⟩ ⟨hg'.os, hg'.tape, hg'.output, hg'.size, fun i hi hne => hg'.block i hi fun e => hne (by injection e)⟩
  by_cases hj : j = k
  · subst hj
    rw [Go.Maps.atKey_put_same hi (by trivial)]
    simp
  · rw [Go.Maps.atKey_put_other (fun e => hj (by injection e with _ e; omega)), hat j]
    simp [hj]
end Go.Proofs.Ytnjdhkaabpmahaa
