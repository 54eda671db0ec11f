/- Arrays of numbers by value: a block that is a row of N numbers of one kind; its loads and stores as one. -/
import Derived.Test.YteccmnjcmmbhlaaHold
import Derived.Deep.MidRow
import Derived.Deep.WholeRow
import Derived.Laws.IdiomCopy
namespace Go.Proofs.Yteccmnjcmmbhlaa
set_option linter.unusedVariables false
set_option linter.unusedSimpArgs false

/-- A row of N numbers as a value. -/
def rowv (k : IntKind) (N : Nat) (m : Nat → Nat) : Array Value := ((List.range N).map fun i => Value.int k (m i : Nat)).toArray
theorem rowv_size (k : IntKind) (N : Nat) (m : Nat → Nat) : (rowv k N m).size = N := by simp [rowv]
theorem rowv_get (k : IntKind) (N : Nat) (m : Nat → Nat) (i : Nat) (hi : i < N) : (rowv k N m)[i]? = some (.int k (m i : Nat)) := by simp [rowv, hi]
theorem rowv_ext {k : IntKind} {N : Nat} {c : Array Value} {m : Nat → Nat} (hs : c.size = N) (h : ∀ i, i < N → c[i]? = some (.int k (m i : Nat))) : c = rowv k N m := by
  apply Array.ext_getElem?
  intro j
  by_cases hj : j < N
  · rw [h j hj, rowv_get k N m j hj]
  · rw [Array.getElem?_eq_none (by omega), Array.getElem?_eq_none (by rw [rowv_size]; omega)]
theorem rowv_congr {k : IntKind} {N : Nat} {f g : Nat → Nat} (h : ∀ i, i < N → f i = g i) : rowv k N f = rowv k N g :=
  rowv_ext (rowv_size _ _ _) fun i hi => by rw [rowv_get _ _ _ i hi, h i hi]
theorem rowv_set (k : IntKind) (N : Nat) (m : Nat → Nat) (i v : Nat) (hi : i < N) : (rowv k N m).setIfInBounds i (.int k (v : Nat)) = rowv k N (fun j => if j = i then v else m j) := by
  refine rowv_ext (by rw [Array.size_setIfInBounds, rowv_size]) fun j hj => ?_
  rw [Array.getElem?_setIfInBounds]
  by_cases h : i = j
  · subst h; simp [rowv_size, hi]
  · rw [if_neg h, rowv_get _ _ _ j hj, if_neg (fun e => h e.symm)]
theorem rowv_one (k : IntKind) (N : Nat) (m : Nat → Nat) : (rowv k N m).all (·.oneCell') = true := by
  rw [Array.all_eq_true_iff_forall_mem]
  intro v hv
  obtain ⟨i, _, rfl⟩ := List.mem_map.1 (by simpa [rowv] using hv : v ∈ (List.range N).map fun i => Value.int k (m i : Nat))
  rfl
theorem rowv_zero (k : IntKind) (N : Nat) : Array.replicate N (Value.int k 0) = rowv k N (fun _ => 0) :=
  rowv_ext (by simp) fun i hi => by simp [hi]

/-- Block g is a row of N numbers. -/
def Rw (w : World) (g : Nat) (t : TypeId) (k : IntKind) (N : Nat) (m : Nat → Nat) : Prop := w.heap[g]? = some (.cells (rowv k N m) t (0, 0))
section
variable {w w' : World} {g N : Nat} {t : TypeId} {k : IntKind} {m : Nat → Nat}
theorem Rw.keep {S : Nat → Prop} (h : Rw w g t k N m) (kk : Keeps S w w') (hg : ¬ S g) : Rw w' g t k N m := block_keep h kk hg
theorem Rw.cell (h : Rw w g t k N m) (i : Nat) (hi : i < N) : w.cell? ⟨g, i, none⟩ = some (.int k (m i : Nat)) := by rw [blk_cell h i]; exact rowv_get k N m i hi
theorem Rw.congr {f : Nat → Nat} (h : Rw w g t k N f) (e : ∀ i, i < N → f i = m i) : Rw w g t k N m := by
  unfold Rw at h ⊢
  rw [← rowv_congr e]
  exact h
theorem Rw.put (h : Rw w g t k N m) (i v : Nat) (hi : i < N) : Rw (w.setCell ⟨g, i, none⟩ (.int k (v : Nat))) g t k N (fun j => if j = i then v else m j) := by
  unfold Rw
  rw [← rowv_set k N m i v hi]
  exact blk_set h i _
theorem Rw.range (h : Rw w g t k N m) : w.rangeAt g 0 (rowv k N m).toList := fun j v hv => by
  rw [Nat.zero_add, blk_cell h j]
  simpa using hv
theorem Rw.there (h : Rw w g t k N m) (n : Nat) (hn : n = N) : w.there g 0 n := fun j hj => by
  subst hn
  rw [Nat.zero_add]
  exact ⟨by rw [h.cell j hj]; rfl, blk_frozen h j⟩
variable {P : Program} {d : TypeDesc}
theorem Rw.loadVar (h : Rw w g t k N m) (hu : P.underlying t = some d) (hd : d.isRow = true) (hi : (P.info? t).map (·.size) = some N) : (loadVar t ⟨g, 0, none⟩).run P w = .ok (.agg (rowv k N m)) w := by
  have := run_loadVar_mid (P := P) w g 0 t (rowv k N m).toList d h.range hu hd (by rw [hi, Array.length_toList, rowv_size])
  simpa using this
theorem Rw.load (h : Rw w g t k N m) (hu : P.underlying t = some d) (hd : d.isRow = true) (hi : (P.info? t).map (·.size) = some N) : (Instr.loadAt t (.pointer (some ⟨g, 0, none⟩))).run P w = .ok (.agg (rowv k N m)) w := by
  have := run_loadAt_mid (P := P) w g 0 t (rowv k N m).toList d h.range hu hd (by rw [hi, Array.length_toList, rowv_size])
  simpa using this
end

/-! ### A whole row is stored -/
def setAll (cs : Array Value) : Nat → List Value → Array Value
  | _, [] => cs
  | o, v :: r => setAll (cs.setIfInBounds o v) (o + 1) r
theorem blk_setCells {g : Nat} {t : TypeId} : ∀ (vs : List Value) (o : Nat) (w : World) (cs : Array Value), w.heap[g]? = some (.cells cs t (0, 0)) → (w.setCells g o vs).heap[g]? = some (.cells (setAll cs o vs) t (0, 0))
  | [], _, _, _, h => h
  | v :: r, o, w, cs, h => blk_setCells r (o + 1) _ _ (blk_set h o v)
theorem keeps_setCells {S : Nat → Prop} {g : Nat} (hg : S g) : ∀ (vs : List Value) (o : Nat) (w w1 : World), Keeps S w w1 → Keeps S w (w1.setCells g o vs)
  | [], _, _, _, h => h
  | v :: r, o, w, w1, h => keeps_setCells hg r (o + 1) w _ (h.setCell (p := ⟨g, o, none⟩) (fun _ => hg) v)
theorem setAll_get : ∀ (vs : List Value) (o : Nat) (cs : Array Value) (j : Nat), j < cs.size → (setAll cs o vs)[j]? = if o ≤ j ∧ j < o + vs.length then vs[j - o]? else cs[j]?
  | [], o, cs, j, _ => by
    rw [if_neg (by simp only [List.length_nil]; omega)]
    rfl
  | v :: r, o, cs, j, hj => by
    show (setAll (cs.setIfInBounds o v) (o + 1) r)[j]? = _
    rw [setAll_get r (o + 1) _ j (by simpa using hj), List.length_cons]
    by_cases h1 : o + 1 ≤ j ∧ j < o + 1 + r.length
    · rw [if_pos h1, if_pos (by omega), show j - o = (j - (o + 1)) + 1 from by omega, List.getElem?_cons_succ]
    · rw [if_neg h1, Array.getElem?_setIfInBounds]
      by_cases h2 : o = j
      · subst h2
        rw [if_pos rfl, if_pos (by omega), if_pos (by omega), Nat.sub_self]
        rfl
      · rw [if_neg h2, if_neg (by omega)]
theorem setAll_size : ∀ (vs : List Value) (o : Nat) (cs : Array Value), (setAll cs o vs).size = cs.size
  | [], _, _ => rfl
  | v :: r, o, cs => by
    show (setAll (cs.setIfInBounds o v) (o + 1) r).size = _
    rw [setAll_size r, Array.size_setIfInBounds]
theorem setAll_row (k k' : IntKind) (N : Nat) (m m' : Nat → Nat) : setAll (rowv k N m) 0 (rowv k' N m').toList = rowv k' N m' := by
  refine rowv_ext (by rw [setAll_size, rowv_size]) fun j hj => ?_
  rw [setAll_get _ 0 _ j (by rw [rowv_size]; exact hj), if_pos (by rw [Array.length_toList, rowv_size]; omega), Nat.sub_zero]
  simpa using rowv_get k' N m' j hj
section
variable {P : Program} {w : World} {g N : Nat} {t : TypeId} {k : IntKind} {m : Nat → Nat} {d : TypeDesc}
theorem Rw.stored (h : Rw w g t k N m) (m' : Nat → Nat) : Rw (w.setCells g 0 (rowv k N m').toList) g t k N m' := by
  have := blk_setCells (rowv k N m').toList 0 w (rowv k N m) h
  rwa [setAll_row] at this
/-- A whole row is stored where the walk has opened the store to 'storeCells'. -/
theorem Rw.over (h : Rw w g t k N m) (m' : Nat → Nat) : ∃ w', (Go.storeCells ⟨g, 0, none⟩ (rowv k N m').toList).run P w = .ok () w' ∧ Rw w' g t k N m' ∧ Keeps (fun j => j = g) w w' := by
  have := run_storeCells_cells (P := P) g 0 (rowv k N m').toList 0 w (fun j hj => by
    have hj : j < N := by rw [Array.length_toList, rowv_size] at hj; exact hj
    rw [show 0 + 0 + j = j from by omega, h.cell j hj]; rfl) (fun j hj => by exact blk_frozen h _)
    (fun v hv => (Array.all_eq_true_iff_forall_mem.1 (rowv_one k N m')) v (by simpa using hv))
  exact ⟨_, by simpa using this, h.stored m', keeps_setCells (S := fun j => j = g) rfl _ _ _ _ (Keeps.refl _ _)⟩
variable {ops : Array Oper} {rest : List Oper} {op : Oper} {a : Act} {Q : Exit → Act → World → Prop}
theorem wpList_load_row (hg : op.guard = none) (x : Operand) (ho : op.op = .load t x) (g : Nat) (hx : a.eval x = .pointer (some ⟨g, 0, none⟩)) (h : Rw w g t k N m) (hu : P.underlying t = some d) (hd : d.isRow = true) (hi : (P.info? t).map (·.size) = some N)
    (hk : wpList P ops Q rest (a.put op.dst (.agg (rowv k N m))) w) : wpList P ops Q (op :: rest) a w :=
  wpList_load_mid (P := P) (ops := ops) (rest := rest) (Q := Q) hg t x ho g 0 hx (rowv k N m).toList d h.range hu hd (by rw [hi, Array.length_toList, rowv_size]) (by simpa using hk)
theorem wpList_store_row (hg : op.guard = none) (x y : Operand) (ho : op.op = .store t x y) (g : Nat) (hx : a.eval x = .pointer (some ⟨g, 0, none⟩)) (m' : Nat → Nat) (hy : a.eval y = .agg (rowv k N m')) (h : Rw w g t k N m) (hi : (P.info? t).map (·.size) = some N)
    (hk : ∀ w', Rw w' g t k N m' → Keeps (fun j => j = g) w w' → wpList P ops Q rest (a.put op.dst undef) w') : wpList P ops Q (op :: rest) a w :=
  wpList_store_mid hg t x y ho g 0 (rowv k N m') hx hy (h.there _ (rowv_size _ _ _)) (by rw [hi, rowv_size]) (rowv_one k N m') (hk _ (h.stored m') (keeps_setCells (S := fun j => j = g) rfl _ _ _ _ (Keeps.refl _ _)))
theorem results_row {fn : Func} {s : Tmp} {tmps : Array Value} (hf : fn.results = #[.cell s t]) (ht : tmps.getD s undef = .pointer (some ⟨g, 0, none⟩)) (h : Rw w g t k N m) (hu : P.underlying t = some d) (hd : d.isRow = true) (hi : (P.info? t).map (·.size) = some N) :
    (results fn tmps).run P w = .ok (.agg (rowv k N m)) w := by
  have hl := h.loadVar (P := P) hu hd hi
  unfold results
  rw [hf]
  have ht' : tmps[s]?.getD undef = .pointer (some ⟨g, 0, none⟩) := by rw [← ht]; simp
  simp [asAddr, ht', Sem.run_bind, hl]
end
end Go.Proofs.Yteccmnjcmmbhlaa
