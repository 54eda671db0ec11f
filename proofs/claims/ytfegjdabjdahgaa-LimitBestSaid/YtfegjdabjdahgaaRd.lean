/- Arguments of any depth (numbers, bools, strings, structs, slices of these) opened at once: what they read as, with a bound on their memory. No theorem on the program stands here. -/
import Derived.Test.YtfegjdabjdahgaaRows
import Derived.WalkKit
import Derived.ProofKit
import Derived.Deep.Slices
import Derived.SizedLaws
import Derived.Lib.SmallJoins
namespace Go.Proofs.Ytfegjdabjdahgaa
open Go.RowKit

/-- The shapes of what can be read. 'sl B s': a slice whose elements take B bytes each; a struct is a chain of pairs. -/
inductive Sh where
  | int (k : IntKind)
  | bool
  | str
  | sl (B : Nat) (s : Sh)
  | nil
  | pair (a b : Sh)

/-- What a value of a shape reads as. -/
@[reducible] def Sh.T : Sh → Type
  | .int _ => Int
  | .bool => Bool
  | .str => ByteArray
  | .sl _ s => List s.T
  | .nil => Unit
  | .pair a b => a.T × b.T

/-- How many cells it takes. -/
def Sh.size : Sh → Nat
  | .nil => 0
  | .pair a b => a.size + b.size
  | _ => 1

/-- How many values and letters it holds, at least. -/
def Sh.bulk : (s : Sh) → s.T → Nat
  | .int _, _ => 1
  | .bool, _ => 1
  | .str, s => ByteArray.size s + 1
  | .sl _ s, l => (List.map s.bulk l).sum + 1
  | .nil, _ => 0
  | .pair a b, x => a.bulk x.1 + b.bulk x.2

/-- A slice's cell reads as a list. -/
def RowRd {α : Type} (R : List Value → α → Prop) (sz B : Nat) (w : World) (cs : List Value) (l : List α) : Prop :=
  ∃ a cap, cs = [.slice a l.length cap] ∧ l.length ≤ cap ∧ cap ≤ maxLen ∧ cap * B ≤ 140737488351232 ∧ (a = none → cap = 0) ∧
    (0 < l.length → ∃ b off, a = some ⟨b, off, none⟩ ∧ b < w.heap.size ∧ ∀ i x, l[i]? = some x → ∃ cs', cs'.length = sz ∧ (∀ j, j < sz → w.cell? ⟨b, off + (i * sz + j), none⟩ = cs'[j]?) ∧ R cs' x)

/-- The cells cs read as x in the world w. -/
def Sh.Rd (w : World) : (s : Sh) → List Value → s.T → Prop
  | .int k, cs, n => cs = [.int k n] ∧ (Lit.int k n).wf = true
  | .bool, cs, b => cs = [.bool b]
  | .str, cs, s => cs = [.string s] ∧ ByteArray.size s ≤ 140737488351232
  | .sl B s, cs, l => RowRd (α := s.T) (s.Rd w) s.size B w cs l
  | .nil, cs, _ => cs = []
  | .pair a b, cs, x => ∃ c1 c2, cs = c1 ++ c2 ∧ a.Rd w c1 x.1 ∧ b.Rd w c2 x.2

theorem Sh.Rd.length : ∀ (s : Sh) {w : World} {cs : List Value} {x : s.T}, s.Rd w cs x → cs.length = s.size
  | .int _, _, _, _, h => by rw [h.1]; rfl
  | .bool, _, _, _, h => by rw [show _ = _ from h]; rfl
  | .str, _, _, _, h => by rw [h.1]; rfl
  | .sl _ _, _, _, _, h => by obtain ⟨a, cap, rfl, _⟩ := h; rfl
  | .nil, _, _, _, h => by rw [show _ = _ from h]; rfl
  | .pair a b, _, _, _, h => by
    obtain ⟨c1, c2, rfl, h1, h2⟩ := h
    rw [List.length_append, Sh.Rd.length a h1, Sh.Rd.length b h2]
    rfl

/-- What was there before reads as it did. -/
theorem Sh.Rd.keep : ∀ (s : Sh) {w w' : World} {cs : List Value} {x : s.T}, s.Rd w cs x → w.heap.size ≤ w'.heap.size → (∀ k, k < w.heap.size → w'.heap[k]? = w.heap[k]?) → s.Rd w' cs x
  | .int _, _, _, _, _, h, _, _ => h
  | .bool, _, _, _, _, h, _, _ => h
  | .str, _, _, _, _, h, _, _ => h
  | .sl _ s, _, _, _, _, h, hz, hb => by
    obtain ⟨a, cap, rfl, h1, h2, h3, hn, h4⟩ := h
    refine ⟨a, cap, rfl, h1, h2, h3, hn, fun h0 => ?_⟩
    obtain ⟨b, off, rfl, hlt, hel⟩ := h4 h0
    refine ⟨b, off, rfl, Nat.lt_of_lt_of_le hlt hz, fun i x hx => ?_⟩
    obtain ⟨cs', hl, hc, hr⟩ := hel i x hx
    exact ⟨cs', hl, fun j hj => (World.cell?_of_block (hb b hlt)).trans (hc j hj), Sh.Rd.keep s hr hz hb⟩
  | .nil, _, _, _, _, h, _, _ => h
  | .pair a b, _, _, _, _, h, hz, hb => by
    obtain ⟨c1, c2, rfl, h1, h2⟩ := h
    exact ⟨c1, c2, rfl, Sh.Rd.keep a h1 hz hb, Sh.Rd.keep b h2 hz hb⟩

theorem Sh.Rd.below {s : Sh} {w w' : World} {cs : List Value} {x : s.T} (h : s.Rd w cs x) (hb : Below w.heap.size w w') : s.Rd w' cs x := Sh.Rd.keep s h hb.size hb.block

/-- The types of a program have the shape. In mode 'inl t': type t; in mode 'inr (off, fs)': the fields fs, from cell off on. -/
def Sh.fit (P : Program) : Sh → TypeId ⊕ (Nat × List Field) → Bool
  | .int k, .inl t => match P.underlying t with | some (.int k') => k' == k | _ => false
  | .bool, .inl t => match P.underlying t with | some .bool => true | _ => false
  | .str, .inl t => match P.underlying t with | some .string => true | _ => false
  | .sl B s, .inl t => match P.underlying t with | some (.slice e) => P.bytesOf e == B && P.cellsOf e == s.size && decide (0 < s.size) && s.fit P (.inl e) | _ => false
  | .nil, .inr (_, []) => true
  | .pair a b, .inl t => match P.underlying t with
    | some (.struct fs) => P.cellsOf t == a.size + b.size && (match fs.toList with | f :: r => f.offset == 0 && P.cellsOf f.type == a.size && a.fit P (.inl f.type) && b.fit P (.inr (a.size, r)) | [] => false)
    | _ => false
  | .pair a b, .inr (off, f :: r) => f.offset == off && P.cellsOf f.type == a.size && a.fit P (.inl f.type) && b.fit P (.inr (off + a.size, r))
  | _, _ => false

section
variable {H : Type} {enc : TypeId × Value → H} {P : Program} {w : World} {base : Nat} {held : Bool}

theorem bulkAll_append (a b : List (DataW H)) : Rows.uptoBulkAll (a ++ b) = Rows.uptoBulkAll a + Rows.uptoBulkAll b := by
  induction a with
  | nil => simp [Rows.uptoBulkAll]
  | cons d r ih => simp [Rows.uptoBulkAll, ih]; omega

theorem weightsAll_mem (e : TypeId) (D : Nat → DataW H) : ∀ (m i : Nat), i < m → ∀ n ∈ (D i).weights P e, n ∈ DataW.weightsAll P e ((List.range m).map D) := by
  intro m i hi n hn
  suffices h : ∀ l : List Nat, i ∈ l → n ∈ DataW.weightsAll P e (l.map D) from h _ (List.mem_range.2 hi)
  intro l
  induction l with
  | nil => intro h; cases h
  | cons a r ih =>
    intro h
    simp only [List.map_cons, DataW.weightsAll, List.mem_append]
    rcases List.mem_cons.1 h with rfl | h
    · exact .inl hn
    · exact .inr (ih h)

theorem choose_list {α : Type} (Q : Nat → α → Prop) : ∀ n, (∀ i, i < n → ∃ x, Q i x) → ∃ l : List α, l.length = n ∧ ∀ i x, l[i]? = some x → Q i x := by
  intro n
  induction n with
  | zero => intro _; exact ⟨[], rfl, fun i x h => by simp at h⟩
  | succ n ih =>
    intro h
    obtain ⟨l, hl, hq⟩ := ih fun i hi => h i (by omega)
    obtain ⟨x, hx⟩ := h n (by omega)
    refine ⟨l ++ [x], by simp [hl], fun i y hy => ?_⟩
    by_cases hi : i < n
    · rw [List.getElem?_append_left (by omega)] at hy
      exact hq i y hy
    · have hin : i = n := by
        have := (List.getElem?_eq_some_iff.1 hy).1
        simp at this
        omega
      subst hin
      rw [← hl, List.getElem?_concat_length] at hy
      obtain rfl := Option.some.inj hy
      exact hx

theorem bulk_sum {α : Type} (f : α → Nat) (D : Nat → DataW H) (l : List α) (h : ∀ i x, l[i]? = some x → f x ≤ Rows.uptoBulk (D i)) : (l.map f).sum ≤ Rows.uptoBulkAll ((List.range l.length).map D) := by
  suffices hs : ∀ k, (∀ i x, l[i]? = some x → f x ≤ Rows.uptoBulk (D (k + i))) → (l.map f).sum ≤ Rows.uptoBulkAll ((List.range' k l.length).map D) by
    have := hs 0 (by simpa using h)
    rwa [← List.range_eq_range'] at this
  clear h
  induction l with
  | nil => intro k _; simp
  | cons x r ih =>
    intro k h
    have h0 := h 0 x rfl
    have h1 := ih (k + 1) fun i y hy => by
      have := h (i + 1) y (by simpa using hy)
      rwa [show k + (i + 1) = k + 1 + i from by omega] at this
    simp only [List.map_cons, List.sum_cons, List.length_cons, List.range'_succ, Rows.uptoBulkAll, Nat.add_zero] at h0 h1 ⊢
    omega

/-- A reading of cells, opened by its shape. -/
theorem Sh.open_ : ∀ (s : Sh) (t : TypeId), s.fit P (.inl t) = true → ∀ (fuel : Nat) (cs : List Value) (d : DataW H) (ps : List MemPlace),
    DataW.trod enc P w base (fun _ => true) held fuel t cs = some (d, ps) → (∀ n ∈ d.weights P t, n ≤ reachBytes) →
    ∃ x : s.T, s.Rd w cs x ∧ s.bulk x ≤ Rows.uptoBulk d := by
  intro s
  suffices h : (∀ (t : TypeId), s.fit P (.inl t) = true → ∀ (fuel : Nat) (cs : List Value) (d : DataW H) (ps : List MemPlace),
      DataW.trod enc P w base (fun _ => true) held fuel t cs = some (d, ps) → (∀ n ∈ d.weights P t, n ≤ reachBytes) →
      ∃ x : s.T, s.Rd w cs x ∧ s.bulk x ≤ Rows.uptoBulk d) ∧
      (∀ (off : Nat) (fs : List Field), s.fit P (.inr (off, fs)) = true → ∀ (fuel : Nat) (cs : List Value) (xs : List (DataW H × List MemPlace)), xs.length = fs.length → cs.length = off + s.size →
        (∀ (i : Nat) (f : Field), fs[i]? = some f → DataW.trod enc P w base (fun _ => true) held fuel f.type ((cs.drop f.offset).take (P.cellsOf f.type)) = xs[i]?) →
        (∀ n ∈ DataW.weightsEach P (fs.map (·.type)) (xs.map (·.1)), n ≤ reachBytes) →
        ∃ x : s.T, s.Rd w (cs.drop off) x ∧ s.bulk x ≤ Rows.uptoBulkAll (xs.map (·.1))) from h.1
  induction s with
  | int k =>
    refine ⟨fun t hf fuel cs d ps h _ => ?_, fun off fs hf => by simp [Sh.fit] at hf⟩
    simp only [Sh.fit] at hf
    split at hf
    case h_2 => cases hf
    rename_i k' hu
    obtain rfl := eq_of_beq hf
    obtain ⟨n, rfl, hx, hw⟩ := DataW.trod_int hu h
    obtain ⟨rfl, rfl⟩ := Prod.mk.inj hx
    exact ⟨n, ⟨rfl, hw⟩, by simp [Sh.bulk, Rows.uptoBulk]⟩
  | bool =>
    refine ⟨fun t hf fuel cs d ps h _ => ?_, fun off fs hf => by simp [Sh.fit] at hf⟩
    simp only [Sh.fit] at hf
    split at hf
    case h_2 => cases hf
    rename_i hu
    obtain ⟨b, rfl, hx⟩ := DataW.trod_bool hu h
    obtain ⟨rfl, rfl⟩ := Prod.mk.inj hx
    exact ⟨b, rfl, by simp [Sh.bulk, Rows.uptoBulk]⟩
  | str =>
    refine ⟨fun t hf fuel cs d ps h hwt => ?_, fun off fs hf => by simp [Sh.fit] at hf⟩
    simp only [Sh.fit] at hf
    split at hf
    case h_2 => cases hf
    rename_i hu
    obtain ⟨b, rfl, hx, hs⟩ := DataW.trod_string hu h
    obtain ⟨rfl, rfl⟩ := Prod.mk.inj hx
    have hz : b.data.toList.length = b.size := by rw [Array.length_toList]; rfl
    have := hwt b.data.toList.length (by simp [DataW.weights])
    rw [hz] at this
    exact ⟨b, ⟨rfl, by simp only [reachBytes] at this; omega⟩, by simp only [Sh.bulk, Rows.uptoBulk]; rw [hz]; exact Nat.le_refl _⟩
  | sl B s ih =>
    refine ⟨fun t hf fuel cs d ps h hwt => ?_, fun off fs hf => by simp [Sh.fit] at hf⟩
    simp only [Sh.fit] at hf
    split at hf
    case h_2 => cases hf
    rename_i e hu
    simp only [Bool.and_eq_true, beq_iff_eq, decide_eq_true_eq] at hf
    obtain ⟨⟨⟨hB, hsz⟩, hpos⟩, hfe⟩ := hf
    rcases Go.Deep.open_slice hu h with ⟨rfl, hx⟩ | ⟨a, len, cap, m, n, D, Pl, rfl, _, hlc, hcm, hm, hx, hel⟩
    · obtain ⟨rfl, rfl⟩ := Prod.mk.inj hx
      exact ⟨[], ⟨none, 0, rfl, Nat.le_refl _, by simp [maxLen], by simp, fun _ => rfl, fun h0 => absurd h0 (by simp)⟩, by simp [Sh.bulk, Rows.uptoBulk]⟩
    · obtain ⟨rfl, rfl⟩ := Prod.mk.inj hx
      simp only [if_true] at hm
      subst hm
      have hcap : m * B ≤ 140737488351232 := by
        have := hwt (((List.range len).map D).length + ((List.range (m - len)).map fun j => D (len + j)).length |> (· * P.bytesOf e)) (by simp [DataW.weights, hu])
        simp only [List.length_map, List.length_range, reachBytes, hB] at this
        rwa [show len + (m - len) = m from by omega] at this
      have hE : ∀ i, i < len → ∃ x : s.T, (∃ cs', w.cells? base (a.add (i * P.cellsOf e)) (P.cellsOf e) = some cs' ∧ s.Rd w cs' x) ∧ s.bulk x ≤ Rows.uptoBulk (D i) := by
        intro i hi
        obtain ⟨cs', hc, ht⟩ := hel i (by omega)
        obtain ⟨x, hx, hb⟩ := ih.1 e hfe n cs' (D i) (Pl i) ht fun q hq => hwt q (by
          simp only [DataW.weights, hu, List.mem_cons, List.mem_append]
          exact .inr (.inl (weightsAll_mem e D len i hi q hq)))
        exact ⟨x, ⟨cs', hc, hx⟩, hb⟩
      obtain ⟨l, hl, hq⟩ := choose_list _ len hE
      subst hl
      refine ⟨l, ⟨some a, m, rfl, hlc, hcm, hcap, (fun h => by cases h), fun h0 => ?_⟩, ?_⟩
      · obtain ⟨x0, hx0⟩ : ∃ x, l[0]? = some x := ⟨l[0], by simp⟩
        obtain ⟨⟨c0, hc0, _⟩, _⟩ := hq 0 x0 hx0
        obtain ⟨_, hl0, he0⟩ := World.cells?_some hc0
        obtain ⟨b, off, spot⟩ := a
        have hcell : w.cell? ⟨b, off, spot⟩ = c0[0]? := by
          have := he0 0 (by omega)
          simpa [Addr.add] using this
        have hsome : ∃ v, w.cell? ⟨b, off, spot⟩ = some v := by
          rw [hcell]
          exact ⟨c0[0]'(by omega), by simp⟩
        obtain ⟨v, hv⟩ := hsome
        have hspot : spot = none := by simpa using World.cell?_spot hv
        subst hspot
        refine ⟨b, off, rfl, World.block_lt_of_cell? w _ hv, fun i x hx => ?_⟩
        obtain ⟨⟨c1, hc1, hr⟩, _⟩ := hq i x hx
        obtain ⟨_, hl1, he1⟩ := World.cells?_some hc1
        refine ⟨c1, by omega, fun j hj => ?_, hr⟩
        have := he1 j (by omega)
        rw [Go.WideShapes.add_plain, Go.WideShapes.add_plain, hsz, Nat.add_assoc] at this
        exact this
      · simp only [Sh.bulk, Rows.uptoBulk]
        have := bulk_sum s.bulk D l fun i x hx => (hq i x hx).2
        omega
  | nil =>
    refine ⟨fun t hf => by simp [Sh.fit] at hf, fun off fs hf fuel cs xs hxl hcl _ _ => ?_⟩
    refine ⟨(), ?_, by simp [Sh.bulk]⟩
    show cs.drop off = []
    simp only [Sh.size] at hcl
    exact List.drop_eq_nil_of_le (by omega)
  | pair a b iha ihb =>
    have key : ∀ (off : Nat) (f : Field) (r : List Field), f.offset = off → P.cellsOf f.type = a.size → a.fit P (.inl f.type) = true → b.fit P (.inr (off + a.size, r)) = true →
        ∀ (fuel : Nat) (cs : List Value) (xs : List (DataW H × List MemPlace)), xs.length = r.length + 1 → cs.length = off + (a.size + b.size) →
        (∀ (i : Nat) (g : Field), (f :: r)[i]? = some g → DataW.trod enc P w base (fun _ => true) held fuel g.type ((cs.drop g.offset).take (P.cellsOf g.type)) = xs[i]?) →
        (∀ n ∈ DataW.weightsEach P ((f :: r).map (·.type)) (xs.map (·.1)), n ≤ reachBytes) →
        ∃ x : a.T × b.T, Sh.Rd w (.pair a b) (cs.drop off) x ∧ a.bulk x.1 + b.bulk x.2 ≤ Rows.uptoBulkAll (xs.map (·.1)) := by
      intro off f r ho hs ha hb fuel cs xs hxl hcl ht hwt
      match xs, hxl with
      | y :: ys, hxl =>
        have h0 := ht 0 f rfl
        simp only [List.getElem?_cons_zero, ho, hs] at h0
        obtain ⟨x1, hx1, hb1⟩ := iha.1 f.type ha fuel _ y.1 y.2 h0 fun n hn => hwt n (by simp only [List.map_cons, DataW.weightsEach, List.mem_append]; exact .inl hn)
        obtain ⟨x2, hx2, hb2⟩ := ihb.2 (off + a.size) r hb fuel cs ys (by simpa using hxl) (by omega) (fun i g hg => by simpa using ht (i + 1) g (by simpa using hg))
          fun n hn => hwt n (by simp only [List.map_cons, DataW.weightsEach, List.mem_append]; exact .inr hn)
        refine ⟨(x1, x2), ⟨_, _, ?_, hx1, hx2⟩, ?_⟩
        · rw [← List.drop_drop, List.take_append_drop]
        · simp only [List.map_cons, Rows.uptoBulkAll]
          omega
    refine ⟨fun t hf fuel cs d ps h hwt => ?_, fun off fs hf fuel cs xs hxl hcl ht hwt => ?_⟩
    · simp only [Sh.fit] at hf
      split at hf
      case h_2 => cases hf
      rename_i fs hu
      simp only [Bool.and_eq_true, beq_iff_eq] at hf
      obtain ⟨hct, hf⟩ := hf
      split at hf
      case h_2 => cases hf
      rename_i f r hfs
      simp only [Bool.and_eq_true, beq_iff_eq] at hf
      obtain ⟨⟨⟨ho, hs⟩, ha⟩, hb⟩ := hf
      obtain ⟨xs, n, _, hx, hcl, hxl, hfld⟩ := DataW.trod_struct hu h
      obtain ⟨rfl, rfl⟩ := Prod.mk.inj hx
      obtain ⟨x, hx, hb⟩ := key 0 f r ho hs ha (by simpa using hb) n cs xs (by rw [hxl, ← Array.length_toList, hfs]; rfl) (by omega)
        (fun i g hg => hfld i g (by rw [← hfs] at hg; simpa using hg)) (fun q hq => hwt q (by simp only [DataW.weights, hu, hfs]; exact hq))
      exact ⟨x, by simpa using hx, by simp only [Sh.bulk, Rows.uptoBulk]; omega⟩
    · match fs, hf, hxl, ht, hwt with
      | [], hf, _, _, _ => simp [Sh.fit] at hf
      | f :: r, hf, hxl, ht, hwt =>
        simp only [Sh.fit, Bool.and_eq_true, beq_iff_eq] at hf
        obtain ⟨⟨⟨ho, hs⟩, ha⟩, hb⟩ := hf
        exact key off f r ho hs ha hb fuel cs xs hxl hcl ht hwt

/-- An argument of one cell. -/
theorem Sh.arg (s : Sh) {t : TypeId} (hf : s.fit P (.inl t) = true) {v : Value} {d : DataW H} {ps : List MemPlace} {ts : List TypeId} {ds : List (DataW H)} {j : Nat}
    (hsz : (DataW.weightsEach P ts ds).all (· ≤ reachBytes) = true) (ht : ts[j]? = some t) (hd : ds[j]? = some d)
    (h : DataW.Trod enc P w base (fun _ => true) held t v d ps) : ∃ x : s.T, s.Rd w v.cells.toList x ∧ s.bulk x ≤ Rows.uptoBulk d := by
  obtain ⟨fuel, hf'⟩ := h
  exact s.open_ t hf fuel _ d ps hf' fun n hn => by simpa using List.all_eq_true.1 hsz _ (DataW.weights_mem_each ht hd n hn)

theorem arg_int {k : IntKind} {t : TypeId} (hu : P.underlying t = some (.int k)) {r : Reach} {b0 : Nat} {v : Value} (hv : Value.okWide P w r b0 t v) {x : Int} (h : Sh.Rd w (.int k) v.cells.toList x) : v = .int k x ∧ (Lit.int k x).wf = true := by
  obtain ⟨n, rfl⟩ := Go.WideShapes.okWide_int hu hv
  obtain ⟨h1, h2⟩ := h
  simp [Value.cells] at h1
  subst h1
  exact ⟨rfl, h2⟩
theorem arg_bool {t : TypeId} (hu : P.underlying t = some .bool) {r : Reach} {b0 : Nat} {v : Value} (hv : Value.okWide P w r b0 t v) {x : Bool} (h : Sh.Rd w .bool v.cells.toList x) : v = .bool x := by
  obtain ⟨n, rfl⟩ := Go.WideShapes.okWide_bool hu hv
  have h1 : (Value.bool n).cells.toList = [.bool x] := h
  simp [Value.cells] at h1
  subst h1
  rfl
theorem arg_str {t : TypeId} (hu : P.underlying t = some .string) {r : Reach} {b0 : Nat} {v : Value} (hv : Value.okWide P w r b0 t v) {x : ByteArray} (h : Sh.Rd w .str v.cells.toList x) : v = .string x ∧ x.size ≤ 140737488351232 := by
  obtain ⟨n, rfl⟩ := Go.WideShapes.okWide_string hu hv
  obtain ⟨h1, h2⟩ := h
  simp [Value.cells] at h1
  subst h1
  exact ⟨rfl, h2⟩
theorem arg_agg {fs : Array Field} {t : TypeId} (hu : P.underlying t = some (.struct fs)) {r : Reach} {b0 : Nat} {v : Value} (hv : Value.okWide P w r b0 t v) {s : Sh} {x : s.T} (h : s.Rd w v.cells.toList x) : ∃ cs : List Value, v = .agg cs.toArray ∧ s.Rd w cs x := by
  obtain ⟨cs, rfl, _⟩ := Go.WideShapes.okWide_struct hu hv
  exact ⟨cs.toList, by simp, h⟩
theorem arg_slice {t e : TypeId} {B : Nat} {s : Sh} (hu : P.underlying t = some (.slice e)) {r : Reach} {b0 : Nat} {v : Value} (hv : Value.okWide P w r b0 t v) {x : List s.T} (h : Sh.Rd w (.sl B s) v.cells.toList x) :
    ∃ a cap, v = .slice a x.length cap ∧ Sh.Rd w (.sl B s) [.slice a x.length cap] x := by
  obtain ⟨a, len, cap, rfl⟩ := Go.WideShapes.okWide_slice hu hv
  obtain ⟨a', cap', h1, h2⟩ := h
  simp [Value.cells] at h1
  obtain ⟨rfl, rfl, rfl⟩ := h1
  exact ⟨a, cap, rfl, ⟨a, cap, rfl, h2⟩⟩
end

end Go.Proofs.Ytfegjdabjdahgaa
