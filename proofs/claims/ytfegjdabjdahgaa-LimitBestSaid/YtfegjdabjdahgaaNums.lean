/- Numbers that lie in a slice. No theorem on the program stands here. -/
import Derived.Test.YtfegjdabjdahgaaRd
import Derived.Test.YtfegjdabjdahgaaMark
import Derived.Test.YtfegjdabjdahgaaMake
import Derived.Laws.BytesArg
import Derived.Lib.Bytes
namespace Go.Proofs.Ytfegjdabjdahgaa
open Go.RowKit
set_option linter.unusedVariables false
set_option linter.unusedSimpArgs false

def inKind (k : IntKind) (x : Int) : Prop := k.min ≤ x ∧ x ≤ k.max
theorem inKind_wf {k : IntKind} {x : Int} (h : (Lit.int k x).wf = true) : inKind k x := by
  simp [Lit.wf] at h
  exact h
theorem inKind_u8 {x : Int} (h : inKind .u8 x) : 0 ≤ x ∧ x < 256 := by
  have h1 : IntKind.u8.min = 0 := rfl
  have h2 : IntKind.u8.max = 255 := rfl
  unfold inKind at h; omega
theorem inKind_i64 {x : Int} (h : inKind .i64 x) : -9223372036854775808 ≤ x ∧ x ≤ 9223372036854775807 := by
  have h1 : IntKind.i64.min = -9223372036854775808 := rfl
  have h2 : IntKind.i64.max = 9223372036854775807 := rfl
  unfold inKind at h; omega
theorem mk_i64 {x : Int} (h1 : -9223372036854775808 ≤ x) (h2 : x ≤ 9223372036854775807) : inKind .i64 x := ⟨h1, h2⟩
theorem mk_u8 {x : Int} (h1 : 0 ≤ x) (h2 : x < 256) : inKind .u8 x := by
  have h3 : IntKind.u8.min = 0 := rfl
  have h4 : IntKind.u8.max = 255 := rfl
  unfold inKind; omega

/-- The slice's cells hold the numbers. -/
structure Nums (k : IntKind) (w : World) (A : Option Addr) (n c : Nat) (xs : List Int) : Prop where
  len : xs.length = n
  rng : ∀ x ∈ xs, inKind k x
  cap : n ≤ c
  nil : A = none → c = 0
  at_ : 0 < n → ∃ b o, A = some ⟨b, o, none⟩ ∧ ∀ j, j < n → w.cell? ⟨b, o + j, none⟩ = some (.int k (xs.getD j 0))

namespace Nums
variable {k : IntKind} {w w' : World} {A : Option Addr} {n c : Nat} {xs : List Int}
theorem getD_in (h : Nums k w A n c xs) (hk : inKind k 0) (j : Nat) : inKind k (xs.getD j 0) := by
  rw [List.getD_eq_getElem?_getD]
  cases hx : xs[j]? with
  | none => exact hk
  | some x => exact h.rng x (List.mem_of_getElem? hx)
theorem byte (h : Nums .u8 w A n c xs) (j : Nat) : 0 ≤ xs.getD j 0 ∧ xs.getD j 0 < 256 := inKind_u8 (h.getD_in ⟨by decide, by decide⟩ j)
theorem int (h : Nums .i64 w A n c xs) (j : Nat) : -9223372036854775808 ≤ xs.getD j 0 ∧ xs.getD j 0 ≤ 9223372036854775807 := inKind_i64 (h.getD_in ⟨by decide, by decide⟩ j)
theorem keep {S : Nat → Prop} (h : Nums k w A n c xs) (q : Keeps S w w') (hS : ∀ b o, A = some ⟨b, o, none⟩ → ¬ S b) : Nums k w' A n c xs := by
  refine ⟨h.len, h.rng, h.cap, h.nil, fun hn => ?_⟩
  obtain ⟨b, o, e, hc⟩ := h.at_ hn
  refine ⟨b, o, e, fun j hj => ?_⟩
  have h1 := hc j hj
  rw [← h1]
  exact World.cell?_of_block (q.block _ (World.block_lt_of_cell? w _ h1) (hS b o e))
theorem grow (h : Nums k w A n c xs) (q : Grow w w') : Nums k w' A n c xs := h.keep q fun _ _ _ hh => hh
theorem mark {B : Nat} (h : Nums k w A n c xs) (q : Mark B w w') : Nums k w' A n c xs := by
  refine ⟨h.len, h.rng, h.cap, h.nil, fun hn => ?_⟩
  obtain ⟨b, o, e, hc⟩ := h.at_ hn
  exact ⟨b, o, e, fun j hj => q.cellOf (hc j hj)⟩
theorem below {B : Nat} (h : Nums k w A n c xs) (q : Below B w w') (hA : ∀ b o, A = some ⟨b, o, none⟩ → b < B) : Nums k w' A n c xs := by
  refine ⟨h.len, h.rng, h.cap, h.nil, fun hn => ?_⟩
  obtain ⟨b, o, e, hc⟩ := h.at_ hn
  refine ⟨b, o, e, fun j hj => ?_⟩
  rw [q.cell (p := ⟨b, o + j, none⟩) (hA b o e)]
  exact hc j hj
theorem src (h : Nums k w A n c xs) : Src w 1 A n c (xs.map (Value.int k)) := by
  refine ⟨by rw [List.length_map, h.len, Nat.mul_one], fun e => ?_, fun ad e j u hj => ?_, fun u hu => by obtain ⟨y, _, rfl⟩ := List.mem_map.1 hu; rfl⟩
  · have := h.nil e; have := h.cap; omega
  · rw [List.getElem?_map] at hj
    cases hy : xs[j]? with
    | none => rw [hy] at hj; cases hj
    | some y =>
      rw [hy] at hj
      injection hj with hj
      subst hj
      have hlt : j < n := by rw [← h.len]; exact (List.getElem?_eq_some_iff.1 hy).1
      obtain ⟨b, o, e2, hc⟩ := h.at_ (by omega)
      rw [e2] at e
      injection e with e
      subst e
      rw [Addr.add_mid, hc j hlt, List.getD_eq_getElem?_getD, hy]
      rfl
theorem of_own {b e : Nat} (h : w.ownsRow b e 1 (.slice A n c) n (xs.map (Value.int k))) (hx : ∀ x ∈ xs, inKind k x) : Nums k w A n c xs := by
  have hl : xs.length = n := by have := h.1; simpa using this
  rcases h.2 with ⟨hv, h0⟩ | ⟨g, cap, cur, hv, _, _, hnc, _⟩
  · injection hv with hv h1 h2
    exact ⟨hl, hx, by omega, fun _ => h2, fun h => by omega⟩
  · injection hv with hv h1 h2
    subst hv
    subst h2
    refine ⟨hl, hx, hnc, fun e => by (cases e), fun _ => ⟨g, 0, rfl, fun j hj => ?_⟩⟩
    have hc := h.cellAt j (by omega)
    rw [Nat.zero_add, hc]
    simp [List.getD_eq_getElem?_getD, hl, hj]
theorem of_rd {B : Nat} (h : Sh.Rd w (.sl B (.int k)) [.slice A xs.length c] xs) : Nums k w A xs.length c xs ∧ c * B ≤ 140737488351232 := by
  obtain ⟨a, cap, e, h1, h2, h3, hn, h4⟩ := h
  injection e with e _
  injection e with e1 _ e3
  subst e1
  subst e3
  have hel : ∀ i y, xs[i]? = some y → ∃ b off, A = some ⟨b, off, none⟩ ∧ w.cell? ⟨b, off + i, none⟩ = some (.int k y) ∧ inKind k y := by
    intro i y hi
    have hlt : i < xs.length := (List.getElem?_eq_some_iff.1 hi).1
    obtain ⟨b, off, ea, _, hx⟩ := h4 (by omega)
    obtain ⟨cs, hl, hc, hr⟩ := hx i y hi
    obtain ⟨rfl, hw⟩ := hr
    have hc0 := hc 0 (by show 0 < 1; decide)
    have e0 : off + (i * Sh.size (.int k) + 0) = off + i := by show off + (i * 1 + 0) = off + i; omega
    rw [e0] at hc0
    exact ⟨b, off, ea, hc0, inKind_wf hw⟩
  refine ⟨⟨rfl, fun y hy => ?_, h1, hn, fun hpos => ?_⟩, h3⟩
  · obtain ⟨i, hi⟩ := List.mem_iff_getElem?.1 hy
    obtain ⟨_, _, _, _, h⟩ := hel i y hi
    exact h
  · obtain ⟨b, off, ea, _⟩ := h4 hpos
    refine ⟨b, off, ea, fun j hj => ?_⟩
    have hg : xs[j]? = some xs[j] := List.getElem?_eq_getElem hj
    obtain ⟨b', off', ea', hc, _⟩ := hel j _ hg
    rw [ea] at ea'
    injection ea' with ea'
    injection ea' with e1 e2
    subst e1; subst e2
    rw [hc, List.getD_eq_getElem?_getD, hg]
    rfl
/-- The first ones. -/
theorem take (h : Nums k w A n c xs) (m : Nat) (hm : m ≤ n) : Nums k w A m c (xs.take m) := by
  refine ⟨by rw [List.length_take, h.len]; omega, fun x hx => h.rng x (List.mem_of_mem_take hx), Nat.le_trans hm h.cap, h.nil, fun hm0 => ?_⟩
  obtain ⟨b, o, e, hc⟩ := h.at_ (by omega)
  refine ⟨b, o, e, fun j hj => ?_⟩
  rw [hc j (by omega)]
  simp [List.getD_eq_getElem?_getD, List.getElem?_take, hj]
/-- Where a part begins. -/
def off (A : Option Addr) (c m : Nat) : Option Addr := if c = m then A else A.map (·.add m)
theorem drop (h : Nums k w A n c xs) (m : Nat) (hm : m ≤ n) : Nums k w (off A c m) (n - m) (c - m) (xs.drop m) := by
  have hcap := h.cap
  refine ⟨by rw [List.length_drop, h.len], fun x hx => h.rng x (List.mem_of_mem_drop hx), by omega, fun e => ?_, fun hm0 => ?_⟩
  · unfold off at e
    split at e
    · omega
    · cases A with
      | none => have := h.nil rfl; omega
      | some a => cases e
  · obtain ⟨b, o, e, hc⟩ := h.at_ (by omega)
    refine ⟨b, o + m, ?_, fun j hj => ?_⟩
    · unfold off
      rw [if_neg (by omega), e]
      exact congrArg some (Addr.add_mid b o m)
    · rw [Nat.add_assoc, hc (m + j) (by omega)]
      simp [List.getD_eq_getElem?_getD, List.getElem?_drop]
end Nums

/-- The run of a slice expression. -/
theorem run_pre {P : Program} {t e : TypeId} {i : TypeInfo} (h1 : P.underlying t = some (.slice e)) (hi : P.info? e = some i) (A : Option Addr) (l c n : Nat) (hn : n ≤ c) (w : World) :
    (Instr.slice t (.slice A l c) none (some (.int .i64 n)) none).run P w = .ok (.slice A n c) w := by
  have h0 : (0 : Int) ≤ n := by omega
  have h2 : (n : Int) ≤ c := by omega
  have e0 : A.map (fun x => x.add 0) = A := by cases A <;> rfl
  have h3 : ¬ c < n := by omega
  simp [Instr.slice, run_underlying h1, Instr.sliceBounds, Instr.sliceBound, asIntOf, h0, h2, h3, hn, sizeOf, typeInfo, hi, e0]
theorem run_post {P : Program} {t e : TypeId} {i : TypeInfo} (h1 : P.underlying t = some (.slice e)) (hi : P.info? e = some i) (hs : i.size = 1) (A : Option Addr) (l c m : Nat) (hm : m ≤ l) (w : World) :
    (Instr.slice t (.slice A l c) (some (.int .i64 m)) none none).run P w = .ok (.slice (Nums.off A c m) (l - m) (c - m)) w := by
  have h0 : (0 : Int) ≤ m := by omega
  have h2 : (m : Int) ≤ l := by omega
  have h3 : ¬ l < m := by omega
  simp [Instr.slice, run_underlying h1, Instr.sliceBounds, Instr.sliceBound, asIntOf, h0, h2, h3, hm, sizeOf, typeInfo, hi, hs, Nums.off]
theorem run_mid {P : Program} {t e : TypeId} {i : TypeInfo} (h1 : P.underlying t = some (.slice e)) (hi : P.info? e = some i) (hs : i.size = 1) (A : Option Addr) (l c m n : Nat) (hm : m ≤ n) (hn : n ≤ c) (w : World) :
    (Instr.slice t (.slice A l c) (some (.int .i64 m)) (some (.int .i64 n)) none).run P w = .ok (.slice (Nums.off A c m) (n - m) (c - m)) w := by
  have h0 : (0 : Int) ≤ m := by omega
  have h0' : (0 : Int) ≤ n := by omega
  have h2 : (m : Int) ≤ n := by omega
  have h2' : (n : Int) ≤ c := by omega
  have h3 : ¬ n < m := by omega
  have h4 : ¬ c < n := by omega
  simp [Instr.slice, run_underlying h1, Instr.sliceBounds, Instr.sliceBound, asIntOf, h0, h0', h2, h2', h3, h4, hm, hn, sizeOf, typeInfo, hi, hs, Nums.off]

/-- A slice of bytes as a string. -/
theorem run_str_src {P : Program} {w : World} {src dst e : TypeId} {A : Option Addr} {n c : Nat} {xs : List Int} (hs : P.underlying src = some (.slice e)) (he : P.underlying e = some (.int .u8)) (hd : P.underlying dst = some .string)
    (h : Src w 1 A n c (xs.map (Value.int .u8))) : (convert src dst (.slice A n c)).run P w = .ok (.string (strOfNums xs)) w := by
  have hl : xs.length = n := by have := h.1; simpa using this
  cases A with
  | none =>
    obtain rfl : xs = [] := List.eq_nil_of_length_eq_zero (by rw [hl]; exact (h.2.1 rfl).1)
    exact run_convert_bytes_nil w src e hs he n c dst hd
  | some ad =>
    have h1 : (loadCells ad n).run P w = .ok (xs.map (Value.int .u8)).toArray w := by
      have := run_loadCells_list (P := P) w ad (xs.map (Value.int .u8)) (fun j v hj => h.2.2.1 ad rfl j v hj)
      simpa [hl] using this
    rw [run_convert_bytes_string w src dst e _ n c hs he hd, run_bytesToString w _ n c xs h1, foldl_push_bytes]
    simp [strOfNums, ByteArray.empty, ByteArray.emptyWithCapacity]
    rfl
/-- Two texts of bytes are one just where the bytes are. -/
theorem str_inj {x y : List Int} (hx : ∀ a ∈ x, inKind .u8 a) (hy : ∀ a ∈ y, inKind .u8 a) : ((strOfNums x).toList == (strOfNums y).toList) = decide (x = y) := by
  rw [Bool.eq_iff_iff, beq_iff_eq, decide_eq_true_iff]
  refine ⟨fun h => ?_, fun h => by rw [h]⟩
  rw [Lib.strOfNums_toList, Lib.strOfNums_toList] at h
  have hd := congrArg (fun l : List UInt8 => l.map fun u => (u.toNat : Int)) h
  simp only [Lib.bytesOf, List.map_map] at hd
  have hid : ∀ l : List Int, (∀ a ∈ l, inKind .u8 a) → l.map ((fun u : UInt8 => (u.toNat : Int)) ∘ fun n : Int => UInt8.ofNat n.toNat) = l := fun l hl => by
    conv => rhs; rw [← List.map_id l]
    refine List.map_congr_left fun a ha => ?_
    have := inKind_u8 (hl a ha)
    simp only [Function.comp, id, UInt8.toNat_ofNat']
    omega
  rwa [hid x hx, hid y hy] at hd
theorem str_snoc (x : List Int) : strOfNums x ++ ⟨#[90]⟩ = strOfNums (x ++ [90]) := by
  simp [strOfNums]
  rfl
/-! ### Rows of the call's own, from block B on -/
theorem own_none (w : World) (e : TypeId) : (w.alloc (.cells #[] e)).ownsRow w.heap.size e 1 (.slice (some ⟨w.heap.size, 0, none⟩) 0 0) 0 [] := ⟨rfl, .inr ⟨w.heap.size, 0, #[], rfl, Nat.le_refl _, heap_alloc_new w _, Nat.le_refl _, Nat.zero_le _, rfl, rfl⟩⟩
theorem own_nil (B : Nat) (w : World) (e : TypeId) : w.ownsRow B e 1 (.slice none 0 0) 0 [] := ⟨rfl, .inl ⟨rfl, rfl⟩⟩
theorem own_ge {w : World} {B e size n : Nat} {v : Value} {xs : List Value} (h : w.ownsRow B e size v n xs) (k : Nat) (hk : v.ownBlock = some k) : B ≤ k := (h.lt k hk).1
/-- What was there ahead of the call stands where only a row of its own turns. -/
theorem grow_own {W w w' : World} {B e size n : Nat} {v : Value} {xs : List Value} (h : Grow W w) (ho : w.ownsRow B e size v n xs) (hB : W.heap.size ≤ B) (q : Keeps (fun k => v.ownBlock = some k) w w') : Grow W w' :=
  Keeps.trans h q fun i hi hk => by
    have := own_ge ho i hk
    omega
/-- 'append' of a slice onto a row of the call's own. -/
theorem wpList_appS {P : Program} {w : World} {ops : Array Oper} {rest : List Oper} {o : Oper} {a : Act} {Q : Exit → Act → World → Prop}
    (hg : o.guard = none) (s x : Operand) (t e : TypeId) (hop : o.op = Op.call { callee := Callee.builtin Builtin.append, args := #[s, x], argTypes := #[t, t] })
    {z : Value} {size bytes : Nat} (h1 : P.underlying t = some (.slice e)) (hinfo : (P.info? e).map (fun i => (i.zero, i.size, i.bytes)) = some (some z, size, bytes)) (h6 : z.cells.size = size) (h7 : 0 < size)
    (B : Nat) (v : Value) (n : Nat) (xs : List Value) (hs : a.eval s = v) (hown : w.ownsRow B e size v n xs) (hB : B ≤ w.heap.size)
    (A : Option Addr) (m c : Nat) (news : List Value) (hx : a.eval x = .slice A m c) (hsrc : Src w size A m c news)
    (b1 : n + m ≤ maxLen) (b2 : (n + m) * bytes ≤ 140737488355328)
    (hK : ∀ A' c' w', w'.ownsRow B e size (.slice A' (n + m) c') (n + m) (xs ++ news) → Keeps (fun k => v.ownBlock = some k) w w' → Moved w v (.slice A' (n + m) c') → wpList P ops Q rest (a.put o.dst (.slice A' (n + m) c')) w') :
    wpList P ops Q (o :: rest) a w :=
  wpList_app_any hg s x t e hop h1 hinfo h6 h7 v n xs hs (owns_any_base hown (Nat.zero_le _)) A m c news hx hsrc b1 b2 fun A' c' w' ho hgr hm =>
    hK A' c' w' (owns_base ho fun k hk => by
      rcases hm with hm | ⟨i, hi, hle⟩
      · rw [hm] at hk; exact own_ge hown k hk
      · rw [hi] at hk
        injection hk with hk
        omega) ((Keeps.refl _ w).grown hgr fun _ _ e => e) hm
/-- 'append' of one number, which the translation first lays in a block of its own. -/
theorem wpList_app1 {P : Program} {w : World} {ops : Array Oper} {rest : List Oper} {o : Oper} {a : Act} {Q : Exit → Act → World → Prop} {u : Value}
    (hg : o.guard = none) (s x : Operand) (t e : TypeId) (hop : o.op = Op.call { callee := Callee.builtin Builtin.append, args := #[s, x], argTypes := #[t, t] })
    {z : Value} {bytes : Nat} (h1 : P.underlying t = some (.slice e)) (hinfo : (P.info? e).map (fun i => (i.zero, i.size, i.bytes)) = some (some z, 1, bytes)) (h6 : z.cells.size = 1)
    (B : Nat) (v : Value) (n : Nat) (xs : List Value) (hs : a.eval s = v) (hown : w.ownsRow B e 1 v n xs) (hB : B ≤ w.heap.size)
    (hx : a.eval x = .slice (some ⟨w.heap.size, 0, none⟩) 1 1) (h1c : u.oneCell' = true) (b1 : n + 1 ≤ maxLen) (b2 : (n + 1) * bytes ≤ 140737488355328)
    (hK : ∀ g cap w', w'.ownsRow B e 1 (.slice (some ⟨g, 0, none⟩) (n + 1) cap) (n + 1) (xs ++ [u]) → Keeps (fun k => v.ownBlock = some k) w w' → (v.ownBlock = some g ∨ w.heap.size ≤ g) → wpList P ops Q rest (a.put o.dst (.slice (some ⟨g, 0, none⟩) (n + 1) cap)) w') :
    wpList P ops Q (o :: rest) a (w.alloc (.cells #[u] e)) :=
  wpList_app hg s x t e hop h1 hinfo h6 (by decide) v n xs hs (owns_any_base (hown.alloc _) (Nat.zero_le _)) ⟨w.heap.size, 0, none⟩ 1 1 [u] hx rfl (one_new _ _ _) (fun y hy => by rw [List.mem_singleton.1 hy]; exact h1c) (by decide) b1 b2 fun g cap w' ho hgr hw => by
    have hw2 : v.ownBlock = some g ∨ w.heap.size ≤ g := by
      rcases hw with hw | hw
      · exact .inl hw
      · right; simp at hw; omega
    refine hK g cap w' (owns_base ho fun k hk => ?_) (((Keeps.refl _ w).alloc _).grown hgr fun _ _ e => e) hw2
    have hk : g = k := by simpa [Value.ownBlock] using hk
    subst hk
    rcases hw2 with hw | hw
    · exact own_ge hown _ hw
    · omega
end Go.Proofs.Ytfegjdabjdahgaa
