/- The writer and the reader of bits: what each call does. -/
import Derived.Test.YtofalbbbnhnadaaLib
import Derived.Test.YtofalbbbnhnadaaBitsPure
namespace Go.Proofs.Ytofalbbbnhnadaa
open Go.RowKit
set_option linter.unusedVariables false

theorem Try.infoU8 : (Try.prog.info? 5).map (fun i => (i.zero, i.size, i.bytes)) = some (some (.int .u8 0), 1, 1) := by kernel_rfl

/-- A writer at block g, whose row is v: the bits that it has. -/
def Wr (w : World) (g : Nat) (hi : Bool) (v : Value) (l : List Int) : Prop :=
  IsBits l ∧ w.heap[g]? = some (.cells #[.bool true, .bool hi, v, .int .i64 l.length] 75 (0, 0)) ∧ w.ownsRow 0 5 1 v ((l.length + 7) / 8) ((pk hi l).map (Value.int .u8))
/-- What a call on a writer may turn. -/
def WrKeep (w w' : World) (g : Nat) (v v' : Value) : Prop := Keeps (fun k => k = g ∨ v.ownBlock = some k) w w' ∧ Moved w v v'

theorem and7 (n : Int) (h0 : 0 ≤ n) (h1 : n < 4611686018427387904) : bits BinOp.and IntKind.i64 n 7 = n % 8 :=
  bits_mask .i64 62 (by decide) (fun m a b => by rw [IntKind.wrap_i64]; omega) 3 (by decide) n h0 (by omega)

theorem Wr.ne {w : World} {g : Nat} {hi : Bool} {v : Value} {l : List Int} (h : Wr w g hi v l) : v.ownBlock ≠ some g := row_ne h.2.2 h.2.1 (by decide)
theorem Wr.keep {S : Nat → Prop} {w w' : World} {g : Nat} {hi : Bool} {v : Value} {l : List Int} (h : Wr w g hi v l) (k : Keeps S w w') (hg : ¬ S g) (hv : ∀ i, v.ownBlock = some i → ¬ S i) : Wr w' g hi v l :=
  ⟨h.1, block_keep h.2.1 k hg, owns_keep h.2.2 k hv⟩
theorem WrKeep.refl (w : World) (g : Nat) (v : Value) : WrKeep w w g v v := ⟨Keeps.refl _ _, .inl rfl⟩
theorem WrKeep.trans {w w1 w2 : World} {g : Nat} {v v1 v2 : Value} (h : WrKeep w w1 g v v1) (k : WrKeep w1 w2 g v1 v2) : WrKeep w w2 g v v2 := by
  refine ⟨h.1.trans k.1 fun i hi hs => ?_, h.2.trans k.2 h.1.size⟩
  rcases hs with hs | hs
  · exact .inl hs
  · rcases h.2 with e | ⟨j, e, hj⟩
    · exact .inr (by rw [← e]; exact hs)
    · rw [e] at hs
      injection hs with hs
      omega

theorem map_set_u8 (xs : List Int) (j : Nat) (y : Int) : (xs.map (Value.int .u8)).set j (.int .u8 y) = (xs.set j y).map (Value.int .u8) := by rw [List.map_set]

/-- Behind the stores into the writer's block and its row. -/
theorem wr_stored {w1 : World} {g g' m cap j : Nat} {hi : Bool} {v0 : Value} {n0 n1 y : Int} {ys : List Int} {l' : List Int} (HB : w1.heap[g]? = some (.cells #[.bool true, .bool hi, v0, .int .i64 n0] 75 (0, 0)))
    (HO : w1.ownsRow 0 5 1 (.slice (some ⟨g', 0, none⟩) m cap) m (ys.map (Value.int .u8))) (hgg : g ≠ g') (hbits : IsBits l') (hy : ys.set j y = pk hi l') (hm : m = (l'.length + 7) / 8) (hn : n1 = l'.length) :
    Wr (((w1.setCell ⟨g, 2, none⟩ (.slice (some ⟨g', 0, none⟩) m cap)).setCell ⟨g', j, none⟩ (.int .u8 y)).setCell ⟨g, 3, none⟩ (.int .i64 n1)).drew g hi (.slice (some ⟨g', 0, none⟩) m cap) l' := by
  subst hm
  refine ⟨hbits, ?_, ?_⟩
  · have := blk_set (blk_far (p := ⟨g', j, none⟩) (blk_set HB 2 (.slice (some ⟨g', 0, none⟩) ((l'.length + 7) / 8) cap)) hgg (.int .u8 y)) 3 (.int .i64 n1)
    rw [hn] at this ⊢
    exact this
  · have h1 := row_set_far (p := ⟨g, 2, none⟩) HO (by simp [Value.ownBlock]; omega) (.slice (some ⟨g', 0, none⟩) ((l'.length + 7) / 8) cap)
    have h2 := (h1.stored j (.int .u8 y)).1
    have h3 := row_set_far (p := ⟨g, 3, none⟩) h2 (by simp [Value.ownBlock]; omega) (.int .i64 n1)
    rw [map_set_u8, hy] at h3
    exact h3
theorem wr_stored' {w1 : World} {g g' m cap j : Nat} {hi : Bool} {n0 n1 y : Int} {ys : List Int} {l' : List Int} (HB : w1.heap[g]? = some (.cells #[.bool true, .bool hi, .slice (some ⟨g', 0, none⟩) m cap, .int .i64 n0] 75 (0, 0)))
    (HO : w1.ownsRow 0 5 1 (.slice (some ⟨g', 0, none⟩) m cap) m (ys.map (Value.int .u8))) (hgg : g ≠ g') (hbits : IsBits l') (hy : ys.set j y = pk hi l') (hm : m = (l'.length + 7) / 8) (hn : n1 = l'.length) :
    Wr ((w1.setCell ⟨g', j, none⟩ (.int .u8 y)).setCell ⟨g, 3, none⟩ (.int .i64 n1)).drew g hi (.slice (some ⟨g', 0, none⟩) m cap) l' := by
  subst hm
  refine ⟨hbits, ?_, ?_⟩
  · have := blk_set (blk_far (p := ⟨g', j, none⟩) HB hgg (.int .u8 y)) 3 (.int .i64 n1)
    rw [hn] at this ⊢
    exact this
  · have h2 := (HO.stored j (.int .u8 y)).1
    have h3 := row_set_far (p := ⟨g, 3, none⟩) h2 (by simp [Value.ownBlock]; omega) (.int .i64 n1)
    rw [map_set_u8, hy] at h3
    exact h3

theorem pk_new (hi : Bool) (l : List Int) (x : Int) (hl : IsBits l) (hx : x = 0 ∨ x = 1) (h8 : l.length % 8 = 0) :
    (pk hi l ++ [0]).set ((l.length + 7) / 8) (bits .or .u8 0 (if hi then x * 128 else x)) = pk hi (l ++ [x]) := by
  have h := pk_snoc hi l x hl hx
  rw [if_pos h8, h8] at h
  rw [h, show (l.length + 7) / 8 = l.length / 8 from by omega]
  congr 2
  · rw [getD_snoc, if_pos (by rw [pk_length]; omega)]
  · rw [IntKind.wrap_u8]
    cases hi <;> simp <;> omega
theorem pk_old (hi : Bool) (l : List Int) (x : Int) (hl : IsBits l) (hx : x = 0 ∨ x = 1) (h8 : l.length % 8 ≠ 0) :
    (pk hi l).set ((l.length + 7) / 8 - 1) (bits .or .u8 ((pk hi l).getD ((l.length + 7) / 8 - 1) 0) (IntKind.u8.wrap (x * 2 ^ (if hi then 7 - l.length % 8 else l.length % 8)))) = pk hi (l ++ [x]) := by
  have h := pk_snoc hi l x hl hx
  rw [if_neg h8] at h
  rw [h, show (l.length + 7) / 8 - 1 = l.length / 8 from by omega]

set_option maxHeartbeats 1000000 in
theorem bit_new (w : World) (g : Nat) (hi : Bool) (v : Value) (l : List Int) (x : Int) (h : Wr w g hi v l) (hx : x = 0 ∨ x = 1) (hl : l.length ≤ 1000000000000000) (h8 : l.length % 8 = 0) :
    Calls Try.prog 40 #[.pointer (some ⟨g, 0, none⟩), .int .u8 x] w fun e w' => e = .returned (.tuple #[]) ∧ ∃ v', Wr w' g hi v' (l ++ [x]) ∧ WrKeep w w' g v v' := by
  have hne := h.ne
  obtain ⟨hbits, hb, ho⟩ := h
  have c1 := blk_cell hb 1
  have c2 := blk_cell hb 2
  have c3 := blk_cell hb 3
  have c3' := blk_frozen hb 3
  simp at c1 c2 c3
  have e7 := and7 (l.length : Int) (by omega) (by omega)
  have hx1 : 0 ≤ x ∧ x ≤ 1 := by omega
  have hbx : IsBits (l ++ [x]) := isBits_append hbits (fun y hy => by rw [List.mem_singleton.1 hy]; exact hx)
  have e8 : ((l.length : Int) % 8) = 0 := by omega
  rw [e8] at e7
  have HP := pk_new hi l x hbits hx h8
  have H8 := Lib.hid h8
  clear h8 e8
  cases hi
  all_goals
    simp only [if_true, if_false, Bool.false_eq_true] at HP
    have HP' := Lib.hid HP
    clear HP
    go_enter Try.func40, Try.ntmps40
    go_wp2_with (at_builtin; refine wpList_app rfl (.tmp 16) (.tmp 17) 49 5 rfl Try.underlying49 Try.infoU8 rfl (by decide) v _ _ rfl (ho.alloc _) ⟨w.heap.size, 0, none⟩ 1 1 [.int .u8 0] rfl rfl (one_new _ _ _) (by simp [Value.oneCell']) (by decide) (by unfold maxLen; omega) (by omega) ?_)
    intro g' cap w1 ho1 hg1 hw1
    have hb1 := blk_grown (blk_alloc hb _) hg1 hne
    have hne1 := row_ne ho1 hb1 (by decide)
    have hgg : g ≠ g' := fun e => hne1 (by rw [e]; rfl)
    have d1 := blk_cell hb1 1
    have d2 := blk_cell hb1 2
    have d3 := blk_cell hb1 3
    have f2 := blk_frozen hb1 2
    have f3 := blk_frozen hb1 3
    have dl := ho1.cellAt ((l.length + 7) / 8) (by omega)
    have fl := ho1.frozenAt ((l.length + 7) / 8)
    rw [List.getElem?_append_right (by simp [pk_length])] at dl
    simp [pk_length] at dl
    simp at d1 d2 d3
    rw [show ∀ b, List.map (Value.int .u8) (pk b l) ++ [Value.int .u8 0] = (pk b l ++ [0]).map (Value.int .u8) from fun b => by simp] at ho1
    have hk : Keeps (fun k => k = g ∨ v.ownBlock = some k) w w1 := ((Keeps.refl _ w).alloc _).grown hg1 fun k _ e => .inr e
    have hs : v.ownBlock = some g' ∨ w.heap.size ≤ g' := by rcases hw1 with e | e; exact .inl e; (exact .inr (by first | omega | (simp at e; omega)))
    have HO := Lib.hid ho1
    have HK := Lib.hid hk
    have HB := Lib.hid hb1
    have HW := Lib.hid hs
    clear ho1 hg1 hb1 c1 c2 c3 hw1 c3' hk hs
    go_wp2
    refine wp_region_seq (by kernel_rfl) (by kernel_rfl) ?_
    go_wp2
    refine ⟨by kernel_rfl, ?_⟩
    go_wp2
    go_end0
    refine ⟨rfl, _, wr_stored HB.out HO.out hgg hbx HP'.out (by have := H8.out; simp; omega) (by simp), ?_, ?_⟩
    · exact (((HK.out.setCell (p := ⟨g, 2, none⟩) (fun _ => .inl rfl) _).setCell (p := ⟨g', _, none⟩) (fun hlt => by rcases HW.out with e | e; exact .inr e; exact absurd hlt (Nat.not_lt.2 e)) _).setCell (p := ⟨g, 3, none⟩) (fun _ => .inl rfl) _).drew
    · rcases HW.out with e | e
      · exact .inl e.symm
      · exact .inr ⟨_, rfl, e⟩

set_option maxHeartbeats 1000000 in
theorem bit_old (w : World) (g : Nat) (hi : Bool) (v : Value) (l : List Int) (x : Int) (h : Wr w g hi v l) (hx : x = 0 ∨ x = 1) (hl : l.length ≤ 1000000000000000) (h8 : l.length % 8 ≠ 0) :
    Calls Try.prog 40 #[.pointer (some ⟨g, 0, none⟩), .int .u8 x] w fun e w' => e = .returned (.tuple #[]) ∧ ∃ v', Wr w' g hi v' (l ++ [x]) ∧ WrKeep w w' g v v' := by
  have hne := h.ne
  obtain ⟨hbits, hb, ho⟩ := h
  have hl8 : 0 < l.length := by omega
  obtain ⟨g', cap, rfl⟩ : ∃ g' cap, v = .slice (some ⟨g', 0, none⟩) ((l.length + 7) / 8) cap := by
    rcases ho.2 with ⟨_, h0⟩ | ⟨g', cap, cur, hv, _⟩
    · omega
    · exact ⟨g', cap, hv⟩
  have c1 := blk_cell hb 1
  have c2 := blk_cell hb 2
  have c3 := blk_cell hb 3
  have c3' := blk_frozen hb 3
  simp at c1 c2 c3
  have e7 := and7 (l.length : Int) (by omega) (by omega)
  have hx1 : 0 ≤ x ∧ x ≤ 1 := by omega
  have hbx : IsBits (l ++ [x]) := isBits_append hbits (fun y hy => by rw [List.mem_singleton.1 hy]; exact hx)
  have hgg : g ≠ g' := fun e => hne (by rw [e]; rfl)
  have dl := ho.cellAt ((l.length + 7) / 8 - 1) (by omega)
  have fl := ho.frozenAt ((l.length + 7) / 8 - 1)
  rw [List.getElem?_map, pk_get hi l _ (by omega)] at dl
  have hbr := byteAt_range hbits hi ((l.length + 7) / 8 - 1)
  have HP := pk_old hi l x hbits hx h8
  rw [show (pk hi l).getD ((l.length + 7) / 8 - 1) 0 = byteAt hi l ((l.length + 7) / 8 - 1) from by rw [List.getD_eq_getElem?_getD, pk_get hi l _ (by omega)]; rfl] at HP
  generalize byteAt hi l ((l.length + 7) / 8 - 1) = z at *
  simp at dl
  obtain ⟨r, hr⟩ : ∃ r, l.length % 8 = r := ⟨_, rfl⟩
  have hr8 : (l.length : Int) % 8 = r := by omega
  rw [hr8] at e7
  rw [hr] at HP h8
  have hrb : 1 ≤ r ∧ r ≤ 7 := by omega
  have HR := Lib.hid hr
  have HO := Lib.hid ho
  have HB := Lib.hid hb
  clear hr hr8 ho hb
  have b0 : (((r : Int)) == 0) = false := by rw [beq_eq_false_iff_ne]; omega
  cases hi
  all_goals
    simp only [if_true, if_false, Bool.false_eq_true] at HP
    have HP' := Lib.hid HP
    clear HP
    go_enter Try.func40, Try.ntmps40
    go_wp2
    refine wp_region_seq (by kernel_rfl) (by kernel_rfl) ?_
    go_wp2
    refine ⟨by kernel_rfl, ?_⟩
    go_wp2
    go_end0
    refine ⟨rfl, _, wr_stored' HB.out HO.out hgg hbx ?_ (by have := HR.out; simp; omega) (by simp), ?_, Moved.refl _ _⟩
    · have := HP'.out
      first | exact this | (simp at this ⊢; exact this)
    · exact (((Keeps.refl _ w).setCell (p := ⟨g', _, none⟩) (fun hlt => .inr rfl) _).setCell (p := ⟨g, 3, none⟩) (fun _ => .inl rfl) _).drew

theorem bit_any (w : World) (g : Nat) (hi : Bool) (v : Value) (l : List Int) (x : Int) (h : Wr w g hi v l) (hx : x = 0 ∨ x = 1) (hl : l.length ≤ 1000000000000000) :
    Calls Try.prog 40 #[.pointer (some ⟨g, 0, none⟩), .int .u8 x] w fun e w' => e = .returned (.tuple #[]) ∧ ∃ v', Wr w' g hi v' (l ++ [x]) ∧ WrKeep w w' g v v' := by
  by_cases h8 : l.length % 8 = 0
  · exact bit_new w g hi v l x h hx hl h8
  · exact bit_old w g hi v l x h hx hl h8

end Go.Proofs.Ytofalbbbnhnadaa
