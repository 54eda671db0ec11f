/- A reader is made; the law BitsBack: the walk. -/
import Derived.Test.YtofalbbbnhnadaaRd
import Derived.Test.YtofalbbbnhnadaaRdr
import Derived.Test.YtofalbbbnhnadaaParts
namespace Go.Proofs.Ytofalbbbnhnadaa
open Go.RowKit
set_option linter.unusedVariables false

theorem cell_keep {S : Nat → Prop} {w w' : World} {p : Addr} {u : Value} (h : w.cell? p = some u) (k : Keeps S w w') (hp : ¬ S p.block) : w'.cell? p = some u := by
  rw [← h]
  exact World.cell?_of_block (k.block _ (World.block_lt_of_cell? w _ h) hp)

theorem newReader_any (w : World) (hi : Bool) (A : Option Addr) (m c : Nat) (xs : List Int) (h : Src w 1 A m c (xs.map (Value.int .u8))) (hb : ∀ x ∈ xs, 0 ≤ x ∧ x < 256) (hm : m ≤ 140737488355328) :
    Calls Try.prog 17 #[.slice A m c, .bool hi] w fun e w' => ∃ g A' c', e = .returned (.pointer (some ⟨g, 0, none⟩)) ∧ w.heap.size ≤ g ∧ Rr w' g hi A' m c' xs 0 ∧ Far w (.slice A' m c') ∧ Keeps (fun _ => False) w w' := by
  have H := Lib.hid h
  clear h
  go_enter Try.func17, Try.ntmps17
  go_wp2_with fail
  refine (clone_any w A m c _ H.out hm).mono ?_
  rintro e w1 ⟨A', c', rfl, ho, hk⟩
  go_wp2
  go_ret
  refine ⟨w1.heap.size, A', c', rfl, hk.size, ⟨?_, ?_, hb⟩, fun i hi => (ho.lt i hi).1, hk.alloc _⟩
  · exact heap_alloc_new w1 _
  · exact owns_keep (owns_any_base ho (Nat.zero_le _)) ((Keeps.refl (fun _ => False) w1).alloc _) (fun _ _ h => h)

/-- What an act's cells are. -/
theorem act_rd {w : World} {cs : List Value} {x : (Int) × (Int) × (Int) × (List (Int)) × Unit} (h : Sh.Rd w (.pair (.int .i64) (.pair (.int .u64) (.pair (.int .i64) (.pair (.sl 1 (.int .u8)) .nil)))) cs x) :
    ∃ A c, cs = [.int .i64 x.1, .int .u64 x.2.1, .int .i64 x.2.2.1, .slice A x.2.2.2.1.length c] ∧ (Lit.int .i64 x.1).wf = true ∧ (Lit.int .u64 x.2.1).wf = true ∧ (Lit.int .i64 x.2.2.1).wf = true ∧
      Sh.Rd w (.sl 1 (.int .u8)) [.slice A x.2.2.2.1.length c] x.2.2.2.1 := by
  obtain ⟨_, _, rfl, ⟨rfl, hk⟩, _, _, rfl, ⟨rfl, hv⟩, _, _, rfl, ⟨rfl, hn⟩, _, _, rfl, hb, hu⟩ := h
  obtain ⟨A, c, e, r⟩ := hb
  have hu : _ = [] := hu
  subst hu
  subst e
  exact ⟨A, c, rfl, hk, hv, hn, A, c, rfl, r⟩

/-- The acts' cells. -/
theorem acts_cells {W : World} {a1 : Option Addr} {c1 : Nat} {x1 : List ((Int) × (Int) × (Int) × (List (Int)) × Unit)} (h : Sh.Rd W (.sl 48 (.pair (.int .i64) (.pair (.int .u64) (.pair (.int .i64) (.pair (.sl 1 (.int .u8)) .nil))))) [.slice a1 x1.length c1] x1) (i : Nat) (hi : i < x1.length) :
    ∃ b off A c x, a1 = some ⟨b, off, none⟩ ∧ x1[i]? = some x ∧ W.cell? ⟨b, off + i * 4, none⟩ = some (.int .i64 x.1) ∧ W.cell? ⟨b, off + i * 4 + 1, none⟩ = some (.int .u64 x.2.1) ∧ W.cell? ⟨b, off + i * 4 + 2, none⟩ = some (.int .i64 x.2.2.1) ∧
      W.cell? ⟨b, off + i * 4 + 3, none⟩ = some (.slice A x.2.2.2.1.length c) ∧ (Lit.int .i64 x.1).wf = true ∧ (Lit.int .u64 x.2.1).wf = true ∧ (Lit.int .i64 x.2.2.1).wf = true ∧ Sh.Rd W (.sl 1 (.int .u8)) [.slice A x.2.2.2.1.length c] x.2.2.2.1 := by
  obtain ⟨a, cap, e, h1, h2, h3, h4, h5⟩ := h
  injection e with e _
  injection e with e1 e2 e3
  subst e1
  obtain ⟨b, off, rfl, hb, hx⟩ := h5 (by omega)
  have hget : x1[i]? = some x1[i] := List.getElem?_eq_getElem hi
  obtain ⟨cs, hl, hc, hr⟩ := hx i _ hget
  obtain ⟨A, c, rfl, hk, hv, hn, hbb⟩ := act_rd hr
  refine ⟨b, off, A, c, _, rfl, hget, ?_, ?_, ?_, ?_, hk, hv, hn, hbb⟩
  · exact hc 0 (by decide)
  · exact hc 1 (by decide)
  · exact hc 2 (by decide)
  · exact hc 3 (by decide)

theorem rem65 (x : Int) : ∃ k : Nat, k ≤ 64 ∧ (x.tmod 65 + 65).tmod 65 = (k : Int) ∧ 0 ≤ x.tmod 65 + 65 ∧ x.tmod 65 + 65 < 200 := by
  have h1 : -65 < x.tmod 65 := by have := Int.lt_tmod_of_pos x (show (0:Int) < 65 by decide); omega
  have h2 : x.tmod 65 < 65 := Int.tmod_lt_of_pos _ (by decide)
  have h3 : 0 ≤ (x.tmod 65 + 65).tmod 65 := Int.tmod_nonneg _ (by omega)
  have h4 : (x.tmod 65 + 65).tmod 65 < 65 := Int.tmod_lt_of_pos _ (by decide)
  exact ⟨_, by omega, (Int.toNat_of_nonneg h3).symm, by omega, by omega⟩
abbrev Act4 := (Int) × (Int) × (Int) × (List (Int)) × Unit
/-- How many bits an act puts, which number, and all bits. -/
def nn (x : Act4) : Nat := ((x.2.2.1.tmod 65 + 65).tmod 65).toNat
def uu (x : Act4) : Int := x.2.1 / 2 ^ (64 - nn x)
def allBits (hi : Bool) (l : List Act4) : List Int := l.flatMap fun x => bitsOf hi (uu x) (nn x)
theorem nn_le (x : Act4) : nn x ≤ 64 := by
  obtain ⟨k, hk, e, _⟩ := rem65 x.2.2.1
  unfold nn
  omega
theorem allBits_length (hi : Bool) (l : List Act4) : (allBits hi l).length ≤ 64 * l.length := by
  induction l with
  | nil => simp [allBits]
  | cons x l ih =>
    have := nn_le x
    have e : (allBits hi (x :: l)).length = nn x + (allBits hi l).length := by simp [allBits, bitsOf]
    rw [e, List.length_cons]
    omega
theorem allBits_step (hi : Bool) (l : List Act4) (i : Nat) (x : Act4) (h : l[i]? = some x) : allBits hi (l.take (i + 1)) = allBits hi (l.take i) ++ bitsOf hi (uu x) (nn x) := by
  rw [List.take_add_one, h]
  simp [allBits]
theorem allBits_isBits (hi : Bool) (l : List Act4) : IsBits (allBits hi l) := fun x hx => by
  obtain ⟨y, _, hy⟩ := List.mem_flatMap.1 hx
  exact isBits_bitsOf hi _ _ x hy
theorem uu_fits (x : Act4) (h0 : 0 ≤ x.2.1) (h1 : x.2.1 < 18446744073709551616) : 0 ≤ uu x ∧ uu x < 18446744073709551616 ∧ uu x / 2 ^ nn x = 0 := by
  have hn := nn_le x
  have h := div_pow_range x.2.1 (64 - nn x) h0 h1
  refine ⟨h.1, h.2, ?_⟩
  have := top_fits x.2.1 (64 - nn x) (by omega) h0 h1
  rw [show 64 - (64 - nn x) = nn x from by omega] at this
  exact this
/-- What is read at an act's place. -/
theorem allBits_get (hi : Bool) (l : List Act4) (i : Nat) (x : Act4) (h : l[i]? = some x) (h0 : 0 ≤ x.2.1) (h1 : x.2.1 < 18446744073709551616) :
    numOf hi (((unpk hi (pk hi (allBits hi l))).drop (allBits hi (l.take i)).length).take (nn x)) = uu x ∧ (allBits hi (l.take i)).length + nn x ≤ 8 * (((allBits hi l).length + 7) / 8) := by
  have hsplit : allBits hi l = allBits hi (l.take i) ++ (bitsOf hi (uu x) (nn x) ++ allBits hi (l.drop (i + 1))) := by
    have e : l = l.take (i + 1) ++ l.drop (i + 1) := (List.take_append_drop _ _).symm
    have e2 : allBits hi l = allBits hi (l.take (i + 1)) ++ allBits hi (l.drop (i + 1)) := by
      conv => lhs; rw [e]
      unfold allBits
      rw [List.flatMap_append]
    rw [e2, allBits_step hi l i x h, List.append_assoc]
  have hlen : (bitsOf hi (uu x) (nn x)).length = nn x := by simp [bitsOf]
  have hl : (allBits hi (l.take i)).length + nn x ≤ (allBits hi l).length := by
    rw [hsplit]
    simp only [List.length_append, hlen]
    omega
  refine ⟨?_, by omega⟩
  have ht := unpk_pk_take hi (allBits hi l) (allBits_isBits hi l)
  have e : ((unpk hi (pk hi (allBits hi l))).drop (allBits hi (l.take i)).length).take (nn x) = bitsOf hi (uu x) (nn x) := by
    have e1 : ((unpk hi (pk hi (allBits hi l))).drop (allBits hi (l.take i)).length).take (nn x) = (((unpk hi (pk hi (allBits hi l))).take (allBits hi l).length).drop (allBits hi (l.take i)).length).take (nn x) := by
      rw [List.drop_take, List.take_take, Nat.min_eq_left (by omega)]
    rw [e1, ht]
    conv => lhs; rw [hsplit]
    rw [List.drop_left, List.take_left' hlen]
  rw [e, numOf_bitsOf]
  have hf := uu_fits x h0 h1
  apply Int.emod_eq_of_lt hf.1
  have h2 := Int.mul_ediv_add_emod (uu x) (2 ^ nn x)
  rw [hf.2.2] at h2
  have h3 := Int.emod_lt_of_pos (uu x) (pow_pos' (nn x))
  omega
end Go.Proofs.Ytofalbbbnhnadaa
