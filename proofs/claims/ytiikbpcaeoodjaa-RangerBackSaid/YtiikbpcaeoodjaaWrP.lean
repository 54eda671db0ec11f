/- RangerWrites: both encoders, and the acts. -/
import Derived.Test.YtiikbpcaeoodjaaRfM
import Derived.Test.YtiikbpcaeoodjaaEnV
import Derived.Test.YtiikbpcaeoodjaaSp13
namespace Go.Proofs.Ytiikbpcaeoodjaa
open Go.RowKit
set_option linter.unusedVariables false
set_option linter.unusedSimpArgs false

abbrev Act5 := (Int) × (Int) × (Int) × (Int) × (List (Int)) × Unit
theorem act5_rd {W : World} {cs : List Value} {x : Act5} (h : Sh.Rd W (.pair (.int .i64) (.pair (.int .i64) (.pair (.int .i64) (.pair (.int .i64) (.pair (.sl 8 (.int .i64)) .nil))))) cs x) :
    ∃ A c, cs = [.int .i64 x.1, .int .i64 x.2.1, .int .i64 x.2.2.1, .int .i64 x.2.2.2.1, .slice A x.2.2.2.2.1.length c] ∧ (Lit.int .i64 x.1).wf = true ∧ (Lit.int .i64 x.2.1).wf = true ∧ (Lit.int .i64 x.2.2.1).wf = true ∧ (Lit.int .i64 x.2.2.2.1).wf = true ∧ Sh.Rd W (.sl 8 (.int .i64)) [.slice A x.2.2.2.2.1.length c] x.2.2.2.2.1 := by
  obtain ⟨c1, c2, rfl, ⟨rfl, h1⟩, c3, c4, rfl, ⟨rfl, h3⟩, c5, c6, rfl, ⟨rfl, h5⟩, c7, c8, rfl, ⟨rfl, h7⟩, c9, c10, rfl, h9, h10⟩ := h
  have h10 : c10 = [] := h10
  subst h10
  obtain ⟨a, cap, rfl, r⟩ := h9
  exact ⟨a, cap, rfl, h1, h3, h5, h7, a, cap, rfl, r⟩
theorem acts5_cells {W : World} {a1 : Option Addr} {c1 : Nat} {x1 : List Act5} (h : Sh.Rd W (.sl 56 (.pair (.int .i64) (.pair (.int .i64) (.pair (.int .i64) (.pair (.int .i64) (.pair (.sl 8 (.int .i64)) .nil)))))) [.slice a1 x1.length c1] x1) (i : Nat) (hi : i < x1.length) :
    ∃ b off A c x, a1 = some ⟨b, off, none⟩ ∧ x1[i]? = some x ∧ W.cell? ⟨b, off + i * 5, none⟩ = some (.int .i64 x.1) ∧ W.cell? ⟨b, off + i * 5 + 1, none⟩ = some (.int .i64 x.2.1) ∧ W.cell? ⟨b, off + i * 5 + 2, none⟩ = some (.int .i64 x.2.2.1) ∧ W.cell? ⟨b, off + i * 5 + 3, none⟩ = some (.int .i64 x.2.2.2.1) ∧
      W.cell? ⟨b, off + i * 5 + 4, none⟩ = some (.slice A x.2.2.2.2.1.length c) ∧ (Lit.int .i64 x.1).wf = true ∧ (Lit.int .i64 x.2.1).wf = true ∧ (Lit.int .i64 x.2.2.1).wf = true ∧ (Lit.int .i64 x.2.2.2.1).wf = true ∧ Sh.Rd W (.sl 8 (.int .i64)) [.slice A x.2.2.2.2.1.length c] x.2.2.2.2.1 := by
  obtain ⟨a, cap, e, h1, h2, h3, h4, h5⟩ := h
  injection e with e _
  injection e with e1 e2 e3
  subst e1
  obtain ⟨b, off, rfl, hb, hx⟩ := h5 (by omega)
  have hget : x1[i]? = some x1[i] := List.getElem?_eq_getElem hi
  obtain ⟨cs, hl, hc, hr⟩ := hx i _ hget
  obtain ⟨A, c, rfl, hk, hv, hn, hm, hbb⟩ := act5_rd hr
  refine ⟨b, off, A, c, _, rfl, hget, ?_, ?_, ?_, ?_, ?_, hk, hv, hn, hm, hbb⟩
  · exact hc 0 (by decide)
  · exact hc 1 (by decide)
  · exact hc 2 (by decide)
  · exact hc 3 (by decide)
  · exact hc 4 (by decide)
theorem acts5_len {W : World} {a1 : Option Addr} {c1 : Nat} {x1 : List Act5} (h : Sh.Rd W (.sl 56 (.pair (.int .i64) (.pair (.int .i64) (.pair (.int .i64) (.pair (.int .i64) (.pair (.sl 8 (.int .i64)) .nil)))))) [.slice a1 x1.length c1] x1) : x1.length * 56 ≤ 140737488351232 := by
  obtain ⟨a, cap, e, h1, h2, h3, h4, h5⟩ := h
  have := Nat.mul_le_mul_right 56 h1
  omega

/-- Both encoders, all made since W. -/
structure EE (W w : World) (n cg cgc rg : Nat) (cvo rvc rvo : Value) (e f : Enc) : Prop where
  enc : EncAt w cg cgc n cvo e
  ref : RefAt w rg rvc rvo f
  grow : Grow W w
  hcg : W.heap.size ≤ cg
  hcgc : W.heap.size ≤ cgc
  hrg : W.heap.size ≤ rg
  hcvo : ∀ k, cvo.ownBlock = some k → W.heap.size ≤ k
  hrvc : ∀ k, rvc.ownBlock = some k → W.heap.size ≤ k
  hrvo : ∀ k, rvo.ownBlock = some k → W.heap.size ≤ k
  ne : ∀ k, cvo.ownBlock = some k → rvo.ownBlock ≠ some k
theorem blk_ne {w : World} {g g' : Nat} {c c' : Array Value} {e e' : TypeId} (h : w.heap[g]? = some (.cells c e (0, 0))) (h' : w.heap[g']? = some (.cells c' e' (0, 0))) (hne : e ≠ e') : g ≠ g' := by
  rintro rfl
  rw [h] at h'
  injection h' with h'
  injection h' with _ h'
  exact hne h'
theorem Moved.far {w W : World} {v v' : Value} (h : Moved w v v') (hz : W.heap.size ≤ w.heap.size) (hv : ∀ k, v.ownBlock = some k → W.heap.size ≤ k) : ∀ k, v'.ownBlock = some k → W.heap.size ≤ k := fun k hk => by
  rcases h with h | ⟨i, h, hi⟩
  · rw [h] at hk; exact hv k hk
  · rw [h] at hk; injection hk with hk; omega
namespace EE
variable {W w w' : World} {n cg cgc rg : Nat} {cvo rvc rvo : Value} {e f e' f' : Enc}
theorem keep {S : Nat → Prop} (h : EE W w n cg cgc rg cvo rvc rvo e f) (k : Keeps S w w') (hS : ∀ b, b < w.heap.size → ¬ S b) : EE W w' n cg cgc rg cvo rvc rvo e f := by
  have q : Grow w w' := Keeps.trans (Keeps.refl _ w) k (fun i hi hs => absurd hs (hS i hi))
  exact ⟨h.enc.keep q (fun h => h) (fun h => h) (fun _ _ h => h), h.ref.keep q (fun h => h) (fun _ _ h => h) (fun _ _ h => h), Grow.trans _ _ _ h.grow q, h.hcg, h.hcgc, h.hrg, h.hcvo, h.hrvc, h.hrvo, h.ne⟩
theorem grown (h : EE W w n cg cgc rg cvo rvc rvo e f) (k : Grow w w') : EE W w' n cg cgc rg cvo rvc rvo e f := h.keep k fun _ _ h => h
/-- What the two do not share. -/
theorem c_rg (h : EE W w n cg cgc rg cvo rvc rvo e f) : cg ≠ rg := blk_ne h.enc.blk h.ref.blk (by decide)
theorem cgc_rg (h : EE W w n cg cgc rg cvo rvc rvo e f) : cgc ≠ rg := by
  obtain ⟨cs, h2⟩ := h.enc.chs_blk
  exact blk_ne h2 h.ref.blk (by decide)
theorem cvo_rg (h : EE W w n cg cgc rg cvo rvc rvo e f) : cvo.ownBlock ≠ some rg := row_ne h.enc.out h.ref.blk (by decide)
theorem rvc_cg (h : EE W w n cg cgc rg cvo rvc rvo e f) : rvc.ownBlock ≠ some cg := row_ne h.ref.chs h.enc.blk (by decide)
theorem rvo_cg (h : EE W w n cg cgc rg cvo rvc rvo e f) : rvo.ownBlock ≠ some cg := row_ne h.ref.out h.enc.blk (by decide)
theorem rvc_cgc (h : EE W w n cg cgc rg cvo rvc rvo e f) : rvc.ownBlock ≠ some cgc := by
  obtain ⟨cs, h2⟩ := h.enc.chs_blk
  exact row_ne h.ref.chs h2 (by decide)
theorem rvo_cgc (h : EE W w n cg cgc rg cvo rvc rvo e f) : rvo.ownBlock ≠ some cgc := by
  obtain ⟨cs, h2⟩ := h.enc.chs_blk
  exact row_ne h.ref.out h2 (by decide)
theorem rvc_cvo (h : EE W w n cg cgc rg cvo rvc rvo e f) (k : Nat) (hk : rvc.ownBlock = some k) : cvo.ownBlock ≠ some k := rows_apart h.ref.chs h.enc.out (by decide) k hk
/-- The program's encoder is moved on. -/
theorem toC (h : EE W w n cg cgc rg cvo rvc rvo e f) (hw : W.heap.size ≤ w.heap.size) (t : EncTo2 w cg cgc n cvo e' w') : ∃ cvo', EE W w' n cg cgc rg cvo' rvc rvo e' f := by
  obtain ⟨cvo', h1, h2, h3⟩ := t
  refine ⟨cvo', h1, h.ref.keep h2 ?_ ?_ ?_, ?_, h.hcg, h.hcgc, h.hrg, h3.far hw h.hcvo, h.hrvc, h.hrvo, fun k hk hk2 => ?_⟩
  · rintro (h9 | h9 | h9)
    · exact h.c_rg h9.symm
    · exact h.cgc_rg h9.symm
    · exact h.cvo_rg h9
  · rintro i hi (h9 | h9 | h9)
    · subst h9; exact h.rvc_cg hi
    · subst h9; exact h.rvc_cgc hi
    · exact h.rvc_cvo i hi h9
  · rintro i hi (h9 | h9 | h9)
    · subst h9; exact h.rvo_cg hi
    · subst h9; exact h.rvo_cgc hi
    · exact h.ne i h9 hi
  · refine Keeps.trans h.grow h2 fun i hi h9 => ?_
    rcases h9 with h9 | h9 | h9
    · have := h.hcg; omega
    · have := h.hcgc; omega
    · have := h.hcvo i h9; omega
  · rcases h3 with h9 | ⟨i, h9, hi⟩
    · rw [h9] at hk; exact h.ne k hk hk2
    · rw [h9] at hk; injection hk with hk; have := (h.ref.out.lt k hk2).2; omega
/-- The document's encoder is moved on. -/
theorem toR (h : EE W w n cg cgc rg cvo rvc rvo e f) (hw : W.heap.size ≤ w.heap.size) (t : RefTo2 w rg rvc rvo f' w') : ∃ rvo', EE W w' n cg cgc rg cvo rvc rvo' e f' := by
  obtain ⟨rvo', h1, h2, h3⟩ := t
  refine ⟨rvo', h.enc.keep h2 ?_ ?_ ?_, h1, ?_, h.hcg, h.hcgc, h.hrg, h.hcvo, h.hrvc, h3.far hw h.hrvo, fun k hk hk2 => ?_⟩
  · rintro (h9 | h9 | h9)
    · exact h.c_rg h9
    · exact h.rvc_cg h9
    · exact h.rvo_cg h9
  · rintro (h9 | h9 | h9)
    · exact h.cgc_rg h9
    · exact h.rvc_cgc h9
    · exact h.rvo_cgc h9
  · rintro i hi (h9 | h9 | h9)
    · subst h9; exact h.cvo_rg hi
    · exact h.rvc_cvo i h9 hi
    · exact h.ne i hi h9
  · refine Keeps.trans h.grow h2 fun i hi h9 => ?_
    rcases h9 with h9 | h9 | h9
    · have := h.hrg; omega
    · have := h.hrvc i h9; omega
    · have := h.hrvo i h9; omega
  · rcases h3 with h9 | ⟨i, h9, hi⟩
    · rw [h9] at hk2; exact h.ne k hk hk2
    · rw [h9] at hk2; injection hk2 with hk2; have := (h.enc.out.lt k hk).2; omega
theorem lt_all (h : EE W w n cg cgc rg cvo rvc rvo e f) : cg < w.heap.size ∧ cgc < w.heap.size ∧ rg < w.heap.size := by
  obtain ⟨cs, h2⟩ := h.enc.chs_blk
  exact ⟨blk_lt h.enc.blk, blk_lt h2, blk_lt h.ref.blk⟩
end EE
theorem keeps_of {S T : Nat → Prop} {w w' : World} (h : Keeps S w w') (hST : ∀ i, i < w.heap.size → S i → T i) : Keeps T w w' := ⟨h.os, h.tape, h.output, h.size, fun k hk hT => h.block k hk (fun hs => hT (hST k hk hs))⟩
theorem hyT (S : Nat → Prop) : Hv.Hyp2 (Keeps S) Grow (fun _ _ _ => True) :=
  ⟨Keeps.refl S, fun _ _ _ h k => Keeps.trans h k fun _ _ h => h, fun _ _ _ _ _ _ => trivial, Keeps.refl _, fun _ _ _ h k => Keeps.trans h k fun _ _ h => h, fun _ _ h => gk h⟩
/-- The conditions decide: what both answer at a bit, directly, by a tree. -/
theorem bit_cases (i bit : Int) (n : Nat) : (i < 0 ∨ (n : Int) ≤ i ∨ bit < 0 ∨ 1 < bit) ∨ ∃ a b : Nat, i = (a : Int) ∧ bit = (b : Int) ∧ a < n ∧ b ≤ 1 := by
  by_cases h : i < 0 ∨ (n : Int) ≤ i ∨ bit < 0 ∨ 1 < bit
  · exact .inl h
  · exact .inr ⟨i.toNat, bit.toNat, by omega, by omega, by omega, by omega⟩
theorem direct_cases (v n : Int) : (n < 0 ∨ 31 < n ∨ v < 0 ∨ (0 ≤ n ∧ n ≤ 31 ∧ 0 ≤ v ∧ v / 2 ^ n.toNat ≠ 0)) ∨ ∃ a b : Nat, v = (a : Int) ∧ n = (b : Int) ∧ b ≤ 31 ∧ a / 2 ^ b = 0 := by
  by_cases h : n < 0 ∨ 31 < n ∨ v < 0 ∨ (0 ≤ n ∧ n ≤ 31 ∧ 0 ≤ v ∧ v / 2 ^ n.toNat ≠ 0)
  · exact .inl h
  · refine .inr ⟨v.toNat, n.toNat, by omega, by omega, by omega, ?_⟩
    by_cases h9 : v.toNat / 2 ^ n.toNat = 0
    · exact h9
    · refine absurd (.inr (.inr (.inr ⟨by omega, by omega, by omega, fun h8 => h9 ?_⟩))) h
      obtain ⟨a, rfl⟩ : ∃ a : Nat, v = (a : Int) := ⟨v.toNat, by omega⟩
      rw [powI, ← Int.natCast_ediv] at h8
      simpa using (by exact_mod_cast h8 : a / 2 ^ n.toNat = 0)
theorem tree_cases (base v n : Int) (len : Nat) : (mayT base n len = false ∨ v < 0 ∨ (0 ≤ n ∧ n ≤ 16 ∧ 0 ≤ v ∧ v / 2 ^ n.toNat ≠ 0)) ∨ ∃ a b c : Nat, base = (a : Int) ∧ v = (b : Int) ∧ n = (c : Int) ∧ c ≤ 16 ∧ a + 2 ^ c ≤ len ∧ b / 2 ^ c = 0 := by
  by_cases h : mayT base n len = false ∨ v < 0 ∨ (0 ≤ n ∧ n ≤ 16 ∧ 0 ≤ v ∧ v / 2 ^ n.toNat ≠ 0)
  · exact .inl h
  · have hM : mayT base n len = true := by cases h9 : mayT base n len; exact absurd (.inl h9) h; rfl
    obtain ⟨h1, h2, h3, h4⟩ := mayT_iff.1 hM
    rw [powI] at h4
    have hv : 0 ≤ v := by omega
    refine .inr ⟨base.toNat, v.toNat, n.toNat, by omega, by omega, by omega, by omega, by omega, ?_⟩
    by_cases h9 : v.toNat / 2 ^ n.toNat = 0
    · exact h9
    · refine absurd (.inr (.inr ⟨by omega, by omega, by omega, fun h8 => h9 ?_⟩)) h
      obtain ⟨a, rfl⟩ : ∃ a : Nat, v = (a : Int) := ⟨v.toNat, by omega⟩
      rw [powI, ← Int.natCast_ediv] at h8
      simpa using (by exact_mod_cast h8 : a / 2 ^ n.toNat = 0)
end Go.Proofs.Ytiikbpcaeoodjaa
