/- RangerReads: both decoders, and the acts. -/
import Derived.Test.YtiikbpcaeoodjaaRdN
import Derived.Test.YtiikbpcaeoodjaaDcN
import Derived.Test.YtiikbpcaeoodjaaDcT
import Derived.Test.YtiikbpcaeoodjaaWrP
namespace Go.Proofs.Ytiikbpcaeoodjaa
open Go.RowKit
set_option linter.unusedVariables false
set_option linter.unusedSimpArgs false

/-- Both decoders, all made since W; the bytes of the document's lie below. -/
structure DD (W w : World) (n cg cgc rg : Nat) (RB BB : Nat → Prop) (rvc : Value) (Ab : Option Addr) (m c : Nat) (xs : List Int) (d f : Dec) : Prop where
  dec : ∃ A c', DecAt w cg cgc n RB A c' d
  ref : ∃ p, RDecAt w rg rvc BB Ab m c xs p f
  grow : Grow W w
  hcg : W.heap.size ≤ cg
  hcgc : W.heap.size ≤ cgc
  hrg : W.heap.size ≤ rg
  hrvc : ∀ k, rvc.ownBlock = some k → W.heap.size ≤ k
  hRB : ∀ k, RB k → k < w.heap.size
  hRW : ∀ k, RB k → W.heap.size ≤ k
  hBB : ∀ k, BB k → k < W.heap.size
  nrg : ¬ RB rg
  nrvc : ∀ k, rvc.ownBlock = some k → ¬ RB k
namespace DD
variable {W w w' : World} {n cg cgc rg m c : Nat} {RB BB : Nat → Prop} {rvc : Value} {Ab : Option Addr} {xs : List Int} {d f d' f' : Dec}
theorem keep {S : Nat → Prop} (h : DD W w n cg cgc rg RB BB rvc Ab m c xs d f) (k : Keeps S w w') (hS : ∀ b, b < w.heap.size → ¬ S b) : DD W w' n cg cgc rg RB BB rvc Ab m c xs d f := by
  have q : Grow w w' := Keeps.trans (Keeps.refl _ w) k (fun i hi hs => absurd hs (hS i hi))
  obtain ⟨A, c', h1⟩ := h.dec
  obtain ⟨p, h2⟩ := h.ref
  exact ⟨⟨A, c', h1.keep q (fun h => h) (fun h => h) (fun _ _ h => h)⟩, ⟨p, h2.keep q (fun h => h) (fun _ _ h => h) (fun _ _ h => h)⟩, Grow.trans _ _ _ h.grow q, h.hcg, h.hcgc, h.hrg, h.hrvc, fun k hk => Nat.lt_of_lt_of_le (h.hRB k hk) q.size, h.hRW, h.hBB, h.nrg, h.nrvc⟩
theorem grown (h : DD W w n cg cgc rg RB BB rvc Ab m c xs d f) (k : Grow w w') : DD W w' n cg cgc rg RB BB rvc Ab m c xs d f := h.keep k fun _ _ h => h
theorem c_rg (h : DD W w n cg cgc rg RB BB rvc Ab m c xs d f) : cg ≠ rg := by
  obtain ⟨A, c', h1⟩ := h.dec
  obtain ⟨p, h2⟩ := h.ref
  exact blk_ne h1.blk h2.blk (by decide)
theorem cgc_rg (h : DD W w n cg cgc rg RB BB rvc Ab m c xs d f) : cgc ≠ rg := by
  obtain ⟨A, c', h1⟩ := h.dec
  obtain ⟨p, h2⟩ := h.ref
  obtain ⟨cs, h3⟩ := h1.chs_blk
  exact blk_ne h3 h2.blk (by decide)
theorem rvc_cg (h : DD W w n cg cgc rg RB BB rvc Ab m c xs d f) : rvc.ownBlock ≠ some cg := by
  obtain ⟨A, c', h1⟩ := h.dec
  obtain ⟨p, h2⟩ := h.ref
  exact row_ne h2.chs h1.blk (by decide)
theorem rvc_cgc (h : DD W w n cg cgc rg RB BB rvc Ab m c xs d f) : rvc.ownBlock ≠ some cgc := by
  obtain ⟨A, c', h1⟩ := h.dec
  obtain ⟨p, h2⟩ := h.ref
  obtain ⟨cs, h3⟩ := h1.chs_blk
  exact row_ne h2.chs h3 (by decide)
/-- The program's decoder is moved on. -/
theorem toC (h : DD W w n cg cgc rg RB BB rvc Ab m c xs d f) (t : DecTo2 w cg cgc n RB d' w') : DD W w' n cg cgc rg RB BB rvc Ab m c xs d' f := by
  obtain ⟨A, c', h1, h2⟩ := t
  obtain ⟨p, h3⟩ := h.ref
  refine ⟨⟨A, c', h1⟩, ⟨p, h3.keep h2 ?_ ?_ ?_⟩, ?_, h.hcg, h.hcgc, h.hrg, h.hrvc, fun k hk => Nat.lt_of_lt_of_le (h.hRB k hk) h2.size, h.hRW, h.hBB, h.nrg, h.nrvc⟩
  · rintro (h9 | h9)
    · exact h.c_rg h9.symm
    · exact h.cgc_rg h9.symm
  · rintro i hi (h9 | h9)
    · subst h9; exact h.rvc_cg hi
    · subst h9; exact h.rvc_cgc hi
  · rintro b hb (h9 | h9)
    · have h7 := h.hBB b hb; have h8 := h.hcg; omega
    · have h7 := h.hBB b hb; have h8 := h.hcgc; omega
  · refine Keeps.trans h.grow h2 fun i hi h9 => ?_
    rcases h9 with h9 | h9
    · have := h.hcg; omega
    · have := h.hcgc; omega
/-- The document's decoder is moved on. -/
theorem toR (h : DD W w n cg cgc rg RB BB rvc Ab m c xs d f) (t : RDecTo2 w rg rvc BB Ab m c xs f' w') : DD W w' n cg cgc rg RB BB rvc Ab m c xs d f' := by
  obtain ⟨p, h1, h2⟩ := t
  obtain ⟨A, c', h3⟩ := h.dec
  refine ⟨⟨A, c', h3.keep h2 ?_ ?_ ?_⟩, ⟨p, h1⟩, ?_, h.hcg, h.hcgc, h.hrg, h.hrvc, fun k hk => Nat.lt_of_lt_of_le (h.hRB k hk) h2.size, h.hRW, h.hBB, h.nrg, h.nrvc⟩
  · rintro (h9 | h9)
    · exact h.c_rg h9
    · exact h.rvc_cg h9
  · rintro (h9 | h9)
    · exact h.cgc_rg h9
    · exact h.rvc_cgc h9
  · rintro b hb (h9 | h9)
    · subst h9; exact h.nrg hb
    · exact h.nrvc b h9 hb
  · refine Keeps.trans h.grow h2 fun i hi h9 => ?_
    rcases h9 with h9 | h9
    · have := h.hrg; omega
    · have := h.hrvc i h9; omega
/-- The document's chances are set. -/
theorem setR {l : List Nat} {mm cc : Nat} {A : Option Addr} (h : DD W w n cg cgc rg RB BB rvc Ab m c xs d f) (hn : ∀ k, (Value.slice A mm cc).ownBlock = some k → ¬ RB k) (ho : w.ownsRow W.heap.size 3 1 (.slice A mm cc) l.length ((toI l).map (Value.int .i64))) :
    DD W (w.setCell ⟨rg, 0, none⟩ (.slice A mm cc)) n cg cgc rg RB BB (.slice A mm cc) Ab m c xs d { f with ch := l } := by
  have hk := (Keeps.refl (fun k => k = rg) w).setCell (p := ⟨rg, 0, none⟩) (fun _ => rfl) (.slice A mm cc)
  obtain ⟨A1, c1, h1⟩ := h.dec
  obtain ⟨p, h2⟩ := h.ref
  refine ⟨⟨A1, c1, h1.keep hk (fun h9 => h.c_rg h9) (fun h9 => h.cgc_rg h9) (fun b hb h9 => h.nrg (h9 ▸ hb))⟩, ⟨p, ?_, ?_, h2.bs.keep hk (fun b o e h9 => h2.ng (h9 ▸ h2.rb b o e)), h2.len, h2.rest, h2.rb, h2.ng, fun k hk hb => ?_⟩, ?_, h.hcg, h.hcgc, h.hrg, own_ge ho, fun k hk9 => Nat.lt_of_lt_of_le (h.hRB k hk9) hk.size, h.hRW, h.hBB, h.nrg, hn⟩
  · exact blk_set h2.blk 0 (.slice A mm cc)
  · exact row_set_far (owns_any_base ho (Nat.zero_le _)) (p := ⟨rg, 0, none⟩) (row_ne ho h2.blk (by decide)) _
  · have h3 := own_ge ho k hk
    have h4 := h.hBB k hb
    omega
  · exact Keeps.trans h.grow hk fun i hi h9 => by have := h.hrg; omega
theorem lt_all (h : DD W w n cg cgc rg RB BB rvc Ab m c xs d f) : cg < w.heap.size ∧ cgc < w.heap.size ∧ rg < w.heap.size := by
  obtain ⟨A, c', h1⟩ := h.dec
  obtain ⟨p, h2⟩ := h.ref
  obtain ⟨cs, h3⟩ := h1.chs_blk
  exact ⟨blk_lt h1.blk, blk_lt h3, blk_lt h2.blk⟩
end DD
theorem DecTo2.rel {w w' : World} {g gc cc ga c : Nat} {RB : Nat → Prop} {A : Option Addr} {d d' : Dec} {cs : Array Value} (h : DecAt w g gc cc RB A c d) (hga : w.heap[ga]? = some (.cells cs 43 (0, 0))) (t : DecTo2 w g gc cc RB d' w') : Keeps (fun k => k ≠ ga) w w' := by
  obtain ⟨A', c', _, h2⟩ := t
  refine h2.mono fun k _ hk => ?_
  rintro rfl
  rcases hk with hk | hk
  · exact blk_ne h.blk hga (by decide) hk.symm
  · obtain ⟨cs, h9⟩ := h.chs_blk
    exact blk_ne h9 hga (by decide) hk.symm
theorem DecTo2.same {w w' : World} {g gc cc c : Nat} {RB : Nat → Prop} {A : Option Addr} {d : Dec} (h : DecAt w g gc cc RB A c d) (q : Grow w w') : DecTo2 w g gc cc RB d w' :=
  ⟨A, c, h.keep q (fun h => h) (fun h => h) (fun _ _ h => h), gk q⟩
theorem RDecTo2.same {w w' : World} {g m c p : Nat} {vc : Value} {BB : Nat → Prop} {A : Option Addr} {xs : List Int} {d : Dec} (h : RDecAt w g vc BB A m c xs p d) (q : Grow w w') : RDecTo2 w g vc BB A m c xs d w' :=
  ⟨p, h.keep q (fun h => h) (fun _ _ h => h) (fun _ _ h => h), gk q⟩
/-- What an act comes to: the answers, the numbers. -/
def RActIs (fc fr : FuncId) (args argsR : List Value) (n : Nat) (d : Dec) : Prop :=
  ∃ (v er : Int) (dN : Dec), dN.Ok ∧ dN.ch.length = n ∧
    (∀ w cg cgc RB A c, DecAt w cg cgc n RB A c d → (∀ k, RB k → k < w.heap.size) → Calls Try.prog fc (Array.mk (Value.pointer (some ⟨cg, 0, none⟩) :: args)) w fun e' w' => e' = .returned (.tuple #[.int .i64 v, .int .i64 er]) ∧ DecTo2 w cg cgc n RB dN w') ∧
    (∀ w rg rvc BB A m c xs p, RDecAt w rg rvc BB A m c xs p d → m ≤ 140737488355328 → Calls Try.prog fr (Array.mk (Value.pointer (some ⟨rg, 0, none⟩) :: argsR)) w fun e' w' => e' = .returned (.tuple #[.int .i64 v, .int .i64 er]) ∧ RDecTo2 w rg rvc BB A m c xs dN w')

theorem ract_bit (bs : Int) (n : Nat) (d : Dec) (hok : d.Ok) (hl : d.ch.length = n) (hn : n ≤ 65536) :
    RActIs 30 31 [.int .i64 bs] [.int .i64 bs] n d := by
  by_cases h : bs < 0 ∨ (n : Int) ≤ bs
  · refine ⟨0, 2, d, hok, hl, fun w cg cgc RB A c hE hrb => ?_, fun w rg rvc BB A m c xs p hE hm => ?_⟩
    · refine (dBit_bad w cg cgc n RB A c d hE bs (by rw [hl]; exact h)).mono ?_
      rintro x w' ⟨rfl, rfl⟩
      exact ⟨rfl, DecTo2.same hE (Keeps.refl _ _)⟩
    · refine (rBit_bad w rg rvc BB A m c xs p d hE bs (by rw [hl]; exact h)).mono ?_
      rintro x w' ⟨rfl, rfl⟩
      exact ⟨rfl, RDecTo2.same hE (Keeps.refl _ _)⟩
  obtain ⟨i, rfl⟩ : ∃ i : Nat, bs = (i : Int) := ⟨bs.toNat, by omega⟩
  have hi : i < d.ch.length := by omega
  obtain ⟨g1, g2, g3⟩ := Dec.get_ok d hok i hi
  refine ⟨_, _, d.get i, g1, g3.trans hl, fun w cg cgc RB A c hE hrb => dBit_is w cg cgc n RB A c d hE hok i hi (by omega), fun w rg rvc BB A m c xs p hE hm => ?_⟩
  cases ho : d.over
  · exact rBit_is w rg rvc BB A m c xs p d hE hok ho i hi (by omega) hm
  · have hg : d.get i = d := by rw [Dec.get, if_pos ho]
    rw [hg, ho]
    refine (rBit_over w rg rvc BB A m c xs p d hE ho i hi).mono ?_
    rintro x w' ⟨rfl, rfl⟩
    exact ⟨rfl, RDecTo2.same hE (Keeps.refl _ _)⟩
theorem ract_direct (m9 : Int) (n : Nat) (d : Dec) (hok : d.Ok) (hl : d.ch.length = n) (hn : n ≤ 65536) :
    RActIs 32 33 [.int .i64 m9] [.int .i64 m9] n d := by
  by_cases h : m9 < 0 ∨ 31 < m9
  · refine ⟨0, 2, d, hok, hl, fun w cg cgc RB A c hE hrb => ?_, fun w rg rvc BB A m c xs p hE hm => ?_⟩
    · refine (dDirect_bad w cg cgc n RB A c d hE m9 h).mono ?_
      rintro x w' ⟨rfl, rfl⟩
      exact ⟨rfl, DecTo2.same hE (Keeps.refl _ _)⟩
    · refine (rDirect_bad w rg rvc BB A m c xs p d hE m9 h).mono ?_
      rintro x w' ⟨rfl, rfl⟩
      exact ⟨rfl, RDecTo2.same hE (Keeps.refl _ _)⟩
  obtain ⟨k, rfl⟩ : ∃ k : Nat, m9 = (k : Int) := ⟨m9.toNat, by omega⟩
  have hk : k ≤ 31 := by omega
  cases ho : d.over
  · obtain ⟨g1, g2, g3⟩ := Dec.dirD_ok k d hok ho
    exact ⟨_, _, d.dirD k, g1, (congrArg List.length g3).trans hl, fun w cg cgc RB A c hE hrb => dDirect_is w cg cgc n RB A c d hE hok ho k hk, fun w rg rvc BB A m c xs p hE hm => rDirect_is w rg rvc BB A m c xs p d hE hok ho k hk hm⟩
  · refine ⟨0, 10, d, hok, hl, fun w cg cgc RB A c hE hrb => ?_, fun w rg rvc BB A m c xs p hE hm => ?_⟩
    · refine (dDirect_over w cg cgc n RB A c d hE ho k hk).mono ?_
      rintro x w' ⟨rfl, rfl⟩
      exact ⟨rfl, DecTo2.same hE (Keeps.refl _ _)⟩
    · refine (rDirect_over w rg rvc BB A m c xs p d hE ho k hk).mono ?_
      rintro x w' ⟨rfl, rfl⟩
      exact ⟨rfl, RDecTo2.same hE (Keeps.refl _ _)⟩
/-- What the program's walk leaves, as Tree and Reverse want it. -/
theorem dWalk_of (w : World) (g gc cc : Nat) (RB : Nat → Prop) (A : Option Addr) (c : Nat) (d : Dec) (h : DecAt w g gc cc RB A c d) (hok : d.Ok) (ho : d.over = false) (hlen : d.ch.length ≤ 65536) (base n : Nat) (hn : n ≤ 16) (hbn : base + 2 ^ n ≤ d.ch.length) (hrb : ∀ k, RB k → k < w.heap.size) :
    Calls Try.prog 60 #[.pointer (some ⟨g, 0, none⟩), .int .i64 base, .int .i64 n] w fun e' w' => ∃ (Al : Option Addr) (cl er : Nat) (l : List Nat), e' = .returned (.tuple #[.slice Al l.length cl, .int .i64 (er : Nat)]) ∧ w'.ownsRow w.heap.size 3 1 (.slice Al l.length cl) l.length ((toI l).map (Value.int .i64)) ∧ l.length ≤ 16 ∧ (∀ x ∈ l, x ≤ 1) ∧
      (((d.walkD base 1 n).over = true ∧ l = [] ∧ er = 10 ∨ (d.walkD base 1 n).over = false ∧ l = d.walkL base 1 n ∧ er = 0) ∧ DecTo2 w g gc cc RB (d.walkD base 1 n) w') := by
  refine (dWalk_is w g gc cc RB A c d h hok ho hlen base n hn hbn hrb).mono ?_
  rintro x w' ⟨Al, ln, cl, er, rfl, h1, h2⟩
  rcases h1 with ⟨h3, rfl, rfl, rfl, rfl⟩ | ⟨h3, rfl, rfl, h4⟩
  · exact ⟨none, 0, 10, [], rfl, own_nil _ _ _, by simp, by simp, .inl ⟨h3, rfl, rfl⟩, h2⟩
  · have hl := Dec.walkL_len base ln d 1
    refine ⟨Al, cl, 0, d.walkL base 1 ln, ?_, ?_, by omega, Dec.walkL_le _ _ _ _, .inr ⟨h3, rfl, rfl⟩, h2⟩
    · rw [hl]
    · rw [hl]; exact h4
theorem ract_tree (high : Bool) (fc : FuncId) (hfc : ∀ (w : World) (g : Nat) (base n : Int) (P : Nat → List Nat → World → Prop), (Calls Try.prog 60 #[.pointer (some ⟨g, 0, none⟩), .int .i64 base, .int .i64 n] w fun e' w' => ∃ (Al : Option Addr) (cl er : Nat) (l : List Nat), e' = .returned (.tuple #[.slice Al l.length cl, .int .i64 (er : Nat)]) ∧ w'.ownsRow w.heap.size 3 1 (.slice Al l.length cl) l.length ((toI l).map (Value.int .i64)) ∧ l.length ≤ 16 ∧ (∀ x ∈ l, x ≤ 1) ∧ P er l w') →
      Calls Try.prog fc #[.pointer (some ⟨g, 0, none⟩), .int .i64 base, .int .i64 n] w fun e' w' => ∃ (er : Nat) (l : List Nat), e' = .returned (.tuple #[.int .i64 (valT high l : Nat), .int .i64 (er : Nat)]) ∧ P er l w')
    (bs m9 : Int) (n : Nat) (d : Dec) (hok : d.Ok) (hl : d.ch.length = n) (hn : n ≤ 65536) (hbk : inKind .i64 bs) (hmk : inKind .i64 m9) :
    RActIs fc 35 [.int .i64 bs, .int .i64 m9] [.int .i64 bs, .int .i64 m9, .bool high] n d := by
  have hv0 : valT high [] = 0 := by cases high <;> rfl
  cases hM : mayT bs m9 n
  · refine ⟨0, 2, d, hok, hl, fun w cg cgc RB A c hE hrb => ?_, fun w rg rvc BB A m c xs p hE hm => ?_⟩
    · refine (hfc w cg bs m9 (fun er l w' => er = 2 ∧ l = [] ∧ w = w') ((dWalk_bad w cg cgc n RB A c d hE (by omega) bs m9 hbk hmk (by rw [hl]; exact hM)).mono ?_)).mono ?_
      · rintro x w' ⟨rfl, rfl⟩
        exact ⟨none, 0, 2, [], rfl, own_nil _ _ _, by simp, by simp, rfl, rfl, rfl⟩
      · rintro x w' ⟨er, l, rfl, rfl, rfl, rfl⟩
        exact ⟨by rw [hv0]; rfl, DecTo2.same hE (Keeps.refl _ _)⟩
    · refine (rTree_bad w rg rvc BB A m c xs p d hE (by omega) bs m9 high hbk hmk (by rw [hl]; exact hM)).mono ?_
      rintro x w' ⟨rfl, rfl⟩
      exact ⟨rfl, RDecTo2.same hE (Keeps.refl _ _)⟩
  obtain ⟨q1, q2, q3, q4⟩ := mayT_iff.1 hM
  obtain ⟨a, rfl⟩ : ∃ a : Nat, bs = (a : Int) := ⟨bs.toNat, by omega⟩
  obtain ⟨k, rfl⟩ : ∃ k : Nat, m9 = (k : Int) := ⟨m9.toNat, by omega⟩
  simp only [Int.toNat_natCast] at q4
  rw [powI] at q4
  have hab : a + 2 ^ k ≤ d.ch.length := by omega
  have hk : k ≤ 16 := by omega
  cases ho : d.over
  · obtain ⟨g1, g2, g3⟩ := Dec.walkD_ok a (2 ^ k) n (by omega) k d 1 hok hl (by omega)
    refine ⟨_, _, d.walkD a 1 k, g1, g3, fun w cg cgc RB A c hE hrb => ?_, fun w rg rvc BB A m c xs p hE hm => rTree_is w rg rvc BB A m c xs p d hE hok ho (by omega) a k high hk hab hm⟩
    refine (hfc w cg a k _ (dWalk_of w cg cgc n RB A c d hE hok ho (by omega) a k hk hab hrb)).mono ?_
    rintro x w' ⟨er, l, rfl, h1, h2⟩
    refine ⟨?_, h2⟩
    rcases h1 with ⟨h3, rfl, rfl⟩ | ⟨h3, rfl, rfl⟩
    · rw [h3, hv0]; rfl
    · rw [h3]; rfl
  · refine ⟨0, 10, d, hok, hl, fun w cg cgc RB A c hE hrb => ?_, fun w rg rvc BB A m c xs p hE hm => ?_⟩
    · refine (hfc w cg a k (fun er l w' => er = 10 ∧ l = [] ∧ w = w') ((dWalk_over w cg cgc n RB A c d hE ho (by omega) a k hbk hmk (by rw [hl]; exact hM)).mono ?_)).mono ?_
      · rintro x w' ⟨rfl, rfl⟩
        exact ⟨none, 0, 10, [], rfl, own_nil _ _ _, by simp, by simp, rfl, rfl, rfl⟩
      · rintro x w' ⟨er, l, rfl, rfl, rfl, rfl⟩
        exact ⟨by rw [hv0]; rfl, DecTo2.same hE (Keeps.refl _ _)⟩
    · refine (rTree_over w rg rvc BB A m c xs p d hE ho (by omega) a k high hk hab).mono ?_
      rintro x w' ⟨rfl, rfl⟩
      exact ⟨rfl, RDecTo2.same hE (Keeps.refl _ _)⟩
theorem ract_high (bs m9 : Int) (n : Nat) (d : Dec) (hok : d.Ok) (hl : d.ch.length = n) (hn : n ≤ 65536) (hbk : inKind .i64 bs) (hmk : inKind .i64 m9) :
    RActIs 34 35 [.int .i64 bs, .int .i64 m9] [.int .i64 bs, .int .i64 m9, .bool true] n d :=
  ract_tree true _ (fun w g base n P h => dTree_of w g base n P h) bs m9 n d hok hl hn hbk hmk
theorem ract_low (bs m9 : Int) (n : Nat) (d : Dec) (hok : d.Ok) (hl : d.ch.length = n) (hn : n ≤ 65536) (hbk : inKind .i64 bs) (hmk : inKind .i64 m9) :
    RActIs 36 35 [.int .i64 bs, .int .i64 m9] [.int .i64 bs, .int .i64 m9, .bool false] n d :=
  ract_tree false _ (fun w g base n P h => dRev_of w g base n P h) bs m9 n d hok hl hn hbk hmk
end Go.Proofs.Ytiikbpcaeoodjaa
