/- prefix: the code's shape. -/
import Derived.Test.YtofalbbbnhnadaaPfF
import Derived.Test.YtofalbbbnhnadaaMakG
namespace Go.Proofs.Ytofalbbbnhnadaa
open Go.RowKit
set_option linter.unusedVariables false
set_option linter.unusedSimpArgs false

/-- The cells of a code. -/
structure CodeCs (cs : Array Value) (words srt : Value) (F C P : Nat → Nat) (most : Nat) : Prop where
  size : cs.size = 69
  words : cs[0]? = some words
  first : ∀ k, k < 22 → cs[1 + k]? = some (.int .u32 (F k : Nat))
  count : ∀ k, k < 22 → cs[23 + k]? = some (.int .i64 (C k : Nat))
  place : ∀ k, k < 22 → cs[45 + k]? = some (.int .i64 (P k : Nat))
  srt : cs[67]? = some srt
  most : cs[68]? = some (.int .i64 most)
/-- Another value at k. -/
def fup (F : Nat → Nat) (k v : Nat) : Nat → Nat := fun j => if j = k then v else F j
theorem fup_same (F : Nat → Nat) (k v : Nat) : fup F k v k = v := if_pos rfl
theorem fup_ne (F : Nat → Nat) {k j : Nat} (v : Nat) (h : j ≠ k) : fup F k v j = F j := if_neg h
namespace CodeCs
variable {cs : Array Value} {wd srt : Value} {F C P : Nat → Nat} {most : Nat}
theorem setF (h : CodeCs cs wd srt F C P most) (k : Nat) (hk : k < 22) (v : Nat) : CodeCs (cs.setIfInBounds (1 + k) (.int .u32 v)) wd srt (fup F k v) C P most := by
  have hs := h.size
  refine ⟨by simp [hs], ?_, fun j hj => ?_, fun j hj => ?_, fun j hj => ?_, ?_, ?_⟩
  · rw [Array.getElem?_setIfInBounds_ne (by omega)]; exact h.words
  · by_cases hjk : j = k
    · subst hjk
      rw [Array.getElem?_setIfInBounds_self_of_lt (by omega), fup_same]
    · rw [Array.getElem?_setIfInBounds_ne (by omega), fup_ne _ _ hjk]; exact h.first j hj
  · rw [Array.getElem?_setIfInBounds_ne (by omega)]; exact h.count j hj
  · rw [Array.getElem?_setIfInBounds_ne (by omega)]; exact h.place j hj
  · rw [Array.getElem?_setIfInBounds_ne (by omega)]; exact h.srt
  · rw [Array.getElem?_setIfInBounds_ne (by omega)]; exact h.most
theorem setC (h : CodeCs cs wd srt F C P most) (k : Nat) (hk : k < 22) (v : Nat) : CodeCs (cs.setIfInBounds (23 + k) (.int .i64 v)) wd srt F (fup C k v) P most := by
  have hs := h.size
  refine ⟨by simp [hs], ?_, fun j hj => ?_, fun j hj => ?_, fun j hj => ?_, ?_, ?_⟩
  · rw [Array.getElem?_setIfInBounds_ne (by omega)]; exact h.words
  · rw [Array.getElem?_setIfInBounds_ne (by omega)]; exact h.first j hj
  · by_cases hjk : j = k
    · subst hjk
      rw [Array.getElem?_setIfInBounds_self_of_lt (by omega), fup_same]
    · rw [Array.getElem?_setIfInBounds_ne (by omega), fup_ne _ _ hjk]; exact h.count j hj
  · rw [Array.getElem?_setIfInBounds_ne (by omega)]; exact h.place j hj
  · rw [Array.getElem?_setIfInBounds_ne (by omega)]; exact h.srt
  · rw [Array.getElem?_setIfInBounds_ne (by omega)]; exact h.most
theorem setP (h : CodeCs cs wd srt F C P most) (k : Nat) (hk : k < 22) (v : Nat) : CodeCs (cs.setIfInBounds (45 + k) (.int .i64 v)) wd srt F C (fup P k v) most := by
  have hs := h.size
  refine ⟨by simp [hs], ?_, fun j hj => ?_, fun j hj => ?_, fun j hj => ?_, ?_, ?_⟩
  · rw [Array.getElem?_setIfInBounds_ne (by omega)]; exact h.words
  · rw [Array.getElem?_setIfInBounds_ne (by omega)]; exact h.first j hj
  · rw [Array.getElem?_setIfInBounds_ne (by omega)]; exact h.count j hj
  · by_cases hjk : j = k
    · subst hjk
      rw [Array.getElem?_setIfInBounds_self_of_lt (by omega), fup_same]
    · rw [Array.getElem?_setIfInBounds_ne (by omega), fup_ne _ _ hjk]; exact h.place j hj
  · rw [Array.getElem?_setIfInBounds_ne (by omega)]; exact h.srt
  · rw [Array.getElem?_setIfInBounds_ne (by omega)]; exact h.most
theorem setS (h : CodeCs cs wd srt F C P most) (v : Value) : CodeCs (cs.setIfInBounds 67 v) wd v F C P most := by
  have hs := h.size
  refine ⟨by simp [hs], ?_, fun j hj => ?_, fun j hj => ?_, fun j hj => ?_, ?_, ?_⟩
  · rw [Array.getElem?_setIfInBounds_ne (by omega)]; exact h.words
  · rw [Array.getElem?_setIfInBounds_ne (by omega)]; exact h.first j hj
  · rw [Array.getElem?_setIfInBounds_ne (by omega)]; exact h.count j hj
  · rw [Array.getElem?_setIfInBounds_ne (by omega)]; exact h.place j hj
  · rw [Array.getElem?_setIfInBounds_self_of_lt (by omega)]
  · rw [Array.getElem?_setIfInBounds_ne (by omega)]; exact h.most
end CodeCs
/-- The cells of a code as it is laid. -/
def codeZ (wd : Value) (most : Nat) : Array Value := ((List.append (wd :: List.replicate 22 (.int .u32 0)) (List.append (List.replicate 44 (.int .i64 0)) [.slice none 0 0, .int .i64 most])) : List Value).toArray
theorem codeZ_cs (wd : Value) (most : Nat) : CodeCs (codeZ wd most) wd (.slice none 0 0) (fun _ => 0) (fun _ => 0) (fun _ => 0) most := by
  refine ⟨rfl, rfl, fun k hk => ?_, fun k hk => ?_, fun k hk => ?_, rfl, rfl⟩
  · rcases (show k = 0 ∨ k = 1 ∨ k = 2 ∨ k = 3 ∨ k = 4 ∨ k = 5 ∨ k = 6 ∨ k = 7 ∨ k = 8 ∨ k = 9 ∨ k = 10 ∨ k = 11 ∨ k = 12 ∨ k = 13 ∨ k = 14 ∨ k = 15 ∨ k = 16 ∨ k = 17 ∨ k = 18 ∨ k = 19 ∨ k = 20 ∨ k = 21 by omega) with rfl | rfl | rfl | rfl | rfl | rfl | rfl | rfl | rfl | rfl | rfl | rfl | rfl | rfl | rfl | rfl | rfl | rfl | rfl | rfl | rfl | rfl <;> rfl
  · rcases (show k = 0 ∨ k = 1 ∨ k = 2 ∨ k = 3 ∨ k = 4 ∨ k = 5 ∨ k = 6 ∨ k = 7 ∨ k = 8 ∨ k = 9 ∨ k = 10 ∨ k = 11 ∨ k = 12 ∨ k = 13 ∨ k = 14 ∨ k = 15 ∨ k = 16 ∨ k = 17 ∨ k = 18 ∨ k = 19 ∨ k = 20 ∨ k = 21 by omega) with rfl | rfl | rfl | rfl | rfl | rfl | rfl | rfl | rfl | rfl | rfl | rfl | rfl | rfl | rfl | rfl | rfl | rfl | rfl | rfl | rfl | rfl <;> rfl
  · rcases (show k = 0 ∨ k = 1 ∨ k = 2 ∨ k = 3 ∨ k = 4 ∨ k = 5 ∨ k = 6 ∨ k = 7 ∨ k = 8 ∨ k = 9 ∨ k = 10 ∨ k = 11 ∨ k = 12 ∨ k = 13 ∨ k = 14 ∨ k = 15 ∨ k = 16 ∨ k = 17 ∨ k = 18 ∨ k = 19 ∨ k = 20 ∨ k = 21 by omega) with rfl | rfl | rfl | rfl | rfl | rfl | rfl | rfl | rfl | rfl | rfl | rfl | rfl | rfl | rfl | rfl | rfl | rfl | rfl | rfl | rfl | rfl <;> rfl
/-- A code at block g. -/
def CodeAt (w : World) (g : Nat) (wd srt : Value) (F C P : Nat → Nat) (most : Nat) : Prop := ∃ cs, w.heap[g]? = some (.cells cs 54 (0, 0)) ∧ CodeCs cs wd srt F C P most
namespace CodeAt
variable {w w' : World} {g : Nat} {wd srt : Value} {F C P : Nat → Nat} {most : Nat}
theorem keep {S : Nat → Prop} (h : CodeAt w g wd srt F C P most) (k : Keeps S w w') (hg : ¬ S g) : CodeAt w' g wd srt F C P most := by
  obtain ⟨cs, h1, h2⟩ := h
  exact ⟨cs, block_keep h1 k hg, h2⟩
theorem lt (h : CodeAt w g wd srt F C P most) : g < w.heap.size := by
  obtain ⟨cs, h1, _⟩ := h
  exact blk_lt h1
theorem words (h : CodeAt w g wd srt F C P most) : w.cell? ⟨g, 0, none⟩ = some wd := by
  obtain ⟨cs, h1, h2⟩ := h
  rw [blk_cell h1]; exact h2.words
theorem first (h : CodeAt w g wd srt F C P most) (k : Nat) (hk : k < 22) : w.cell? ⟨g, 1 + k, none⟩ = some (.int .u32 (F k : Nat)) := by
  obtain ⟨cs, h1, h2⟩ := h
  rw [blk_cell h1]; exact h2.first k hk
theorem count (h : CodeAt w g wd srt F C P most) (k : Nat) (hk : k < 22) : w.cell? ⟨g, 23 + k, none⟩ = some (.int .i64 (C k : Nat)) := by
  obtain ⟨cs, h1, h2⟩ := h
  rw [blk_cell h1]; exact h2.count k hk
theorem place (h : CodeAt w g wd srt F C P most) (k : Nat) (hk : k < 22) : w.cell? ⟨g, 45 + k, none⟩ = some (.int .i64 (P k : Nat)) := by
  obtain ⟨cs, h1, h2⟩ := h
  rw [blk_cell h1]; exact h2.place k hk
theorem sorted (h : CodeAt w g wd srt F C P most) : w.cell? ⟨g, 67, none⟩ = some srt := by
  obtain ⟨cs, h1, h2⟩ := h
  rw [blk_cell h1]; exact h2.srt
theorem mostc (h : CodeAt w g wd srt F C P most) : w.cell? ⟨g, 68, none⟩ = some (.int .i64 most) := by
  obtain ⟨cs, h1, h2⟩ := h
  rw [blk_cell h1]; exact h2.most
theorem frozen (h : CodeAt w g wd srt F C P most) (i : Nat) : w.frozen? ⟨g, i, none⟩ = false := by
  obtain ⟨cs, h1, h2⟩ := h
  exact blk_frozen h1 i
theorem setF (h : CodeAt w g wd srt F C P most) (k : Nat) (hk : k < 22) (v : Nat) : CodeAt (w.setCell ⟨g, 1 + k, none⟩ (.int .u32 v)) g wd srt (fup F k v) C P most := by
  obtain ⟨cs, h1, h2⟩ := h
  exact ⟨_, blk_set h1 _ _, h2.setF k hk v⟩
theorem setC (h : CodeAt w g wd srt F C P most) (k : Nat) (hk : k < 22) (v : Nat) : CodeAt (w.setCell ⟨g, 23 + k, none⟩ (.int .i64 v)) g wd srt F (fup C k v) P most := by
  obtain ⟨cs, h1, h2⟩ := h
  exact ⟨_, blk_set h1 _ _, h2.setC k hk v⟩
theorem setP (h : CodeAt w g wd srt F C P most) (k : Nat) (hk : k < 22) (v : Nat) : CodeAt (w.setCell ⟨g, 45 + k, none⟩ (.int .i64 v)) g wd srt F C (fup P k v) most := by
  obtain ⟨cs, h1, h2⟩ := h
  exact ⟨_, blk_set h1 _ _, h2.setP k hk v⟩
theorem setS (h : CodeAt w g wd srt F C P most) (v : Value) : CodeAt (w.setCell ⟨g, 67, none⟩ v) g wd v F C P most := by
  obtain ⟨cs, h1, h2⟩ := h
  exact ⟨_, blk_set h1 _ _, h2.setS v⟩
end CodeAt
theorem keep1 (w : World) (g i : Nat) (v : Value) : Keeps (fun k => k = g) w (w.setCell ⟨g, i, none⟩ v) := (Keeps.refl (fun k => k = g) w).setCell (p := ⟨g, i, none⟩) (fun _ => rfl) v
/-- A code under way. -/
structure PN (w wr : World) (gm g gw B M m : Nat) (srt : Value) (F C P : Nat → Nat) (st : Cn) : Prop where
  code : CodeAt wr g (.slice (some ⟨gw, 0, none⟩) m m) srt F C P M
  wds : WordsAt wr gw 73 st.ws
  row : wr.ownsRow B 3 1 srt st.srt.length (st.srt.map fun s => .int .i64 (s : Nat))
  mst : wr.cell? ⟨gm, 0, none⟩ = some (.int .i64 M)
  grow : Grow w wr
  hgm : w.heap.size ≤ gm
  hmw : gm < gw
  hwg : gw < g
  hgB : g < B
  hB : B ≤ wr.heap.size
namespace PN
variable {w wr w' : World} {gm g gw B M m : Nat} {srt srt' : Value} {F C P F' C' P' : Nat → Nat} {st st' : Cn}
theorem grown (h : PN w wr gm g gw B M m srt F C P st) (k : Grow wr w') : PN w w' gm g gw B M m srt F C P st :=
  ⟨h.code.keep k (fun h => h), h.wds.keep k (fun h => h), owns_keep h.row k (fun _ _ h => h), ckp h.mst k (fun h => h), Grow.trans _ _ _ h.grow k, h.hgm, h.hmw, h.hwg, h.hgB, Nat.le_trans h.hB k.size⟩
theorem codeSet (h : PN w wr gm g gw B M m srt F C P st) (k : Keeps (fun k => k = g) wr w') (hc : CodeAt w' g (.slice (some ⟨gw, 0, none⟩) m m) srt F' C' P' M) : PN w w' gm g gw B M m srt F' C' P' st := by
  have h1 := h.hmw
  have h2 := h.hwg
  have h3 := h.hgB
  have h4 := h.hgm
  exact ⟨hc, h.wds.keep k (by omega), owns_keep h.row k (fun b hb h9 => by have := own_ge h.row b hb; omega), ckp h.mst k (by simp only; omega), Keeps.trans h.grow k (fun i hi h9 => by omega), h4, h1, h2, h3, Nat.le_trans h.hB k.size⟩
theorem wdsSet (h : PN w wr gm g gw B M m srt F C P st) (k : Keeps (fun k => k = gw) wr w') (nx : Nat) (ws : List (Nat × Nat)) (hc : WordsAt w' gw 73 ws) : PN w w' gm g gw B M m srt F C P ⟨nx, ws, st.srt⟩ := by
  have h1 := h.hmw
  have h2 := h.hwg
  have h3 := h.hgB
  have h4 := h.hgm
  exact ⟨h.code.keep k (by omega), hc, owns_keep h.row k (fun b hb h9 => by have := own_ge h.row b hb; omega), ckp h.mst k (by simp only; omega), Keeps.trans h.grow k (fun i hi h9 => by omega), h4, h1, h2, h3, Nat.le_trans h.hB k.size⟩
theorem next (h : PN w wr gm g gw B M m srt F C P st) (nx : Nat) : PN w wr gm g gw B M m srt F C P { st with next := nx } :=
  ⟨h.code, h.wds, h.row, h.mst, h.grow, h.hgm, h.hmw, h.hwg, h.hgB, h.hB⟩
/-- A symbol more. -/
theorem srtSet (h : PN w wr gm g gw B M m srt F C P st) {w1 : World} (k : Keeps (fun k => srt.ownBlock = some k) wr w1) (s : List Nat) (hr : w1.ownsRow B 3 1 srt' s.length (s.map fun s => .int .i64 (s : Nat))) : PN w (w1.setCell ⟨g, 67, none⟩ srt') gm g gw B M m srt' F C P { st with srt := s } := by
  have h1 := h.hmw
  have h2 := h.hwg
  have h3 := h.hgB
  have h4 := h.hgm
  have hg : ∀ b, b < B → ¬ (srt.ownBlock = some b) := fun b hb h9 => by have := own_ge h.row b h9; omega
  have hc1 := h.code.keep k (hg g h3)
  have k2 : Keeps (fun k => k = g) w1 (w1.setCell ⟨g, 67, none⟩ srt') := keep1 w1 g 67 srt'
  refine ⟨hc1.setS srt', (h.wds.keep k (hg gw (by omega))).keep k2 (by omega), owns_keep hr k2 (fun b hb h9 => by have := own_ge hr b hb; omega), ckp (ckp h.mst k (hg gm (by omega))) k2 (by simp only; omega), ?_, h4, h1, h2, h3, Nat.le_trans h.hB (Nat.le_trans k.size k2.size)⟩
  refine Keeps.trans (Keeps.trans h.grow k fun i hi h9 => hg i (by omega) h9) k2 fun i hi h9 => by omega
end PN
theorem cell_other {w : World} {g i j : Nat} {wd srt : Value} {F C P : Nat → Nat} {M : Nat} (h : CodeAt w g wd srt F C P M) (v : Value) (hij : i ≠ j) : (w.setCell ⟨g, i, none⟩ v).cell? ⟨g, j, none⟩ = w.cell? ⟨g, j, none⟩ := by
  obtain ⟨cs, h1, _⟩ := h
  rw [blk_cell h1, blk_cell (blk_set h1 i v), Array.getElem?_setIfInBounds_ne hij]
end Go.Proofs.Ytofalbbbnhnadaa
