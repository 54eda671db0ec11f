/- xz.ReadIndex, walked. -/
import Derived.Test.YtoeapobpdfidkaaXzG
namespace Go.Proofs.Ytoeapobpdfidkaa
open Go.RowKit
set_option linter.unusedVariables false
set_option linter.unusedSimpArgs false

theorem finP_err (xs : List Int) (n : Nat) (r : Nat × List (Int × Int) × Nat) (h : (finP xs n r).1 ≠ 0) : (finP xs n r).2 = ([], 0) := by
  unfold finP at h ⊢
  split
  · rfl
  split
  · rfl
  split
  · rfl
  split
  · rfl
  · rename_i h1 h2 h3 h4
    rw [if_neg h1, if_neg h2, if_neg h3, if_neg h4] at h
    exact absurd rfl h
theorem readP_err (xs : List Int) (n : Nat) (h : (readP xs n).1 ≠ 0) : (readP xs n).2 = ([], 0) := by
  unfold readP at h ⊢
  split
  · rfl
  · rename_i h1
    rw [if_neg h1] at h
    exact finP_err xs n _ h
def RdPost (w : World) (R : Nat × List (Int × Int) × Nat) (x : Ending) (w' : World) : Prop :=
  ∃ (A' : Option Addr) (c' : Nat), x = .returned (.tuple #[.slice A' R.2.1.length c', .int .i64 (R.2.2 : Nat), .int .i64 (R.1 : Nat)]) ∧ Recs w' A' R.2.1.length c' R.2.1 ∧ (∀ b, A' = some b → w.heap.size ≤ b.block) ∧ Grow w w'
theorem recs_nil (w : World) : Recs w none 0 0 [] := ⟨rfl, fun r hr => by simp at hr, Nat.le_refl _, fun _ => rfl, fun h => absurd h (by decide)⟩
set_option maxRecDepth 8000 in
set_option maxHeartbeats 2000000 in
theorem xread_is (w : World) (n c : Nat) (A : Option Addr) (xs : List Int) (h : Nums .u8 w A n c xs) (hA : ∀ a, A = some a → a.block < w.heap.size) (hn : n ≤ 140737488355328) :
    Calls Try.prog 40 #[.slice A n c] w fun x w' => RdPost w (readP xs n) x w' := by
  have HE := Lib.hid (readP_err xs n)
  have HCI := Lib.hid (fun w g h => cindex_is w g n c A xs h)
  obtain ⟨R, hR⟩ : ∃ R, R = readP xs n := ⟨_, rfl⟩
  obtain ⟨POST, hPOST⟩ : ∃ POST : Ending → World → Prop, POST = fun x w' => RdPost w R x w' := ⟨_, rfl⟩
  have HPO := Lib.hid hPOST
  rw [← hR] at HE HCI ⊢
  show Calls _ _ _ _ fun x w' => (fun x w' => RdPost w R x w') x w'
  rw [← hPOST]
  have H := Lib.hid h
  have HN := Lib.hid (And.intro hA hn)
  clear h hR hPOST hA hn
  go_enter Try.func40, Try.ntmps40
  go_wp2_with fail
  have hg1 : Grow w (w.alloc (.cells #[.slice A n c, .int .i64 0, .int .i64 0] 113)) := (Keeps.refl _ w).alloc _
  have hc1 : CAt (w.alloc (.cells #[.slice A n c, .int .i64 0, .int .i64 0] 113)) w.heap.size A n c xs 0 0 :=
    ⟨heap_alloc_new w _, H.out.grow hg1, HN.out.1, Nat.zero_le _, HN.out.2, by decide⟩
  have HC1 := Lib.hid hc1
  have HG1 := Lib.hid hg1
  clear hc1 hg1
  generalize w.alloc (.cells #[.slice A n c, .int .i64 0, .int .i64 0] 113) = w1 at *
  obtain ⟨g, hg⟩ : ∃ g, g = w.heap.size := ⟨_, rfl⟩
  rw [← hg] at HC1 ⊢
  have HGE := Lib.hid hg
  clear hg
  refine (HCI.out w1 g HC1.out).mono ?_
  rintro x w2 ⟨A', m', c', at3, bad3, rfl, hc2, hbad, hrow, hk2⟩
  have HC2 := Lib.hid hc2
  have HR2 := Lib.hid (And.intro hbad hrow)
  have HSZ : Hid (w.heap.size ≤ w1.heap.size) := HG1.out.size
  have HG2 : Hid (Grow w w2) := Keeps.trans HG1.out hk2 fun i hi h9 => by have h9 : i = g := h9; have := HGE.out; omega
  have d1 := blk_cell hc2.blk 1
  have d2 := blk_cell hc2.blk 2
  simp at d1 d2
  have hb3i : (bad3 : Int) ≤ 20 := by have := hc2.bads; omega
  have hat : (at3 : Int) ≤ 140737488355328 := by have := hc2.small; have := hc2.le; omega
  clear hc2 hbad hrow hk2 HCI HC1 HG1
  by_cases hb3 : bad3 = 0
  · subst hb3
    have q1 : ((0 : Nat) : Int) = 0 := rfl
    go_wp2_with fail
    go_quiet (fail)
    go_wp2_with fail
    try go_ret3
    show POST (.returned (.tuple #[.slice A' m' c', .int .i64 (at3 : Nat), .int .i64 (0 : Nat)])) _
    rw [HPO.out]
    obtain ⟨h1, h2⟩ := HR2.out
    obtain ⟨h3, h4, h5, h6⟩ := h2 (by trivial)
    rw [h3, h5]
    exact ⟨A', c', by rw [← h1], h4.grow ((Keeps.refl _ _).drewN _), fun b hb => Nat.le_trans HSZ.out (h6 b hb), HG2.out.drewN _⟩
  · have q1 : ((bad3 : Int) != 0) = true := by simp; omega
    have q2 : ((bad3 : Int) == 0) = false := by simp; omega
    have HB3 := Lib.hid hb3
    clear hb3
    go_wp2_with fail
    go_quiet (fail)
    go_wp2_with fail
    try go_ret3
    show POST (.returned (.tuple #[.slice none 0 0, .int .i64 (0 : Nat), .int .i64 (bad3 : Nat)])) _
    rw [HPO.out]
    obtain ⟨h1, h2⟩ := HR2.out
    have h3 := HE.out (by rw [← h1]; exact HB3.out)
    refine ⟨none, 0, by rw [h3, h1]; rfl, by rw [h3]; exact recs_nil _, fun b hb => (by cases hb), HG2.out.drewN _⟩
end Go.Proofs.Ytoeapobpdfidkaa
