/- "aaaaaa" written shorter. -/
import Derived.Test.YteccmnjcmmbhlaaRbP
import Derived.Test.YteccmnjcmmbhlaaPkW
import Derived.Test.YteccmnjcmmbhlaaSoN
namespace Go.Proofs.Yteccmnjcmmbhlaa
open Go.RowKit
set_option linter.unusedVariables false
set_option linter.unusedSimpArgs false

theorem lit_numsG {B e g : Nat} {cs : List Nat} {w : World} (h : Lit8 B e cs (.slice (some ⟨g, 0, none⟩) cs.length cs.length) w) (hb : ∀ x ∈ cs, x < 256) : Nums .u8 w (some ⟨g, 0, none⟩) cs.length cs.length (cs.map fun k : Nat => (k : Int)) :=
  ⟨by simp, fun x hx => by
    obtain ⟨k, hk, rfl⟩ := List.mem_map.1 hx
    have := hb k hk
    exact mk_u8 (by omega) (by omega), Nat.le_refl _, fun h => (by cases h), fun _ => ⟨g, 0, rfl, fun j hj => by
    have h9 := h.cellAt j hj
    rw [Nat.zero_add, h9]
    simp [List.getD_eq_getElem?_getD, hj]⟩⟩
theorem packL_a : packL [97, 97, 97, 97, 97, 97] = [97, 97, 97, 97, 2] := by
  rw [packL]
  simp [rl, packL]
def litA : List Nat := [97, 97, 97, 97, 97, 97]
theorem apack_is (w : World) :
    Calls Try.prog 26 #[.slice (some ⟨w.heap.size, 0, none⟩) 6 6] ((w.alloc (.cells #[.int .u8 97, .int .u8 97, .int .u8 97, .int .u8 97, .int .u8 97, .int .u8 97] 5)).freeze ⟨w.heap.size, 6, none⟩ 1) fun e w' => ∃ A' c' S, e = .returned (.slice A' 5 c') ∧ (convert 22 9 (.slice A' 5 c')).run Try.prog w' = .ok (.string S) w' ∧ (S.toList == [97, 97, 97, 97, 2]) = true ∧ Grow w w' := by
  have hlit : Lit8 w.heap.size 5 litA (.slice (some ⟨w.heap.size, 0, none⟩) 6 6) (w.alloc (.cells #[.int .u8 97, .int .u8 97, .int .u8 97, .int .u8 97, .int .u8 97, .int .u8 97] 5)) := Lit8.new w.heap.size _ litA w (Nat.le_refl _)
  have q4 : Mark w.heap.size (w.alloc (.cells #[.int .u8 97, .int .u8 97, .int .u8 97, .int .u8 97, .int .u8 97, .int .u8 97] 5)) ((w.alloc (.cells #[.int .u8 97, .int .u8 97, .int .u8 97, .int .u8 97, .int .u8 97, .int .u8 97] 5)).freeze ⟨w.heap.size, 6, none⟩ 1) := (Mark.refl _).freeze (p := ⟨w.heap.size, 6, none⟩) (Nat.le_refl _) 1
  have HNL : Nums .u8 _ _ 6 6 [97, 97, 97, 97, 97, 97] := lit_numsG (cs := litA) (hlit.mark q4) (by intro x hx; simp [litA] at hx; omega)
  have HGx : Grow w ((w.alloc (.cells #[.int .u8 97, .int .u8 97, .int .u8 97, .int .u8 97, .int .u8 97, .int .u8 97] 5)).freeze ⟨w.heap.size, 6, none⟩ 1) := grow_of_below (((Mark.refl w).alloc _).trans q4).below
  refine (pack_is _ _ 6 6 _ HNL (by decide)).mono ?_
  rintro e w' ⟨A', c', k, rfl, ho, hg⟩
  rw [packL_a] at ho
  have hk : k = 5 := by have := ho.1; simp at this; omega
  subst hk
  exact ⟨A', c', strOfNums [97, 97, 97, 97, 2], rfl, run_str_src (P := Try.prog) (w := w') (xs := [97, 97, 97, 97, 2]) Try.underlying22 Try.underlying5 Try.underlying9 (Nums.of_own ho (by intro x hx; simp at hx; rcases hx with rfl | rfl <;> exact mk_u8 (by decide) (by decide))).src, by rw [Lib.strOfNums_toList]; rfl, Grow.trans _ _ _ HGx hg⟩
end Go.Proofs.Yteccmnjcmmbhlaa
