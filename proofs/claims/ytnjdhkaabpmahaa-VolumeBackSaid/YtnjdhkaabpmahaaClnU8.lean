/- slices.Clone[[]byte,byte]. -/
import Derived.Test.YtnjdhkaabpmahaaNums
import Derived.Lib.SliceRun
namespace Go.Proofs.Ytnjdhkaabpmahaa
open Go.RowKit
set_option linter.unusedVariables false
set_option linter.unusedSimpArgs false

theorem Try.info_clnU8 : (Try.prog.info? 5).map (fun i => (i.zero, i.size, i.bytes)) = some (some (.int .u8 0), 1, 1) := by kernel_rfl
theorem clnU8 (w : World) (A : Option Addr) (m c : Nat) (xs : List Value) (h : Src w 1 A m c xs) (hm : m * 1 ≤ 140737488355328) :
    Calls Try.prog 66 #[.slice A m c] w fun e w' => ∃ A' c', e = .returned (.slice A' m c') ∧ w'.ownsRow w.heap.size 5 1 (.slice A' m c') m xs ∧ Keeps (fun _ => False) w w' := by
  have hq := fun (w : World) (a : Option Addr) (n c : Nat) => Lib.run_eql_slice_nil (P := Try.prog) w 24 5 a n c 0 0 Try.underlying24
  cases A with
  | none =>
    obtain ⟨rfl, rfl⟩ := h.2.1 rfl
    have hx : xs = [] := List.eq_nil_of_length_eq_zero (by simpa using h.1)
    subst hx
    clear h
    go_enter Try.func66, Try.ntmps66
    go_wp2
    go_ret
    exact ⟨none, 0, rfl, ⟨rfl, .inl ⟨rfl, rfl⟩⟩, Keeps.refl _ _⟩
  | some ad =>
    have hlt : ∀ k, ((⟨w.heap.size, 0, none⟩ : Addr)).block = k → w.heap.size ≤ k := fun k hk => by subst hk; exact Nat.le_refl _
    have h2 : Src (w.alloc (.cells #[] 5)) 1 (some ad) m c xs := ⟨h.1, h.2.1, fun b hb j u hj => by
      have hc := h.2.2.1 b hb j u hj
      rw [← hc]
      exact World.cell?_of_block (Below.heap_alloc _ _ _ (World.block_lt_of_cell? w _ hc)), h.2.2.2⟩
    have H2 := Lib.hid h2
    have ho : (w.alloc (.cells #[] 5)).ownsRow 0 5 1 (.slice (some ⟨w.heap.size, 0, none⟩) 0 0) 0 [] := ⟨rfl, .inr ⟨w.heap.size, 0, #[], rfl, Nat.zero_le _, heap_alloc_new w _, Nat.le_refl _, Nat.zero_le _, rfl, rfl⟩⟩
    clear h h2 hlt
    go_enter Try.func66, Try.ntmps66
    go_wp2_with (at_builtin; refine wpList_app_any rfl (.tmp 5) (.tmp 6) 24 5 rfl Try.underlying24 Try.info_clnU8 rfl (by decide) _ _ _ rfl ho (some ad) m c xs rfl H2.out (by unfold maxLen; omega) (by omega) ?_)
    intro A' c' w' ho' hg' hm'
    (try simp only [Nat.zero_add, List.nil_append] at ho')
    (try simp only [Nat.zero_add] at hm')
    (try simp only [Nat.zero_add])
    have hfresh : ∀ k, (Value.slice A' m c').ownBlock = some k → w.heap.size ≤ k := fun k hk => by
      rcases hm' with e | ⟨j, e, hj⟩
      · rw [e] at hk
        simp [Value.ownBlock] at hk
        omega
      · rw [e] at hk
        injection hk with hk
        simp at hj
        omega
    have HF := Lib.hid (owns_base ho' hfresh)
    have HG := Lib.hid hg'
    clear ho' hg' hm' ho hfresh
    go_wp2
    go_ret
    exact ⟨A', c', rfl, HF.out, ((Keeps.refl _ w).alloc _).grown HG.out (fun k hk e => by simp [Value.ownBlock] at e; omega)⟩

end Go.Proofs.Ytnjdhkaabpmahaa
