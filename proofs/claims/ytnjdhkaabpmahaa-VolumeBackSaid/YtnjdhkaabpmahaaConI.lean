/- slices.Concat, by slices.Grow of nil ([]int,int). -/
import Derived.Test.YtnjdhkaabpmahaaNums
import Derived.Test.YtnjdhkaabpmahaaZer
namespace Go.Proofs.Ytnjdhkaabpmahaa
open Go.RowKit
set_option linter.unusedVariables false
set_option linter.unusedSimpArgs false

theorem Try.info_ci : (Try.prog.info? 3).map (fun i => (i.zero, i.size, i.bytes)) = some (some (.int .i64 0), 1, 8) := by kernel_rfl
theorem own_none0_ci {w : World} {B n c : Nat} {A : Option Addr} {xs : List Value} (h : w.ownsRow B 3 1 (.slice A n c) n xs) : w.ownsRow B 3 1 (.slice A 0 c) 0 [] := by
  rcases h.2 with ⟨hv, h0⟩ | ⟨g, cap, cur, hv, hg, hh, hnc, hcm, hcs, _⟩
  · injection hv with h1 h2 h3
    subst h1 h3
    exact ⟨rfl, .inl ⟨rfl, rfl⟩⟩
  · injection hv with h1 h2 h3
    subst h1 h3
    exact ⟨rfl, .inr ⟨g, c, cur, rfl, hg, hh, Nat.zero_le _, hcm, hcs, by simp⟩⟩
theorem rowf_ci {w : World} {b e size n : Nat} {v : Value} {xs : List Value} (h : w.ownsRow b e size v n xs) : ∃ A c, v = .slice A n c := by
  rcases h.2 with ⟨rfl, rfl⟩ | ⟨g, cap, cur, rfl, _⟩
  · exact ⟨_, _, rfl⟩
  · exact ⟨_, _, rfl⟩

/-- What is joined: the rows. -/
abbrev Parts_ci := List (Option Addr × Nat × Nat × List Value)
def psum_ci (R : Parts_ci) : Nat := (R.map (·.2.1)).sum
def pjoin_ci (R : Parts_ci) : List Value := R.flatMap (·.2.2.2)
theorem psum_take_ci (R : Parts_ci) (i : Nat) (r : Option Addr × Nat × Nat × List Value) (h : R[i]? = some r) : psum_ci (R.take (i + 1)) = psum_ci (R.take i) + r.2.1 := by
  obtain ⟨hi, rfl⟩ := List.getElem?_eq_some_iff.1 h
  unfold psum_ci
  rw [List.take_succ_eq_append_getElem hi, List.map_append, List.sum_append]
  simp only [List.map_cons, List.map_nil, List.sum_cons, List.sum_nil, Nat.add_zero]
theorem pjoin_take_ci (R : Parts_ci) (i : Nat) (r : Option Addr × Nat × Nat × List Value) (h : R[i]? = some r) : pjoin_ci (R.take (i + 1)) = pjoin_ci (R.take i) ++ r.2.2.2 := by
  obtain ⟨hi, rfl⟩ := List.getElem?_eq_some_iff.1 h
  unfold pjoin_ci
  rw [List.take_succ_eq_append_getElem hi, List.flatMap_append]
  simp only [List.flatMap_cons, List.flatMap_nil, List.append_nil]
theorem psum_le_ci (R : Parts_ci) (i : Nat) : psum_ci (R.take i) ≤ psum_ci R := by
  unfold psum_ci
  conv => rhs; rw [← List.take_append_drop i R, List.map_append, List.sum_append]
  exact Nat.le_add_right _ _
theorem src_grow_ci {w w' : World} {A : Option Addr} {m c : Nat} {xs : List Value} (h : Src w 1 A m c xs) (q : Grow w w') : Src w' 1 A m c xs := by
  refine ⟨h.1, h.2.1, fun ad e j u hj => ?_, h.2.2.2⟩
  have hc := h.2.2.1 ad e j u hj
  rw [← hc]
  exact World.cell?_of_block (q.block _ (World.block_lt_of_cell? w _ hc) fun h => h)

end Go.Proofs.Ytnjdhkaabpmahaa
