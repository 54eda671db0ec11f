/- The law SumsJoin: the walk. -/
import Derived.Test.YtcackdcjepifpaaJoinL
namespace Go.Proofs.Ytcackdcjepifpaa
open Go.RowKit
set_option linter.unusedVariables false
theorem wf_u32 {x : Int} (h : (Lit.int .u32 x).wf = true) : ∃ n : Nat, x = n ∧ n < 4294967296 := by
  simp [Lit.wf] at h
  have h1 : IntKind.u32.min = 0 := rfl
  have h2 : IntKind.u32.max = 4294967295 := rfl
  obtain ⟨n, rfl⟩ := Int.eq_ofNat_of_zero_le (show 0 ≤ x by omega)
  exact ⟨n, rfl, by omega⟩
theorem wf_i64 {x : Int} (h : (Lit.int .i64 x).wf = true) : -9223372036854775808 ≤ x ∧ x ≤ 9223372036854775807 := by
  simp [Lit.wf] at h
  have h1 : IntKind.i64.min = -9223372036854775808 := rfl
  have h2 : IntKind.i64.max = 9223372036854775807 := rfl
  omega
set_option maxHeartbeats 1000000 in
theorem walkSumsJoin (W : World) (x0 : Int) (_h0 : (Lit.int .u32 x0).wf = true) (x1 : Int) (_h1 : (Lit.int .u32 x1).wf = true) (x2 : Int) (_h2 : (Lit.int .i64 x2).wf = true) :
    Calls Try.prog 3 #[.int .u32 x0, .int .u32 x1, .int .i64 x2] W fun e w' => e = .returned (.bool true) ∧ Below W.heap.size W w' := by
  obtain ⟨a, rfl, ha⟩ := wf_u32 _h0
  obtain ⟨b, rfl, hb⟩ := wf_u32 _h1
  have hn := wf_i64 _h2
  clear _h0 _h1 _h2
  have H1 := Lib.hid (fun w => join_is w a b x2 ha hb hn.2)
  have H2 := Lib.hid (fun w => refJoin_is w a b x2 ha hb hn.2)
  clear ha hb
  go_enter Try.func3, Try.ntmps3
  go_wp2_with fail
  refine (H1.out W).mono ?_
  rintro e w1 ⟨rfl, rfl⟩
  by_cases hneg : x2 < 0
  · rw [if_pos hneg]
    go_wp2_with fail
    refine (H2.out _).mono ?_
    rintro e w2 ⟨rfl, k2⟩
    (try rw [if_pos hneg])
    go_wp2_with fail
    go_ret
    exact ⟨rfl, k2.below (fun _ _ h => h) (Nat.le_refl _)⟩
  · rw [if_neg hneg]
    go_wp2_with fail
    refine (H2.out _).mono ?_
    rintro e w2 ⟨rfl, k2⟩
    (try rw [if_neg (show ¬ x2 < 0 by omega)])
    generalize Zn (8 * x2.toNat) a ^^^ b = y
    go_wp2_with fail
    go_ret
    exact ⟨rfl, k2.below (fun _ _ h => h) (Nat.le_refl _)⟩
end Go.Proofs.Ytcackdcjepifpaa
