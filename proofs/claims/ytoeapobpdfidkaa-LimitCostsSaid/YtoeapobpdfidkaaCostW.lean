/- The law LimitCosts: the walk. -/
import Derived.Test.YtoeapobpdfidkaaCost
namespace Go.Proofs.Ytoeapobpdfidkaa
open Go.RowKit
set_option linter.unusedVariables false
set_option linter.unusedSimpArgs false

theorem Try.infoI64 : (Try.prog.info? 3).map (fun i => (i.zero, i.size, i.bytes)) = some (some (.int .i64 0), 1, 8) := by kernel_rfl
theorem names05_is (w : World) : Calls Try.prog 21 #[] w fun e w' => e = .returned (.bool true) ∧ w = w' := by
  go_enter Try.func21, Try.ntmps21
  go_wp2_with fail
  go_ret
  exact ⟨rfl, rfl⟩

set_option maxRecDepth 4000 in
set_option maxHeartbeats 1000000 in
theorem walkLimitCosts (W : World) (a0 : Option Addr) (c0 : Nat) (x0 : List (Int)) (_h0 : Sh.Rd W (.sl 8 (.int .i64)) [.slice a0 x0.length c0] x0) (a1 : Option Addr) (c1 : Nat) (x1 : List (Int)) (_h1 : Sh.Rd W (.sl 8 (.int .i64)) [.slice a1 x1.length c1] x1) :
    Calls Try.prog 5 #[.slice a0 x0.length c0, .slice a1 x1.length c1] W fun e w' => e = .returned (.bool true) ∧ Below W.heap.size W w' := by
  obtain ⟨h0, hc0⟩ := Nums.of_rd _h0
  obtain ⟨h1, hc1⟩ := Nums.of_rd _h1
  clear _h0 _h1
  have hn0 := h0.cap
  have hn1 := h1.cap
  generalize x0.length = n0 at *
  generalize x1.length = n1 at *
  have H0 := Lib.hid h0
  have H1 := Lib.hid h1
  have ho0 := own_none W 3
  have hs0 := (h0.grow ((Keeps.refl (fun _ => False) W).alloc (.cells #[] 3))).src
  have HS0 := Lib.hid hs0
  clear h0 h1 hs0
  go_enter Try.func5, Try.ntmps5
  go_wp2_with (at_builtin; refine wpList_app_any rfl (.tmp 10) (.tmp 11) 39 3 rfl Try.underlying39 Try.infoI64 rfl (by decide) _ _ _ rfl ho0 a0 n0 c0 _ rfl HS0.out (by unfold maxLen; omega) (by omega) ?_)
  intro A1' c1' w1 ho1 hg1 _
  (try simp only [Nat.zero_add, List.nil_append] at ho1)
  (try simp only [Nat.zero_add])
  have k1 : Grow W w1 := ((Keeps.refl (fun _ => False) W).alloc _).grown hg1 (fun k hk e => by simp [Value.ownBlock] at e; omega)
  have HN0 := Lib.hid (Nums.of_own ho1 H0.out.rng)
  have HS1 := Lib.hid (H1.out.grow (k1.alloc (.cells #[] 3))).src
  have HK1 := Lib.hid k1
  have ho2 := own_none w1 3
  clear hg1 ho1 ho0 k1
  go_wp2_with (at_builtin; refine wpList_app_any rfl (.tmp 13) (.tmp 14) 39 3 rfl Try.underlying39 Try.infoI64 rfl (by decide) _ _ _ rfl ho2 a1 n1 c1 _ rfl HS1.out (by unfold maxLen; omega) (by omega) ?_)
  intro A2' c2' w2 ho3 hg2 _
  (try simp only [Nat.zero_add, List.nil_append] at ho3)
  (try simp only [Nat.zero_add])
  have k2 : Grow w1 w2 := ((Keeps.refl (fun _ => False) w1).alloc _).grown hg2 (fun k hk e => by simp [Value.ownBlock] at e; omega)
  have HN1 := Lib.hid (Nums.of_own ho3 H1.out.rng)
  have HK2 := Lib.hid k2
  clear hg2 ho3 ho2 k2
  have HK := Lib.hid (Grow.trans _ _ _ HK1.out HK2.out)
  go_wp2_with fail
  refine (cost_is w2 A1' A2' n0 n1 c1' c2' x0 x1 (HN0.out.grow HK2.out) HN1.out (by omega) (by omega)).mono ?_
  rintro e w3 ⟨rfl, rfl⟩
  go_wp2_with fail
  refine (refCost_is w2 a0 a1 n0 n1 c0 c1 x0 x1 (H0.out.grow HK.out) (H1.out.grow HK.out) (by omega) (by omega)).mono ?_
  rintro e w4 ⟨rfl, k4⟩
  go_wp2_with fail
  refine (names05_is w4).mono ?_
  rintro e w5 ⟨rfl, rfl⟩
  go_wp2_with fail
  go_ret
  exact ⟨rfl, (Grow.trans _ _ _ HK.out k4).below (fun _ _ h => h) (Nat.le_refl _)⟩
end Go.Proofs.Ytoeapobpdfidkaa
