/- The row of the law RunsFronts, for inputs of bulk at most 1048576, out of its walk. The walk's text says what is proved. -/
import Derived.Test.YteccmnjcmmbhlaaRows
import Derived.Test.YteccmnjcmmbhlaaRd
import Derived.Test.YteccmnjcmmbhlaaFrW
import Derived.WalkKit
import Derived.ProofKit
import Derived.OpenShut
import Derived.ChangeOld
import Derived.SizedLaws
import Derived.JoinedCond
import Derived.Deep.CondSized
namespace Go.Proofs.Yteccmnjcmmbhlaa.rowRunsFrontsUpto
open Go.ChangeShapes Go.WideShapes Go.ChangeAt Go.RowKit
set_option linter.unusedVariables false
theorem own : ownKnob Try.prog.godebug = none := by kernel_rfl
theorem laidOut : laidOutB Try.prog = true := by kernel_rfl
theorem fit0 : Sh.fit Try.prog (.sl 1 (.int .u8)) (.inl 22) = true := by kernel_rfl
theorem fit1 : Sh.fit Try.prog (.sl 1 (.int .u8)) (.inl 22) = true := by kernel_rfl
theorem fit2 : Sh.fit Try.prog (.sl 8 (.int .i64)) (.inl 28) = true := by kernel_rfl
set_option maxRecDepth 100000 in
theorem lifted (os : Os) (started : os.Started) (H : Type) (enc : TypeId × Value → H) (F : Stop.Interp) :
    ReturnsInHanded {} Try.checked os 7 .any ((Rows.OpenSpec.upto Rows.runsFrontsSpec).pre6 enc Try.prog Try.f7 Rows.runsFrontsUptoRow.domain false) (((Rows.OpenSpec.upto Rows.runsFrontsSpec).at F).post enc Try.prog Try.f7 false true false false) := by
  refine returnsInHanded_of_cond_sized (C := Try.checked) (s := Rows.OpenSpec.upto Rows.runsFrontsSpec) (k := Rows.uptoSmall) rfl own started (by kernel_rfl) Try.func7
    (OpenSpec.witness (enc := enc) (C := Try.checked) (s := Rows.OpenSpec.upto Rows.runsFrontsSpec) (k := Rows.uptoSmall) rfl false ⟨#[], #[.slice none 0 0, .slice none 0 0, .slice none 0 0], []⟩ 8 (by kernel_rfl) (by kernel_rfl) (by kernel_rfl)
      (x := ([.nil, .nil, .nil], [], [])) (by kernel_rfl) rfl (by kernel_rfl)) ?_
  intro W base args ds gs before hval0 hW hcnd hk hsz0 _
  have hsz : (DataW.weightsEach Try.prog (Try.f7.params.toList ++ Rows.runsFrontsSpec.plain.varTypes Try.prog) (ds ++ gs)).all (· ≤ reachBytes) = true := hsz0
  have hval : ∀ (j : Nat) t v, Try.f7.params[j]? = some t → args[j]? = some v → Value.okWide Try.prog W .any base t v := hval0
  have hW' := hW
  obtain ⟨p, q, hA0, hV, rfl, hfz, hnd⟩ := hW
  have hA : DataW.TrodAll enc Try.prog W 0 (fun _ => true) true Try.f7.params.toList args.toList ds p := hA0
  rw [Try.params7] at hA hval hsz
  obtain ⟨v0, vs0, d0, ds0, p0, q0, hargs, rfl, rfl, h0, r0⟩ := trodAll_cons hA
  obtain ⟨v1, vs1, d1, ds1, p1, q1, rfl, rfl, rfl, h1, r1⟩ := trodAll_cons r0
  obtain ⟨v2, vs2, d2, ds2, p2, q2, rfl, rfl, rfl, h2, r2⟩ := trodAll_cons r1
  obtain ⟨rfl, rfl, rfl⟩ := trodAll_nil r2
  obtain rfl : args = #[v0, v1, v2] := by cases args; simp_all
  obtain ⟨rfl, rfl⟩ := trodVars_none hV
  obtain ⟨x0, e0, b0⟩ := Sh.arg _ fit0 hsz (j := 0) (t := 22) rfl rfl h0
  have lt0 : ∀ x ∈ p0, x.block < W.heap.size := by obtain ⟨m, hm⟩ := h0; exact DataW.trod_lt m _ _ _ hm
  obtain ⟨a0, c0, rfl, g0⟩ := arg_slice Try.underlying22 (hval 0 22 v0 rfl rfl) e0
  obtain ⟨x1, e1, b1⟩ := Sh.arg _ fit1 hsz (j := 1) (t := 22) rfl rfl h1
  have lt1 : ∀ x ∈ p1, x.block < W.heap.size := by obtain ⟨m, hm⟩ := h1; exact DataW.trod_lt m _ _ _ hm
  obtain ⟨a1, c1, rfl, g1⟩ := arg_slice Try.underlying22 (hval 1 22 v1 rfl rfl) e1
  obtain ⟨x2, e2, b2⟩ := Sh.arg _ fit2 hsz (j := 2) (t := 28) rfl rfl h2
  have lt2 : ∀ x ∈ p2, x.block < W.heap.size := by obtain ⟨m, hm⟩ := h2; exact DataW.trod_lt m _ _ _ hm
  obtain ⟨a2, c2, rfl, g2⟩ := arg_slice Try.underlying28 (hval 2 28 v2 rfl rfl) e2
  have hk2 : Sh.bulk (.sl 1 (.int .u8)) x0 + Sh.bulk (.sl 1 (.int .u8)) x1 + Sh.bulk (.sl 8 (.int .i64)) x2 ≤ 1048576 := by
    have h : Rows.uptoBulkAll [d0, d1, d2] ≤ 1048576 := of_decide_eq_true hk
    simp only [Rows.uptoBulkAll] at h
    omega
  clear hA0 hval0 hsz0 hsz
  refine (walkRunsFronts W a0 c0 x0 g0 a1 c1 x1 g1 a2 c2 x2 g2 hk2).mono fun e W' ⟨he, bel⟩ => ?_
  subst he
  exact ⟨_, rfl, _, _, _, [], _, [], hW', trodAll_mk1 (shut_bool Try.underlying4 _), (trodAll_cons_mk (Below.trod laidOut (by kernel_rfl) (of_decide_eq_true (by kernel_rfl)) h0 bel lt0) (trodAll_cons_mk (Below.trod laidOut (by kernel_rfl) (of_decide_eq_true (by kernel_rfl)) h1 bel lt1) (trodAll_cons_mk (Below.trod laidOut (by kernel_rfl) (of_decide_eq_true (by kernel_rfl)) h2 bel lt2) trodAll_mk0))), rfl, bel.frame _, fun h => by cases h⟩
theorem over : Rows.runsFrontsUptoRow.holds Try.pinned (Rows.OpenSpec.upto Rows.runsFrontsSpec) :=
  OpenClaim.holds_of_cond 7 Try.f7 rfl rfl rfl rfl rfl rfl rfl ⟨rfl, rfl, rfl, rfl, rfl⟩ rfl rfl rfl rfl rfl (by kernel_rfl) Try.func7 (by kernel_rfl)
    (of_decide_eq_true (by kernel_rfl)) (by unfold Func.isWrapper; first | (rw [if_pos (by decide +kernel)]; kernel_rfl) | (rw [if_neg (by decide +kernel)]; exact ⟨rfl, rfl⟩))
    (fun os started H enc _ F => lifted os started H enc F)
end Go.Proofs.Yteccmnjcmmbhlaa.rowRunsFrontsUpto
namespace Go.Proofs.Yteccmnjcmmbhlaa
theorem runsFrontsUpto_holds : Rows.RunsFrontsUptoSaid := rowRunsFrontsUpto.over
#print axioms runsFrontsUpto_holds
end Go.Proofs.Yteccmnjcmmbhlaa
