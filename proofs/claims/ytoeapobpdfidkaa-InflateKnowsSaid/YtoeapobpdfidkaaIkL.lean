/- The law InflateKnows: the walk. -/
import Derived.Test.YtoeapobpdfidkaaIk
namespace Go.Proofs.Ytoeapobpdfidkaa
open Go.RowKit
set_option linter.unusedVariables false
set_option linter.unusedSimpArgs false

set_option maxRecDepth 8000 in
set_option maxHeartbeats 4000000 in
theorem walkInflateKnows (W : World) (x0 : Int) (_h0 : (Lit.int .i64 x0).wf = true) :
    Calls Try.prog 6 #[.int .i64 x0] W fun e w' => e = .returned (.bool true) ∧ Below W.heap.size W w' := by
  have hx := inKind_wf _h0
  have H1 := Lib.hid (lengthOf_is W x0 hx)
  have H2 := Lib.hid (refLengthOf_is W x0 hx)
  have H3 := Lib.hid (distanceOf_is W x0 hx)
  have H4 := Lib.hid (refDistanceOf_is W x0 hx)
  generalize lenR x0 = L at *
  generalize dstR x0 = D at *
  obtain ⟨l1, l2, l3⟩ := L
  obtain ⟨d1, d2, d3⟩ := D
  clear _h0 hx
  go_enter Try.func6, Try.ntmps6
  go_wp2_with fail
  refine H1.out.mono ?_
  rintro e w1 ⟨rfl, rfl⟩
  simp only [trip]
  go_wp2_with fail
  refine H2.out.mono ?_
  rintro e w1 ⟨rfl, rfl⟩
  simp only [trip]
  go_wp2_with fail
  refine H3.out.mono ?_
  rintro e w1 ⟨rfl, rfl⟩
  simp only [trip]
  go_wp2_with fail
  refine H4.out.mono ?_
  rintro e w1 ⟨rfl, rfl⟩
  simp only [trip]
  clear H1 H2 H3 H4
  have K0 : Hid (Keeps (fun k => W.heap.size ≤ k) W W) := Keeps.refl _ _
  go_wp2_with fail
  refine (fixed_is _).mono ?_
  rintro e u0 ⟨A0, c0, rfl, ho0, hg0⟩
  have HO0 := Lib.hid ho0
  have HG0 := Lib.hid hg0
  clear ho0 hg0
  go_wp2_with fail
  refine (refFixed_is u0).mono ?_
  rintro e v0 ⟨B0, b0, rfl, hp0, hh0⟩
  have S0 := Lib.hid (same07_is v0 _ _ A0 B0 _ c0 b0 fixL (owns_keep HO0.out hh0 fun _ _ h => h) hp0 (fun b hb h => by have h1 := (HO0.out.lt b h).2; have h2 := own_ge hp0 b hb; omega))
  have J0 : Hid (Keeps (fun k => W.heap.size ≤ k) W v0) := Keeps.trans (Keeps.trans K0.out HG0.out fun _ _ h => h.elim) hh0 fun _ _ h => h.elim
  have E0 : Hid (∀ k, (Value.slice A0 288 c0).ownBlock = some k → W.heap.size ≤ k) := fun k hk => Nat.le_trans K0.out.size (own_ge HO0.out k hk)
  clear hp0 hh0 HO0 HG0 K0
  go_wp2_with fail
  refine S0.out.mono ?_
  rintro e z0 ⟨rfl, hs0⟩
  have K1 : Hid (Keeps (fun k => W.heap.size ≤ k) W z0) := Keeps.trans J0.out hs0 fun k hk h => E0.out k h
  clear hs0 J0 E0 S0
  go_wp2_with fail
  refine (fixed_is _).mono ?_
  rintro e u1 ⟨A1, c1, rfl, ho1, hg1⟩
  have HO1 := Lib.hid ho1
  have HG1 := Lib.hid hg1
  clear ho1 hg1
  go_wp2_with fail
  refine (refFixed_is u1).mono ?_
  rintro e v1 ⟨B1, b1, rfl, hp1, hh1⟩
  have S1 := Lib.hid (same07_is v1 _ _ A1 B1 _ c1 b1 fixL (owns_keep HO1.out hh1 fun _ _ h => h) hp1 (fun b hb h => by have h1 := (HO1.out.lt b h).2; have h2 := own_ge hp1 b hb; omega))
  have J1 : Hid (Keeps (fun k => W.heap.size ≤ k) W v1) := Keeps.trans (Keeps.trans K1.out HG1.out fun _ _ h => h.elim) hh1 fun _ _ h => h.elim
  have E1 : Hid (∀ k, (Value.slice A1 288 c1).ownBlock = some k → W.heap.size ≤ k) := fun k hk => Nat.le_trans K1.out.size (own_ge HO1.out k hk)
  clear hp1 hh1 HO1 HG1 K1
  go_wp2_with fail
  refine S1.out.mono ?_
  rintro e z1 ⟨rfl, hs1⟩
  have K2 : Hid (Keeps (fun k => W.heap.size ≤ k) W z1) := Keeps.trans J1.out hs1 fun k hk h => E1.out k h
  clear hs1 J1 E1 S1
  go_wp2_with fail
  refine (order_is _).mono ?_
  rintro e u2 ⟨A2, c2, rfl, ho2, hg2⟩
  have HO2 := Lib.hid ho2
  have HG2 := Lib.hid hg2
  clear ho2 hg2
  go_wp2_with fail
  refine (refOrder_is u2).mono ?_
  rintro e v2 ⟨B2, b2, rfl, hp2, hh2⟩
  have S2 := Lib.hid (same07_is v2 _ _ A2 B2 _ c2 b2 ordL (owns_keep HO2.out hh2 fun _ _ h => h) hp2 (fun b hb h => by have h1 := (HO2.out.lt b h).2; have h2 := own_ge hp2 b hb; omega))
  have J2 : Hid (Keeps (fun k => W.heap.size ≤ k) W v2) := Keeps.trans (Keeps.trans K2.out HG2.out fun _ _ h => h.elim) hh2 fun _ _ h => h.elim
  have E2 : Hid (∀ k, (Value.slice A2 19 c2).ownBlock = some k → W.heap.size ≤ k) := fun k hk => Nat.le_trans K2.out.size (own_ge HO2.out k hk)
  clear hp2 hh2 HO2 HG2 K2
  go_wp2_with fail
  refine S2.out.mono ?_
  rintro e z2 ⟨rfl, hs2⟩
  have K3 : Hid (Keeps (fun k => W.heap.size ≤ k) W z2) := Keeps.trans J2.out hs2 fun k hk h => E2.out k h
  clear hs2 J2 E2 S2
  go_wp2_with fail
  refine (order_is _).mono ?_
  rintro e u3 ⟨A3, c3, rfl, ho3, hg3⟩
  have HO3 := Lib.hid ho3
  have HG3 := Lib.hid hg3
  clear ho3 hg3
  go_wp2_with fail
  refine (refOrder_is u3).mono ?_
  rintro e v3 ⟨B3, b3, rfl, hp3, hh3⟩
  have S3 := Lib.hid (same07_is v3 _ _ A3 B3 _ c3 b3 ordL (owns_keep HO3.out hh3 fun _ _ h => h) hp3 (fun b hb h => by have h1 := (HO3.out.lt b h).2; have h2 := own_ge hp3 b hb; omega))
  have J3 : Hid (Keeps (fun k => W.heap.size ≤ k) W v3) := Keeps.trans (Keeps.trans K3.out HG3.out fun _ _ h => h.elim) hh3 fun _ _ h => h.elim
  have E3 : Hid (∀ k, (Value.slice A3 19 c3).ownBlock = some k → W.heap.size ≤ k) := fun k hk => Nat.le_trans K3.out.size (own_ge HO3.out k hk)
  clear hp3 hh3 HO3 HG3 K3
  go_wp2_with fail
  refine S3.out.mono ?_
  rintro e z3 ⟨rfl, hs3⟩
  have K4 : Hid (Keeps (fun k => W.heap.size ≤ k) W z3) := Keeps.trans J3.out hs3 fun k hk h => E3.out k h
  clear hs3 J3 E3 S3
  go_wp2_with fail
  go_ret
  exact ⟨rfl, Keeps.below K4.out (fun k hk h => absurd hk (by omega)) (Nat.le_refl _)⟩
end Go.Proofs.Ytoeapobpdfidkaa
