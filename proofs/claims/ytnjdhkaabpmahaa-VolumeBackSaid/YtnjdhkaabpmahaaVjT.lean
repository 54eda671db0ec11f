/- volume, the document: Is, Lacks. -/
import Derived.Test.YtnjdhkaabpmahaaVjS
import Derived.Test.YtnjdhkaabpmahaaVjH
namespace Go.Proofs.Ytnjdhkaabpmahaa
open Go.RowKit
set_option linter.unusedVariables false
set_option linter.unusedSimpArgs false

set_option maxRecDepth 8000 in
theorem ris_is (w : World) (A : Option Addr) (n c : Nat) (xs : List Int) (hx : Nums .u8 w A n c xs) (hn : n ≤ 140737488355328) :
    Calls Try.prog 13 #[.slice A n c] w fun e w' => e = .returned (.bool (decide (xs.take 4 = magicN))) ∧ w = w' := by
  have hni : (n : Int) ≤ 140737488355328 := by omega
  by_cases h4 : 4 ≤ n
  · have hN4 := hx.take 4 h4
    have hsl4 : ∀ w : World, (Instr.slice 24 (.slice A n c) none (some (.int .i64 4)) none).run Try.prog w = .ok (.slice A 4 c) w := fun w =>
      run_pre (P := Try.prog) (t := 24) Try.underlying24 rfl A n c 4 (by have := hx.cap; omega) w
    have hc4 : (4 : Int) ≤ (c : Int) := by have := hx.cap; omega
    have hcv := run_str_src (P := Try.prog) (w := w) (xs := xs.take 4) Try.underlying24 Try.underlying5 Try.underlying9 hN4.src
    have hsi := str_inj (x := xs.take 4) (y := magicN) hN4.rng (fun x hx => by simp [magicN] at hx; rcases hx with rfl | rfl | rfl | rfl <;> exact ⟨by decide, by decide⟩)
    have hm4 : (strOfNums magicN).toList = [72, 86, 79, 76] := by rw [Lib.strOfNums_toList]; rfl
    rw [hm4] at hsi
    obtain ⟨r, hr⟩ : ∃ r, r = decide (xs.take 4 = magicN) := ⟨_, rfl⟩
    rw [← hr] at hsi ⊢
    generalize strOfNums (xs.take 4) = X at *
    have h4i : (4 : Int) ≤ (n : Int) := by omega
    have h4d : decide ((4 : Int) ≤ (n : Int)) = true := decide_eq_true (by omega)
    clear hm4 hN4 hx hr hn
    cases r
    all_goals
      go_enter Try.func13, Try.ntmps13
      go_wp2_with fail
      go_ret
      exact ⟨rfl, rfl⟩
  · have hr : decide (xs.take 4 = magicN) = false := decide_eq_false fun e => by
      have h9 := congrArg List.length e
      rw [List.length_take, hx.len] at h9
      have : magicN.length = 4 := rfl
      omega
    rw [hr]
    have h4d : decide ((4 : Int) ≤ (n : Int)) = false := decide_eq_false (by omega)
    have h4i : ¬ (4 : Int) ≤ (n : Int) := by omega
    clear hx hr hn
    go_enter Try.func13, Try.ntmps13
    go_wp2_with fail
    go_ret
    exact ⟨rfl, rfl⟩
theorem ordered_ex {l : List (List Int)} (G : Good l) : ∃ l', Ordered l l' := by
  refine ⟨l.mergeSort (fun a b => decide (numB a ≤ numB b)), up_of G (List.mergeSort_perm _ _) ?_⟩
  have h := List.pairwise_mergeSort (le := fun a b : List Int => decide (numB a ≤ numB b)) (fun a b c h1 h2 => by simp at *; omega) (fun a b => by simp; omega) l
  exact h.imp fun h => by simpa using h
def LacksPre (w : World) (l : List (List Int)) (e : Ending) (w' : World) : Prop :=
  Grow w w' ∧ ∃ (E C : Nat) (vo : Value) (At : Option Addr) (ct a b d s : Nat), e = .returned (.tuple #[vo, .slice At C ct, .agg #[.int .i64 (a : Nat), .int .i64 (b : Nat), .int .u64 (d : Nat), .int .u64 (s : Nat)], .int .i64 (E : Nat)]) ∧
    C ≤ 1024 ∧ (0 < C → ∃ gt, At = some ⟨gt, 0, none⟩ ∧ ∀ k, k < C → w'.cell? ⟨gt, k, none⟩ = some (.bool (hasN l k))) ∧ lacksP l = (E, (List.range C).filter fun k => !hasN l k)
theorem shares_pre {w : World} {n : Nat} {l : List (List Int)} {e : Ending} {w' : World} (h : SharesPost w n l e w') : LacksPre w l e w' := by
  obtain ⟨hg, hbad, hgood⟩ := h
  refine ⟨hg, ?_⟩
  by_cases hs : scanE l = 0
  · obtain ⟨go, gt, nu, G, he, _, ht, _⟩ := hgood hs
    have hCb : cntL l ≤ 1024 := (readE_zero ((good_of hs).each 0 (List.length_pos_iff.2 (good_of hs).ne)).1).2.2.2.1
    exact ⟨0, cntL l, _, _, _, _, _, _, _, he, hCb, fun _ => ⟨gt, rfl, fun k hk => (ht.cell hk).1⟩, lacksP_good hs⟩
  · exact ⟨scanE l, 0, _, _, _, 0, 0, 0, 0, hbad hs, Nat.zero_le _, fun h => absurd h (by decide), lacksP_bad hs⟩
set_option maxRecDepth 8000 in
set_option maxHeartbeats 2000000 in
theorem rlacks_is (w : World) (A : Option Addr) (n c : Nat) (l : List (List Int)) (h : RowsR w A n c l) :
    Calls Try.prog 10 #[.slice A n c] w fun e w' => LacksPost w l e w' := by
  obtain ⟨POST, hPOST⟩ : ∃ POST : Ending → World → Prop, POST = fun e w' => LacksPost w l e w' := ⟨_, rfl⟩
  have HPO := Lib.hid hPOST
  show Calls _ _ _ _ fun x w' => (fun x w' => LacksPost w l x w') x w'
  rw [← hPOST]
  have HP := Lib.hid ((shares_is w A n c l h).mono fun _ _ h => shares_pre h)
  clear h hPOST
  go_enter Try.func10, Try.ntmps10
  go_wp2_with fail
  refine HP.out.mono ?_
  rintro x w1 ⟨hg1, E, C, vo, At, ct, a, b, d, s, rfl, hC, hat, hl⟩
  have HL := Lib.hid hl
  have hg2 := hg1.alloc (.cells #[.int .i64 (a : Nat), .int .i64 (b : Nat), .int .u64 (d : Nat), .int .u64 (s : Nat)] 56)
  have hk2 := (Keeps.refl (fun _ => False) w1).alloc (.cells #[.int .i64 (a : Nat), .int .i64 (b : Nat), .int .u64 (d : Nat), .int .u64 (s : Nat)] 56)
  have HA := Lib.hid (fun (h : 0 < C) => (hat h).imp fun gt h => And.intro h.1 (fun k hk => ckp (h.2 k hk) hk2 (fun h => h)))
  have hCi : (C : Int) ≤ 1024 := by omega
  have HK := Lib.hid hg2
  clear hl hat hg1 hg2 hk2
  go_wp2_with fail
  generalize w1.alloc (.cells #[.int .i64 (a : Nat), .int .i64 (b : Nat), .int .u64 (d : Nat), .int .u64 (s : Nat)] 56) = w2 at *
  go_loopw [8, 9] (fun vo vi wr => ∃ (k m2 : Nat) (A2 : Option Addr) (c2 : Nat), k ≤ C ∧ vi = .int .i64 (k : Nat) ∧ m2 ≤ k ∧ m2 = ((List.range k).filter fun j => !hasN l j).length ∧ vo = .slice A2 m2 c2 ∧ Hid (wr.ownsRow w2.heap.size 3 1 (.slice A2 m2 c2) m2 (((List.range k).filter fun j => !hasN l j).map fun j => Value.int .i64 (j : Nat))) ∧ Hid (Grow w2 wr)) (fun _ vi _ => C - (intOf vi).toNat)
  case atStart => exact ⟨0, 0, none, 0, Nat.zero_le _, rfl, Nat.le_refl _, rfl, rfl, own_nil _ _ _, Keeps.refl _ _⟩
  case round =>
    obtain ⟨k, m2, A2, c2, hk, rfl, hm2k, hm2, rfl, HO, HG⟩ := hrel
    have HM2 := Lib.hid hm2
    clear hm2
    by_cases hkC : k < C
    · have hkC' : (k : Int) < (C : Int) := by omega
      obtain ⟨gt, rfl, hct⟩ := HA.out (by omega)
      have hcx := ckp (hct k hkC) HG.out (fun h => h)
      obtain ⟨hb, hhb⟩ : ∃ hb, hb = hasN l k := ⟨_, rfl⟩
      rw [← hhb] at hcx
      have hstep : ∀ b, b = hasN l k → ((List.range (k + 1)).filter fun j => !hasN l j) = ((List.range k).filter fun j => !hasN l j) ++ (if b then [] else [k]) := fun b hb => by
        rw [List.range_succ, List.filter_append]
        cases b <;> simp [← hb]
      have HST := Lib.hid hstep
      have HHB := Lib.hid hhb
      clear hstep hct hhb
      cases hb
      · have hsz : w2.heap.size ≤ wr.heap.size := HG.out.size
        have hm2i : (m2 : Int) ≤ 1024 := by omega
        go_wp2_with (at_builtin; refine wpList_app1 rfl (.tmp 28) (.tmp 30) 30 3 rfl Try.underlying30 Try.infoVI rfl w2.heap.size _ m2 _ rfl HO.out hsz rfl rfl (by unfold maxLen; omega) (by omega) ?_)
        intro g7 cap w4 ho4 hk4 _
        have HO4 : Hid (w4.ownsRow w2.heap.size 3 1 (.slice (some ⟨g7, 0, none⟩) (m2 + 1) cap) (m2 + 1) (((List.range (k + 1)).filter fun j => !hasN l j).map fun j => Value.int .i64 (j : Nat))) := by
          show World.ownsRow _ _ _ _ _ _ _
          rw [HST.out false HHB.out, List.map_append]
          exact ho4
        have HG4 := Lib.hid (grow_own HG.out HO.out (Nat.le_refl _) hk4)
        have HM4 : Hid (m2 + 1 = ((List.range (k + 1)).filter fun j => !hasN l j).length) := by
          show _ = _
          rw [HST.out false HHB.out, List.length_append, ← HM2.out]; rfl
        clear ho4 hk4 hcx
        go_wp2_with fail
        go_roundw
        case rel => exact ⟨k + 1, m2 + 1, some ⟨g7, 0, none⟩, cap, by omega, by go_num, by omega, HM4.out, rfl, HO4.out, HG4.out⟩
        case measure => simp [intOf]; omega
      · have HO4 : Hid (wr.ownsRow w2.heap.size 3 1 (.slice A2 m2 c2) m2 (((List.range (k + 1)).filter fun j => !hasN l j).map fun j => Value.int .i64 (j : Nat))) := by
          show World.ownsRow _ _ _ _ _ _ _
          rw [HST.out true HHB.out]
          simpa using HO.out
        have HM4 : Hid (m2 = ((List.range (k + 1)).filter fun j => !hasN l j).length) := by
          show _ = _
          rw [HST.out true HHB.out, List.length_append, ← HM2.out]; rfl
        go_wp2_with fail
        go_roundw
        case rel => exact ⟨k + 1, m2, A2, c2, by omega, by go_num, by omega, HM4.out, rfl, HO4.out, HG.out⟩
        case measure => simp [intOf]; omega
    · obtain rfl : k = C := by omega
      go_wp2_with fail
      show POST (.returned (.tuple #[.slice A2 m2 c2, .int .i64 (E : Nat)])) _
      rw [HPO.out]
      refine ⟨A2, m2, c2, by rw [HL.out], by rw [HL.out]; exact HM2.out, ?_, Grow.trans _ _ _ HK.out HG.out⟩
      rw [HL.out]
      exact owns_any_base HO.out HK.out.size
end Go.Proofs.Ytnjdhkaabpmahaa
