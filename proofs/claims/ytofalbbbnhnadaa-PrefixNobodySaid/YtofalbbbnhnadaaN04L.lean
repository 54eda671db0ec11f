/- The law PrefixNobody: the walk. -/
import Derived.Test.YtofalbbbnhnadaaN04
import Derived.Test.YtofalbbbnhnadaaBack
import Derived.Deep.WholeRow
namespace Go.Proofs.Ytofalbbbnhnadaa
open Go.RowKit
set_option linter.unusedVariables false
set_option linter.unusedSimpArgs false

theorem cell_kp {w w' : World} {p : Addr} {u : Value} (h : w.cell? p = some u) (k : Grow w w') : w'.cell? p = some u := by
  rw [← h]
  exact World.cell?_of_block (k.block _ (World.block_lt_of_cell? w _ h) (fun h => h))

def codeZ : Array Value := #[.slice none 0 0] ++ Array.replicate 22 (.int .u32 0) ++ Array.replicate 44 (.int .i64 0) ++ #[.slice none 0 0, .int .i64 0]
theorem codeZ_0 : codeZ[0]? = some (.slice none 0 0) := rfl
theorem codeZ_size : codeZ.size = 69 := rfl
theorem info_code : (Try.prog.info? 54).map (fun i => (i.zero, i.size)) = some (some (.agg codeZ), 69) := by kernel_rfl
theorem src_two (w : World) : Src (w.alloc (.cells #[.int .u8 1, .int .u8 2] 5)) 1 (some ⟨w.heap.size, 0, none⟩) 2 2 (([1, 2] : List Int).map (Value.int .u8)) := by
  refine ⟨rfl, (fun h => nomatch h), fun ad e j u hj => ?_, fun u hu => by simp at hu; rcases hu with rfl | rfl <;> rfl⟩
  injection e with e
  subst e
  match j, hj with
  | 0, hj => simp at hj; subst hj; simp [Addr.add]
  | 1, hj => simp at hj; subst hj; simp [Addr.add]
set_option maxRecDepth 4000 in
set_option maxHeartbeats 4000000 in
theorem walkPrefixNobody (W : World) (x0 : Int) (_h0 : (Lit.int .i64 x0).wf = true) (a1 : Option Addr) (c1 : Nat) (x1 : List (Int)) (_h1 : Sh.Rd W (.sl 8 (.int .i64)) [.slice a1 x1.length c1] x1) :
    Calls Try.prog 4 #[.int .i64 x0, .slice a1 x1.length c1] W fun e w' => e = .returned (.bool true) ∧ Below W.heap.size W w' := by
  generalize x1.length = m
  clear _h0 _h1
  go_enter Try.func4, Try.ntmps4
  go_wp2_with fail
  refine (new_any _ true).mono ?_
  rintro e w1 ⟨rfl, hW, hk⟩
  have HW := Lib.hid hW
  have HK := Lib.hid hk
  clear hW hk
  go_wp2_with fail
  refine (newReader_any _ true _ 2 2 [1, 2] (src_two w1) (by simp) (by decide)).mono ?_
  rintro e w2 ⟨g, A', c', rfl, hg, hR, hf, hk2⟩
  have HR := Lib.hid hR
  have HK2 : Hid (Grow W w2) := Grow.trans _ _ _ ((HK.out).alloc _) hk2
  have HW2 : Hid (Wr w2 W.heap.size true (.slice none 0 0) []) := (HW.out.keep ((Keeps.refl (fun _ => False) w1).alloc _) (fun h => h) (fun _ h => by simp [Value.ownBlock] at h)).keep hk2 (fun h => h) (fun _ h => by simp [Value.ownBlock] at h)
  clear hg hR hf hk2
  have hz := (zero_of_info info_code).1
  have hcz := codeZ_size
  generalize hZ : codeZ = Z at hz hcz
  go_wp2_with fail
  obtain ⟨w3, hw_w3⟩ : ∃ w3, w3 = ((w2.alloc (.cells Z 54)).alloc (.cells #[.pointer none, .pointer (some ⟨w2.heap.size, 0, none⟩)] 25)) := ⟨_, rfl⟩
  have hZ0 : Z[0]? = some (.slice none 0 0) := by rw [← hZ]; exact codeZ_0
  have q_b0 : w3.cell? ⟨w2.heap.size + 1, 0, none⟩ = some (.pointer none) := by subst hw_w3; go_simp
  have q_b1 : w3.cell? ⟨w2.heap.size + 1, 1, none⟩ = some (.pointer (some ⟨w2.heap.size, 0, none⟩)) := by subst hw_w3; go_simp
  have q_c0 : w3.cell? ⟨w2.heap.size, 0, none⟩ = some (.slice none 0 0) := by subst hw_w3; go_simp; first | done | exact (Array.getElem?_eq_some_iff.1 hZ0).2
  have HF : Hid (∀ w7, Grow w3 w7 → w7.cell? ⟨w2.heap.size + 1, 0, none⟩ = some (.pointer none) ∧ w7.cell? ⟨w2.heap.size + 1, 1, none⟩ = some (.pointer (some ⟨w2.heap.size, 0, none⟩)) ∧ w7.cell? ⟨w2.heap.size, 0, none⟩ = some (.slice none 0 0)) := fun w7 h7 => ⟨cell_kp q_b0 h7, cell_kp q_b1 h7, cell_kp q_c0 h7⟩
  clear q_b0 q_b1 q_c0
  have hB : Grow w2 w3 := by subst hw_w3; exact ((Keeps.refl (fun _ => False) w2).alloc _).alloc _
  rw [← hw_w3]
  clear hw_w3 hZ0 hZ hz hcz
  go_loopw [23] (fun i wr => ∃ j : Nat, j ≤ 2 ∧ i = .int .i64 j ∧ Hid (Grow w3 wr)) (fun i _ => 2 - (intOf i).toNat)
  case atStart => exact ⟨0, by omega, rfl, Keeps.refl _ _⟩
  case round =>
    obtain ⟨j, hj, rfl, HG0⟩ := hrel
    obtain ⟨b0, b1, c0⟩ := HF.out _ HG0.out
    rcases (show j = 0 ∨ j = 1 ∨ j = 2 by omega) with rfl | rfl | rfl
    · go_wp2_with fail
      refine (nobC_word _ _ _ (by first | exact .inl rfl | exact .inr ⟨_, rfl, c0⟩)).mono ?_
      rintro e v1 ⟨rfl, hg1⟩
      have HG1 := Lib.hid (Grow.trans _ _ _ HG0.out hg1)
      clear hg1 b0 b1 c0
      obtain ⟨b0, b1, c0⟩ := HF.out _ HG1.out
      go_wp2_with fail
      refine (nobC_get _ _ _ (by first | exact .inl rfl | exact .inr ⟨_, rfl, c0⟩)).mono ?_
      rintro e v2 ⟨rfl, hg2⟩
      have HG2 := Lib.hid (Grow.trans _ _ _ HG1.out hg2)
      clear hg2 b0 b1 c0
      obtain ⟨b0, b1, c0⟩ := HF.out _ HG2.out
      go_wp2_with fail
      refine (nobC_cost _ _ _ _ _ (by first | exact .inl rfl | exact .inr ⟨_, rfl, c0⟩)).mono ?_
      rintro e v3 ⟨rfl, hg3⟩
      have HG3 := Lib.hid (Grow.trans _ _ _ HG2.out hg3)
      clear hg3 b0 b1 c0
      obtain ⟨b0, b1, c0⟩ := HF.out _ HG3.out
      go_wp2_with fail
      refine (nobC_put _ _ _ _ (by first | exact .inl rfl | exact .inr ⟨_, rfl, c0⟩)).mono ?_
      rintro e v4 ⟨rfl, hg4⟩
      have HG4 := Lib.hid (Grow.trans _ _ _ HG3.out hg4)
      clear hg4 b0 b1 c0
      obtain ⟨b0, b1, c0⟩ := HF.out _ HG4.out
      go_wp2_with fail
      refine (nobC_symbols _ _ (by first | exact .inl rfl | exact .inr ⟨_, rfl, c0⟩)).mono ?_
      rintro e v5 ⟨rfl, hg5⟩
      have HG5 := Lib.hid (Grow.trans _ _ _ HG4.out hg5)
      clear hg5 b0 b1 c0
      obtain ⟨b0, b1, c0⟩ := HF.out _ HG5.out
      go_wp2_with fail
      go_roundw
      case rel => first | exact ⟨1, by omega, rfl, HG5.out⟩ | ((repeat apply Exists.intro); exact ⟨⟨1, by omega, rfl, HG5.out⟩, rfl⟩)
      case measure => simp [intOf]
    · go_wp2_with fail
      refine (nobC_word _ _ _ (by first | exact .inl rfl | exact .inr ⟨_, rfl, c0⟩)).mono ?_
      rintro e v1 ⟨rfl, hg1⟩
      have HG1 := Lib.hid (Grow.trans _ _ _ HG0.out hg1)
      clear hg1 b0 b1 c0
      obtain ⟨b0, b1, c0⟩ := HF.out _ HG1.out
      go_wp2_with fail
      refine (nobC_get _ _ _ (by first | exact .inl rfl | exact .inr ⟨_, rfl, c0⟩)).mono ?_
      rintro e v2 ⟨rfl, hg2⟩
      have HG2 := Lib.hid (Grow.trans _ _ _ HG1.out hg2)
      clear hg2 b0 b1 c0
      obtain ⟨b0, b1, c0⟩ := HF.out _ HG2.out
      go_wp2_with fail
      refine (nobC_cost _ _ _ _ _ (by first | exact .inl rfl | exact .inr ⟨_, rfl, c0⟩)).mono ?_
      rintro e v3 ⟨rfl, hg3⟩
      have HG3 := Lib.hid (Grow.trans _ _ _ HG2.out hg3)
      clear hg3 b0 b1 c0
      obtain ⟨b0, b1, c0⟩ := HF.out _ HG3.out
      go_wp2_with fail
      refine (nobC_put _ _ _ _ (by first | exact .inl rfl | exact .inr ⟨_, rfl, c0⟩)).mono ?_
      rintro e v4 ⟨rfl, hg4⟩
      have HG4 := Lib.hid (Grow.trans _ _ _ HG3.out hg4)
      clear hg4 b0 b1 c0
      obtain ⟨b0, b1, c0⟩ := HF.out _ HG4.out
      go_wp2_with fail
      refine (nobC_symbols _ _ (by first | exact .inl rfl | exact .inr ⟨_, rfl, c0⟩)).mono ?_
      rintro e v5 ⟨rfl, hg5⟩
      have HG5 := Lib.hid (Grow.trans _ _ _ HG4.out hg5)
      clear hg5 b0 b1 c0
      obtain ⟨b0, b1, c0⟩ := HF.out _ HG5.out
      go_wp2_with fail
      go_roundw
      case rel => first | exact ⟨2, by omega, rfl, HG5.out⟩ | ((repeat apply Exists.intro); exact ⟨⟨2, by omega, rfl, HG5.out⟩, rfl⟩)
      case measure => simp [intOf]
    · have hq := Grow.trans _ _ _ hB HG0.out
      have HWr := HW2.out.keep hq (fun h => h) (fun _ _ h => h)
      have HRr := HR.out.keep hq (fun h => h) (fun _ _ h => h)
      go_wp2_with fail
      refine (len_any _ _ true _ _ HWr).mono ?_
      rintro e v1 ⟨rfl, rfl⟩
      go_wp2_with fail
      refine (at_any _ g 2 c' 0 true A' [1, 2] HRr).mono ?_
      rintro e v1 ⟨rfl, rfl⟩
      go_wp2_with fail
      go_ret
      exact ⟨rfl, Keeps.below (Grow.trans _ _ _ HK2.out hq) (fun _ _ h => h) (Nat.le_refl _)⟩
end Go.Proofs.Ytofalbbbnhnadaa
