/- prefix: dead, Get of a symbol's word. -/
import Derived.Test.YtofalbbbnhnadaaPcS
import Derived.BigQuiet
import Derived.Deep.QuietTactic
namespace Go.Proofs.Ytofalbbbnhnadaa
open Go.RowKit
set_option linter.unusedVariables false
set_option linter.unusedSimpArgs false

/-- A word of the length k goes on from the l bits v. -/
def liveK (ls : List Nat) (v l k : Nat) : Prop := 0 < Cc ls k ∧ Ff ls k / 2 ^ (k - l) ≤ v ∧ v ≤ (Ff ls k + Cc ls k - 1) / 2 ^ (k - l)
def DeadPost (ls : List Nat) (M v l : Nat) (w : World) (e : Ending) (w' : World) : Prop := ∃ b, e = .returned (.bool b) ∧ Grow w w' ∧ (b = false ∧ (∃ k, l < k ∧ k ≤ M ∧ liveK ls v l k) ∨ b = true ∧ ∀ k, l < k → k ≤ M → ¬ liveK ls v l k)
set_option maxRecDepth 8000 in
set_option maxHeartbeats 4000000 in
theorem cDead_is (w : World) (g m M B : Nat) (ls : List Nat) (h : CodeX w g m M B ls) (v l : Nat) (hv : v < 4294967296) (hl1 : 1 ≤ l) (hlM : l ≤ M) :
    Calls Try.prog 34 #[.pointer (some ⟨g, 0, none⟩), .int .u32 v, .int .i64 l] w fun e w' => DeadPost ls M v l w e w' := by
  have HX := Lib.hid h
  have hM20 := h.most
  obtain ⟨POST, hPOST⟩ : ∃ POST : Ending → World → Prop, POST = fun e w' => DeadPost ls M v l w e w' := ⟨_, rfl⟩
  have HPO := Lib.hid hPOST
  show Calls _ _ _ _ fun e w' => (fun e w' => DeadPost ls M v l w e w') e w'
  rw [← hPOST]
  have hli : (l : Int) ≤ 20 := by omega
  have HB := Lib.hid (And.intro hl1 (And.intro hlM (And.intro hM20 hv)))
  have hMi : (M : Int) ≤ 20 := by omega
  clear h hPOST
  go_enter Try.func34, Try.ntmps34
  go_wp2_with fail
  clear hv hl1 hM20
  go_loopw [7] (fun vk wr => ∃ (k : Nat), l < k ∧ k ≤ M + 1 ∧ vk = .int .i64 k ∧ Hid (Grow w wr) ∧ Hid (∀ j, l < j → j < k → ¬ liveK ls v l j)) (fun vk _ => M + 1 - (intOf vk).toNat)
  case atStart => exact ⟨l + 1, by omega, by omega, by go_num, Keeps.refl _ _, fun j h1 h2 => by omega⟩
  case round =>
    obtain ⟨k, hlk, hkM, rfl, HG, HJ⟩ := hrel
    have hx := HX.out.grow HG.out
    obtain ⟨gw, srt, F, C, P, hc, -, -, htab, -, -, -⟩ := hx.at_
    have d68 := hc.mostc
    by_cases hkm : k ≤ M
    · obtain ⟨t1, t2, t3⟩ := htab k (by omega) hkm
      have c1 := hc.first k (by omega)
      have c2 := hc.count k (by omega)
      rw [t1] at c1
      rw [t3] at c2
      obtain ⟨e1, e2⟩ := Ff_eq HX.out.kraft k (by omega) (by omega)
      have hnn := Nn_le HX.out.kraft k (by omega)
      have hpw : 2 ^ k ≤ 2 ^ 20 := Nat.pow_le_pow_right (by omega) (by omega)
      obtain ⟨FF, hFF⟩ : ∃ FF, FF = Ff ls k := ⟨_, rfl⟩
      obtain ⟨CC, hCC⟩ : ∃ CC, CC = Cc ls k := ⟨_, rfl⟩
      rw [← hFF] at c1 e2
      rw [← hCC] at c2 e2
      have hfc : FF + CC ≤ 1048576 := by omega
      obtain ⟨d, hd⟩ : ∃ d, d = k - l := ⟨_, rfl⟩
      have hdi : (k : Int) - (l : Int) = (d : Int) := by omega
      have hd64 : d < 64 := by omega
      obtain ⟨X, hX⟩ : ∃ X, X = FF / 2 ^ d := ⟨_, rfl⟩
      have eX : (FF : Int) / 2 ^ d = (X : Int) := by rw [powI4, ← Int.natCast_ediv, hX]
      have hXb : (X : Int) ≤ 1048576 := by have : X ≤ FF := by rw [hX]; exact Nat.div_le_self _ _
                                           omega
      have HLV : Hid (liveK ls v l k ↔ 0 < CC ∧ X ≤ v ∧ v ≤ (FF + CC - 1) / 2 ^ d) := by
        show _ ↔ _
        unfold liveK
        rw [← hFF, ← hCC, ← hd, ← hX]
      have hki : (k : Int) ≤ (M : Int) := by omega
      have hk22 : (k : Int) < 22 := by omega
      have hFi : (FF : Int) ≤ 1048576 := by omega
      have hCi : (CC : Int) ≤ 1048576 := by omega
      have HNX : Hid (¬ liveK ls v l k → ∀ j, l < j → j < k + 1 → ¬ liveK ls v l j) := fun h1 j h2 h3 => by
        by_cases hj : j = k
        · rw [hj]; exact h1
        · exact HJ.out j h2 (by omega)
      clear hx hc htab t1 t2 t3 e1 e2 hnn hpw hFF hCC hd hX
      by_cases hC0 : CC = 0
      · subst hC0
        have HNL : Hid (¬ liveK ls v l k) := by intro h9; have := (HLV.out.1 h9).1; omega
        go_wp2_with fail
        go_quiet (fail)
        go_wp2_with fail
        go_roundw
        case rel => exact ⟨k + 1, by omega, by omega, by go_num, HG.out.drewN _, HNX.out HNL.out⟩
        case measure => simp [intOf]; omega
      have hC1 : decide ((0 : Int) < (CC : Int)) = true := decide_eq_true (by omega)
      have hC2 : (0 : Int) < (CC : Int) := by omega
      have hC3 : decide (0 < CC) = true := decide_eq_true (by omega)
      have hC4 : 0 < CC := by omega
      by_cases hXv : X ≤ v
      · have hXd : decide (X ≤ v) = true := decide_eq_true hXv
        obtain ⟨E, hE⟩ : ∃ E, E = FF + CC - 1 := ⟨_, rfl⟩
        have eE : (FF : Int) + (CC : Int) - 1 = (E : Int) := by omega
        obtain ⟨Y, hY⟩ : ∃ Y, Y = E / 2 ^ d := ⟨_, rfl⟩
        have eY : (E : Int) / 2 ^ d = (Y : Int) := by rw [powI4, ← Int.natCast_ediv, hY]
        have hfci : (FF : Int) + (CC : Int) ≤ 1048576 := by omega
        have hEi : (E : Int) ≤ 1048576 := by omega
        rw [← hE, ← hY] at HLV
        by_cases hvY : v ≤ Y
        · have hYd : decide (v ≤ Y) = true := decide_eq_true hvY
          have HL : Hid (liveK ls v l k) := HLV.out.2 ⟨by omega, hXv, hvY⟩
          clear hE hY hfc hC0
          go_wp2_with fail
          go_quiet (fail)
          go_wp2_with fail
          refine (show POST (.returned (.bool false)) (wr.drewN _) from ?_)
          rw [HPO.out]
          exact ⟨false, rfl, HG.out.drewN _, .inl ⟨rfl, k, hlk, hkm, HL.out⟩⟩
        · have hYd : decide (v ≤ Y) = false := decide_eq_false hvY
          have HNL : Hid (¬ liveK ls v l k) := fun h9 => hvY (HLV.out.1 h9).2.2
          clear hE hY hfc hC0
          go_wp2_with fail
          go_quiet (fail)
          go_wp2_with fail
          go_roundw
          case rel => exact ⟨k + 1, by omega, by omega, by go_num, HG.out.drewN _, HNX.out HNL.out⟩
          case measure => simp [intOf]; omega
      · have hXd : decide (X ≤ v) = false := decide_eq_false hXv
        have HNL : Hid (¬ liveK ls v l k) := fun h9 => hXv (HLV.out.1 h9).2.1
        clear hfc hC0
        go_wp2_with fail
        go_quiet (fail)
        go_wp2_with fail
        go_roundw
        case rel => exact ⟨k + 1, by omega, by omega, by go_num, HG.out.drewN _, HNX.out HNL.out⟩
        case measure => simp [intOf]; omega
    · obtain rfl : k = M + 1 := by omega
      have hki : ¬ (((M + 1 : Nat) : Int) ≤ (M : Int)) := by omega
      clear hx hc htab
      go_wp2_with fail
      refine (show POST (.returned (.bool true)) wr from ?_)
      rw [HPO.out]
      exact ⟨true, rfl, HG.out, .inr ⟨rfl, fun j h1 h2 => HJ.out j h1 (by omega)⟩⟩
end Go.Proofs.Ytofalbbbnhnadaa
