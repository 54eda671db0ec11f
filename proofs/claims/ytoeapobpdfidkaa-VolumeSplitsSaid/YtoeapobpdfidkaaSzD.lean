/- lzma2: a chunk, the document's. -/
import Derived.Test.YtoeapobpdfidkaaSzC
namespace Go.Proofs.Ytoeapobpdfidkaa
open Go.RowKit
set_option linter.unusedVariables false
set_option linter.unusedSimpArgs false

set_option maxRecDepth 8000 in
set_option maxHeartbeats 4000000 in
theorem rRead2_is (w : World) (A : Option Addr) (n c a : Nat) (xs : List Int) (h : Nums .u8 w A n c xs) (hat : a ≤ n) (hn : n ≤ 1048576) :
    Calls Try.prog 75 #[.slice A n c, .int .i64 (a : Nat), .int .i64 2, .bool true] w fun e w' =>
      ∃ (v nx er : Nat), e = .returned (.tuple #[.int .u64 (v : Nat), .int .i64 (nx : Nat), .int .i64 (er : Nat)]) ∧ v ≤ 65535 ∧ Grow w w' ∧ ((er = 10 ∧ n < a + 2) ∨ (er = 0 ∧ a + 2 ≤ n ∧ nx = a + 2 ∧ v + 1 = n2 xs a)) := by
  have hai : (a : Int) ≤ (n : Int) := by omega
  have hni : (n : Int) ≤ 1048576 := by omega
  obtain ⟨d, hd⟩ : ∃ d, d = n - a := ⟨_, rfl⟩
  have hdi : (n : Int) - (a : Int) = (d : Int) := by omega
  have hdb : (d : Int) ≤ 1048576 := by omega
  by_cases hlk : n - a < 2
  · have hlt : (d : Int) < 2 := by omega
    have HLK := Lib.hid hlk
    clear h hd hat hn hlk
    go_enter Try.func75, Try.ntmps75
    go_wp2_with fail
    go_ret3
    exact ⟨0, 0, 10, rfl, by decide, Keeps.refl _ _, .inl ⟨rfl, by have := HLK.out; omega⟩⟩
  have hlt : ¬ (d : Int) < 2 := by omega
  have HLK : Hid (a + 2 ≤ n ∧ n ≤ 1048576) := ⟨by omega, hn⟩
  obtain ⟨x0, hx0⟩ : ∃ x0, x0 = bytN xs a := ⟨_, rfl⟩
  obtain ⟨x1, hx1⟩ : ∃ x1, x1 = bytN xs (a + 1) := ⟨_, rfl⟩
  have hcut : n - a = d := hd.symm
  obtain ⟨a2, ha2⟩ : ∃ a2, a2 = a + 2 := ⟨_, rfl⟩
  have hai2 : (a : Int) + 2 = (a2 : Int) := by omega
  have ha2i : (a2 : Int) ≤ 1048578 := by omega
  have hN2 := (h.drop a (by omega)).take 2 (by omega)
  obtain ⟨bb, o, eA, hc⟩ := hN2.at_ (by omega)
  have hsl : ∀ w : World, (Instr.slice 51 (.slice A n c) (some (.int .i64 (a : Nat))) (some (.int .i64 (a2 : Nat))) none).run Try.prog w = .ok (.slice (some ⟨bb, o, none⟩) 2 (c - a)) w := fun w => by
    have h9 := run_mid (P := Try.prog) (t := 51) Try.underlying51 rfl rfl A n c a a2 (by omega) (by have := h.cap; omega) w
    rw [h9, eA, show a2 - a = 2 by omega]
  have c0 : w.cell? ⟨bb, o, none⟩ = some (.int .u8 (x0 : Nat)) := by
    have h2 := hc 0 (by omega)
    have h3 : (((xs.drop a).take 2).getD 0 0 : Int) = (x0 : Nat) := by
      rw [hx0, ← (bytN_is h a).1]
      simp [List.getD_eq_getElem?_getD]
    rw [h3] at h2
    exact h2
  have c1 : w.cell? ⟨bb, o + 1, none⟩ = some (.int .u8 (x1 : Nat)) := by
    have h2 := hc 1 (by omega)
    have h3 : (((xs.drop a).take 2).getD 1 0 : Int) = (x1 : Nat) := by
      rw [hx1, ← (bytN_is h (a + 1)).1]
      simp [List.getD_eq_getElem?_getD]
    rw [h3] at h2
    exact h2
  have hx0b : x0 < 256 := by rw [hx0]; exact (bytN_is h a).2
  have hx1b : x1 < 256 := by rw [hx1]; exact (bytN_is h (a + 1)).2
  have HX : Hid (x0 * 256 + x1 + 1 = n2 xs a) := by show _ = _; rw [hx0, hx1]; rfl
  have HA2 := Lib.hid ha2
  clear h hd hat hn hlk hx0 hx1 hc hN2 hcut eA ha2
  go_enter Try.func75, Try.ntmps75
  go_wp2_with fail
  clear hdi hdb hsl hni hlt hai
  go_loopw [12, 13] (fun vv vi wr => ∃ (i : Nat), i ≤ 2 ∧ vi = .int .i64 i ∧ vv = .int .u64 ((if i = 0 then 0 else if i = 1 then x0 else x0 * 256 + x1 : Nat) : Int) ∧ w = wr) (fun _ vi _ => 2 - (intOf vi).toNat)
  case atStart => exact ⟨0, by omega, rfl, rfl, rfl⟩
  case round =>
    obtain ⟨i, hi, rfl, rfl, rfl⟩ := hrel
    rcases (show i = 0 ∨ i = 1 ∨ i = 2 by omega) with rfl | rfl | rfl
    · go_wp2_with fail
      go_roundw
      case rel => exact ⟨0 + 1, by omega, rfl, by simp, trivial⟩
      case measure => simp [intOf]
    · have hx01 : (x0 : Int) * 256 + (x1 : Int) < 65536 := by omega
      have hx02 : (x0 : Int) * 256 < 65536 := by omega
      go_wp2_with fail
      go_roundw
      case rel => exact ⟨1 + 1, by omega, rfl, by simp, trivial⟩
      case measure => simp [intOf]
    · obtain ⟨v, hv⟩ : ∃ v, v = x0 * 256 + x1 := ⟨_, rfl⟩
      have hvb : v ≤ 65535 := by omega
      rw [if_neg (by decide), if_neg (by decide), ← hv]
      have HV := Lib.hid hv
      have HVB := Lib.hid hvb
      clear hv hvb hx0b hx1b c0 c1
      go_wp2_with fail
      go_ret3
      exact ⟨v, a2, 0, rfl, HVB.out, Keeps.refl _ _, .inr ⟨rfl, HLK.out.1, HA2.out, by rw [HV.out]; exact HX.out⟩⟩
end Go.Proofs.Ytoeapobpdfidkaa
