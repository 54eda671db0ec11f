/- A chance behind a bit: the program's walk. -/
import Derived.Test.YtiikbpcaeoodjaaEnP
import Derived.Test.YtiikbpcaeoodjaaRpU16
namespace Go.Proofs.Ytiikbpcaeoodjaa
open Go.RowKit
set_option linter.unusedVariables false
set_option linter.unusedSimpArgs false

/-- Whole numbers as a row's cells. -/
def u16s (l : List Nat) : List Value := l.map fun p => Value.int .u16 (p : Nat)
theorem u16s_set (l : List Nat) (i v : Nat) : (u16s l).set i (.int .u16 (v : Nat)) = u16s (l.set i v) := by simp [u16s, List.map_set]
theorem u16s_get (l : List Nat) (i : Nat) (h : i < l.length) : (u16s l)[i]? = some (.int .u16 (l.getD i 0 : Nat)) := by simp [u16s, h, List.getD_eq_getElem?_getD]
theorem u16s_len (l : List Nat) : (u16s l).length = l.length := by simp [u16s]
theorem gk {S : Nat → Prop} {w w1 : World} (h : Grow w w1) : Keeps S w w1 := h.mono fun _ _ h => h.elim
theorem hyG : Hv.Hyp2 Grow Grow (fun _ _ _ => True) := ⟨Keeps.refl _, fun _ _ _ h k => Keeps.trans h k fun _ _ h => h, fun _ _ _ _ _ _ => trivial, Keeps.refl _, fun _ _ _ h k => Keeps.trans h k fun _ _ h => h, fun _ _ h => h⟩

set_option maxRecDepth 4000 in
set_option maxHeartbeats 2000000 in
theorem after_is (w : World) (g n c : Nat) (ch : List Nat) (i : Nat) (bit : Nat) (h : w.ownsRow 0 88 1 (.slice (some ⟨g, 0, none⟩) n c) n (u16s ch)) (hi : i < n) (hp1 : 31 ≤ ch.getD i 0) (hp2 : ch.getD i 0 ≤ 2017) (hn : n ≤ 70000) (hb : bit ≤ 1) :
    Calls Try.prog 62 #[.slice (some ⟨g, 0, none⟩) n c, .int .i64 i, .int .i64 bit] w fun e w' => e = .returned (.tuple #[]) ∧ w'.ownsRow 0 88 1 (.slice (some ⟨g, 0, none⟩) n c) n (u16s (ch.set i (aft (ch.getD i 0) bit))) ∧ Keeps (fun k => k = g) w w' := by
  have hl : ch.length = n := by have := h.1; rw [u16s_len] at this; omega
  have hc := h.cellAt i (by omega)
  rw [u16s_get ch i (by omega)] at hc
  have hf := h.frozenAt i
  have H := Lib.hid h
  obtain ⟨p, hp⟩ : ∃ p, p = ch.getD i 0 := ⟨_, rfl⟩
  rw [← hp] at hc hp1 hp2 ⊢
  have HC : Hid (∀ w7, Grow w.drew w7 → w7.cell? ⟨g, i, none⟩ = some (.int .u16 (p : Nat)) ∧ w7.frozen? ⟨g, i, none⟩ = false) := fun w7 h7 => by
    have ho7 := owns_keep (show w.drew.ownsRow _ _ _ _ _ _ from H.out) h7 fun _ _ h => h
    have hc7 := ho7.cellAt i (by omega)
    rw [u16s_get ch i (by omega), ← hp] at hc7
    exact ⟨hc7, ho7.frozenAt i⟩
  have HCd := Lib.hid (HC.out _ (Keeps.refl _ _))
  clear h hl hc hf hp
  by_cases hb0 : bit = 0
  · subst hb0
    go_enter Try.func62, Try.ntmps62
    go_wp2_with fail
    refine wp_region_seq (by kernel_rfl) (by kernel_rfl) ?_
    have HOd := Lib.hid (show w.drew.ownsRow _ _ _ _ _ _ from H.out)
    have HKd : Hid (Keeps (fun k => k = g) w w.drew) := (Keeps.refl _ w).drew
    obtain ⟨hcd, hfd⟩ := HCd.out
    clear HC HCd
    generalize w.drew = wd at *
    go_wp2_with fail
    refine ⟨by kernel_rfl, ?_⟩
    go_wp2_with fail
    refine bodyPost_ret (results_none rfl _ _ _) rfl ⟨rfl, ?_, HKd.out.setCell (p := ⟨g, i, none⟩) (fun _ => rfl) _⟩
    have h9 := (HOd.out.stored i (.int .u16 ((aft p 0 : Nat) : Int))).1
    rw [u16s_set] at h9
    have e9 : ((aft p 0 : Nat) : Int) = (p : Int) + (2048 - (p : Int)) / 32 := by simp [aft]; omega
    rw [e9] at h9
    exact h9
  · obtain rfl : bit = 1 := by omega
    clear hb0
    go_enter Try.func62, Try.ntmps62
    go_wp2_with fail
    refine wp_region_seq (by kernel_rfl) (by kernel_rfl) ?_
    have HOd := Lib.hid (show w.drew.ownsRow _ _ _ _ _ _ from H.out)
    have HKd : Hid (Keeps (fun k => k = g) w w.drew) := (Keeps.refl _ w).drew
    obtain ⟨hcd, hfd⟩ := HCd.out
    clear HC HCd
    generalize w.drew = wd at *
    go_wp2_with fail
    refine ⟨by kernel_rfl, ?_⟩
    go_wp2_with fail
    refine bodyPost_end (results_none rfl _ _ _) rfl ⟨rfl, ?_, HKd.out.setCell (p := ⟨g, i, none⟩) (fun _ => rfl) _⟩
    have h9 := (HOd.out.stored i (.int .u16 ((aft p 1 : Nat) : Int))).1
    rw [u16s_set] at h9
    have e9 : ((aft p 1 : Nat) : Int) = (p : Int) - (p : Int) / 32 := by simp [aft]; omega
    rw [e9] at h9
    exact h9
end Go.Proofs.Ytiikbpcaeoodjaa
