/- The decoder: Bit, Done, Chances, Set. -/
import Derived.Test.YtiikbpcaeoodjaaDcC
namespace Go.Proofs.Ytiikbpcaeoodjaa
open Go.RowKit
set_option linter.unusedVariables false
set_option linter.unusedSimpArgs false

theorem dNone_is (w : World) (g gc cc : Nat) (RB : Nat → Prop) (A : Option Addr) (c : Nat) (d : Dec) (h : DecAt w g gc cc RB A c d) : Calls Try.prog 54 #[.pointer (some ⟨g, 0, none⟩)] w fun e' w' => e' = .returned (.bool false) ∧ w = w' := by
  have d0 := blk_cell h.blk 0
  simp at d0
  go_enter Try.func54, Try.ntmps54
  go_wp2
  go_ret
  exact ⟨rfl, rfl⟩

set_option maxRecDepth 8000 in
theorem dBit_bad (w : World) (g gc cc : Nat) (RB : Nat → Prop) (A : Option Addr) (c : Nat) (d : Dec) (h : DecAt w g gc cc RB A c d) (i : Int) (hb : i < 0 ∨ (d.ch.length : Int) ≤ i) :
    Calls Try.prog 30 #[.pointer (some ⟨g, 0, none⟩), .int .i64 i] w fun e' w' => e' = .returned (.tuple #[.int .i64 0, .int .i64 2]) ∧ w = w' := by
  have HN := Lib.hid (dNone_is w g gc cc RB A c d h)
  have d1 := blk_cell h.blk 1
  simp at d1
  generalize d.ch.length = n at *
  clear h
  go_enter Try.func30, Try.ntmps30
  go_wp2_with fail
  refine HN.out.mono ?_
  rintro x w1 ⟨rfl, rfl⟩
  by_cases h1 : i < 0
  · go_wp2_with fail
    go_ret2
    exact ⟨rfl, rfl⟩
  have h2 : (n : Int) ≤ i := by omega
  go_wp2_with fail
  go_ret2
  exact ⟨rfl, rfl⟩
set_option maxRecDepth 8000 in
theorem dBit_is (w : World) (g gc cc : Nat) (RB : Nat → Prop) (A : Option Addr) (c : Nat) (d : Dec) (h : DecAt w g gc cc RB A c d) (hok : d.Ok) (i : Nat) (hi : i < d.ch.length) (hn : d.ch.length ≤ 65536) :
    Calls Try.prog 30 #[.pointer (some ⟨g, 0, none⟩), .int .i64 i] w fun e' w' => e' = .returned (.tuple #[.int .i64 (if (d.get i).over then 0 else d.told i : Nat), .int .i64 (if (d.get i).over then 10 else 0 : Nat)]) ∧ DecTo2 w g gc cc RB (d.get i) w' := by
  have HN := Lib.hid (dNone_is w g gc cc RB A c d h)
  have HC := Lib.hid (dChance_is w g gc cc RB A c d h hok i hi hn)
  have d1 := blk_cell h.blk 1
  simp at d1
  have hi2 : ¬ (d.ch.length : Int) ≤ (i : Int) := by omega
  generalize d.ch.length = n at *
  generalize d.told i = T at *
  generalize d.get i = D at *
  cases ho : D.over
  · rw [ho] at HC
    simp only [Bool.false_eq_true, if_false, Bool.not_false] at HC
    clear h hok hn
    go_enter Try.func30, Try.ntmps30
    go_wp2_with fail
    refine HN.out.mono ?_
    rintro x w1 ⟨rfl, rfl⟩
    go_wp2_with fail
    refine HC.out.mono ?_
    rintro x w2 ⟨rfl, t⟩
    have HT := Lib.hid t
    clear t HC HN
    go_wp2_with fail
    go_ret2
    exact ⟨rfl, HT.out⟩
  · rw [ho] at HC
    simp only [if_true, Bool.not_true] at HC
    clear h hok hn
    go_enter Try.func30, Try.ntmps30
    go_wp2_with fail
    refine HN.out.mono ?_
    rintro x w1 ⟨rfl, rfl⟩
    go_wp2_with fail
    refine HC.out.mono ?_
    rintro x w2 ⟨rfl, t⟩
    have HT := Lib.hid t
    clear t HC HN
    go_wp2_with fail
    go_ret2
    exact ⟨rfl, HT.out⟩
/-- Is all read? -/
def Dec.done (d : Dec) : Bool := d.rest.isEmpty && decide (d.code = 0) && !d.over
set_option maxRecDepth 8000 in
theorem dDone_is (w : World) (g gc cc : Nat) (RB : Nat → Prop) (A : Option Addr) (c : Nat) (d : Dec) (h : DecAt w g gc cc RB A c d) :
    Calls Try.prog 27 #[.pointer (some ⟨g, 0, none⟩)] w fun e' w' => e' = .returned (.bool d.done) ∧ w = w' := by
  have HN := Lib.hid (dNone_is w g gc cc RB A c d h)
  have d3 := blk_cell h.blk 3
  have d4 := blk_cell h.blk 4
  have d5 := blk_cell h.blk 5
  simp at d3 d4 d5
  obtain ⟨ch, width, code, rest, over⟩ := d
  simp only at d3 d4 d5
  clear h
  by_cases hr : rest.length = 0
  · by_cases hc : code = 0
    · have hD : (⟨ch, width, code, rest, over⟩ : Dec).done = !over := by
        simp [Dec.done, List.length_eq_zero_iff.1 hr, hc]
      rw [hD]
      subst hc
      rw [hr] at d4
      clear hD hr
      cases over
      all_goals
        go_enter Try.func27, Try.ntmps27
        go_wp2_with fail
        refine HN.out.mono ?_
        rintro x w1 ⟨rfl, rfl⟩
        go_wp2_with fail
        go_ret
        exact ⟨rfl, rfl⟩
    · have hD : (⟨ch, width, code, rest, over⟩ : Dec).done = false := by
        simp [Dec.done, hc]
      rw [hD]
      rw [hr] at d4
      clear hD hr
      go_enter Try.func27, Try.ntmps27
      go_wp2_with fail
      refine HN.out.mono ?_
      rintro x w1 ⟨rfl, rfl⟩
      go_wp2_with fail
      go_ret
      exact ⟨rfl, rfl⟩
  · have hD : (⟨ch, width, code, rest, over⟩ : Dec).done = false := by
      cases rest with
      | nil => exact absurd rfl hr
      | cons x r => rfl
    rw [hD]
    clear hD
    generalize rest.length = L at *
    have hL : ((L : Int) == 0) = false := by rw [beq_eq_false_iff_ne]; omega
    go_enter Try.func27, Try.ntmps27
    go_wp2_with fail
    refine HN.out.mono ?_
    rintro x w1 ⟨rfl, rfl⟩
    go_wp2_with fail
    go_ret
    exact ⟨rfl, rfl⟩
theorem dChances_is (w : World) (g gc cc : Nat) (RB : Nat → Prop) (A : Option Addr) (c : Nat) (d : Dec) (h : DecAt w g gc cc RB A c d) (hok : chOk d.ch) (hn : d.ch.length ≤ 65536) :
    Calls Try.prog 29 #[.pointer (some ⟨g, 0, none⟩)] w fun e' w' => ∃ A c, e' = .returned (.slice A d.ch.length c) ∧ w'.ownsRow w.heap.size 3 1 (.slice A d.ch.length c) d.ch.length ((toI d.ch).map (Value.int .i64)) ∧ Grow w w' := by
  have HN := Lib.hid (dNone_is w g gc cc RB A c d h)
  have HL := Lib.hid (list_is w gc cc d.ch h.chs hn hok)
  have d1 := blk_cell h.blk 1
  simp at d1
  clear h hn
  go_enter Try.func29, Try.ntmps29
  go_wp2_with fail
  refine HN.out.mono ?_
  rintro x w1 ⟨rfl, rfl⟩
  go_wp2_with fail
  refine HL.out.mono ?_
  rintro x w1 ⟨A, c, rfl, ho, hg⟩
  have HO := Lib.hid ho
  have HG := Lib.hid hg
  clear ho hg HL
  go_wp2_with fail
  go_ret
  exact ⟨A, c, rfl, HO.out, HG.out⟩
theorem dSet_bad (w : World) (g gc cc : Nat) (RB : Nat → Prop) (A9 : Option Addr) (c9 : Nat) (d : Dec) (h : DecAt w g gc cc RB A9 c9 d) (A : Option Addr) (m c : Nat) (xs : List Int) (hx : Nums .i64 w A m c xs) (hm : m ≤ 140737488355328) (hf : fitB xs d.ch.length = false) :
    Calls Try.prog 37 #[.pointer (some ⟨g, 0, none⟩), .slice A m c] w fun e' w' => e' = .returned (.int .i64 2) ∧ w = w' := by
  have HN := Lib.hid (dNone_is w g gc cc RB A9 c9 d h)
  have HS := Lib.hid (set_no w gc cc d.ch.length A m c xs hx hm hf)
  have d1 := blk_cell h.blk 1
  simp at d1
  clear h hx hf
  go_enter Try.func37, Try.ntmps37
  go_wp2_with fail
  refine HN.out.mono ?_
  rintro x w1 ⟨rfl, rfl⟩
  go_wp2_with fail
  refine HS.out.mono ?_
  rintro x w1 ⟨rfl, rfl⟩
  go_wp2_with fail
  go_ret
  exact ⟨rfl, rfl⟩
theorem dSet_is (w : World) (g gc cc : Nat) (RB : Nat → Prop) (A9 : Option Addr) (c9 : Nat) (d : Dec) (h : DecAt w g gc cc RB A9 c9 d) (hok : d.Ok) (A : Option Addr) (m c : Nat) (xs : List Int) (hx : Nums .i64 w A m c xs) (hm : m ≤ 140737488355328) (hf : fitB xs d.ch.length = true) (hne : ∀ b o, A = some ⟨b, o, none⟩ → b ≠ gc) :
    Calls Try.prog 37 #[.pointer (some ⟨g, 0, none⟩), .slice A m c] w fun e' w' => e' = .returned (.int .i64 0) ∧ DecTo2 w g gc cc RB { d with ch := toN xs } w' ∧ ({ d with ch := toN xs } : Dec).Ok ∧ (toN xs).length = d.ch.length := by
  have HN := Lib.hid (dNone_is w g gc cc RB A9 c9 d h)
  have HS := Lib.hid (set_yes w gc cc d.ch.length d.ch h.chs A m c xs hx hm hf hne)
  obtain ⟨hl, hr, hch, _⟩ := fit_ok hf
  have d1 := blk_cell h.blk 1
  simp at d1
  have H := Lib.hid h
  have HOK : Hid (({ d with ch := toN xs } : Dec).Ok ∧ (toN xs).length = d.ch.length) := ⟨⟨hch, hok.width, hok.code, hok.top, hok.rest⟩, by simp [toN, hl]⟩
  clear h hx hf hok hch hr hl hne
  go_enter Try.func37, Try.ntmps37
  go_wp2_with fail
  refine HN.out.mono ?_
  rintro x w1 ⟨rfl, rfl⟩
  go_wp2_with fail
  refine HS.out.mono ?_
  rintro x w1 ⟨rfl, ho, hk⟩
  have HO := Lib.hid ho
  have HK := Lib.hid hk
  clear ho hk HS
  go_wp2_with fail
  go_ret
  exact ⟨rfl, ⟨A9, c9, dec_aft H.out HO.out HK.out, HK.out.mono (fun _ _ h => .inr h)⟩, HOK.out.1, HOK.out.2⟩
end Go.Proofs.Ytiikbpcaeoodjaa
