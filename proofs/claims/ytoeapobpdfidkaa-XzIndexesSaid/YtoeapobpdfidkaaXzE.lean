/- xz: the cursor. -/
import Derived.Test.YtoeapobpdfidkaaXzD
import Derived.Test.YtoeapobpdfidkaaMake
import Derived.StillTailTactics
namespace Go.Proofs.Ytoeapobpdfidkaa
open Go.RowKit
set_option linter.unusedVariables false
set_option linter.unusedSimpArgs false

structure CAt (w : World) (g : Nat) (A : Option Addr) (n c : Nat) (xs : List Int) (at' bad : Nat) : Prop where
  blk : w.heap[g]? = some (.cells #[.slice A n c, .int .i64 (at' : Nat), .int .i64 (bad : Nat)] 113 (0, 0))
  nums : Nums .u8 w A n c xs
  ne : ∀ a, A = some a → a.block < g
  le : at' ≤ n
  small : n ≤ 140737488355328
  bads : bad ≤ 20
theorem CAt.keep {S : Nat → Prop} {w w' : World} {g n c at' bad : Nat} {A : Option Addr} {xs : List Int} (h : CAt w g A n c xs at' bad) (k : Keeps S w w') (hS : ∀ b, b ≤ g → ¬ S b) : CAt w' g A n c xs at' bad :=
  ⟨block_keep h.blk k (hS g (Nat.le_refl _)), h.nums.keep k (fun b o hA => hS b (Nat.le_of_lt (h.ne _ hA))), h.ne, h.le, h.small, h.bads⟩
theorem CAt.grow {w w' : World} {g n c at' bad : Nat} {A : Option Addr} {xs : List Int} (h : CAt w g A n c xs at' bad) (k : Grow w w') : CAt w' g A n c xs at' bad := h.keep k fun _ _ h => h
theorem CAt.moved {w w' : World} {g n c at' bad : Nat} {A : Option Addr} {xs : List Int} (h : CAt w g A n c xs at' bad) (at2 bad2 : Nat) (h2 : at2 ≤ n) (h3 : bad2 ≤ 20) (k : Keeps (fun k => k = g) w w') (hb : w'.heap[g]? = some (.cells #[.slice A n c, .int .i64 (at2 : Nat), .int .i64 (bad2 : Nat)] 113 (0, 0))) : CAt w' g A n c xs at2 bad2 :=
  ⟨hb, h.nums.keep k (fun b o hA h9 => by have := h.ne _ hA; have h9 : b = g := h9; simp only at this; omega), h.ne, h2, h.small, h3⟩
/-- The error that stands. -/
def okS (bad : Nat) (is : Bool) (e : Nat) : Nat := if bad = 0 ∧ is = false then e else bad
theorem okS_bad {bad : Nat} (h : bad ≠ 0) (is : Bool) (e : Nat) : okS bad is e = bad := by unfold okS; rw [if_neg (by omega)]
theorem okS_yes (bad e : Nat) : okS bad true e = bad := by unfold okS; rw [if_neg (by simp)]
theorem okS_no (e : Nat) : okS 0 false e = e := by unfold okS; rw [if_pos ⟨rfl, rfl⟩]
theorem okS_le {bad : Nat} (h : bad ≤ 20) (is : Bool) {e : Nat} (he : e ≤ 20) : okS bad is e ≤ 20 := by unfold okS; split <;> omega
set_option maxRecDepth 4000 in
set_option maxHeartbeats 1000000 in
theorem cok_is (w : World) (g n c at' bad e : Nat) (A : Option Addr) (xs : List Int) (is : Bool) (h : CAt w g A n c xs at' bad) (he : e ≤ 20) (he1 : 1 ≤ e) :
    Calls Try.prog 86 #[.pointer (some ⟨g, 0, none⟩), .bool is, .int .i64 (e : Nat)] w fun x w' => x = .returned (.bool (decide (okS bad is e = 0))) ∧ CAt w' g A n c xs at' (okS bad is e) ∧ Keeps (fun k => k = g) w w' := by
  have d2 := blk_cell h.blk 2
  have f2 := blk_frozen h.blk 2
  simp at d2
  have H := Lib.hid h
  have hbi : (bad : Int) ≤ 20 := by have := h.bads; omega
  clear h
  by_cases hb : bad = 0
  · subst hb
    cases is
    · have hst := blk_set H.out.blk 2 (.int .i64 (e : Nat))
      simp at hst
      have hk : Keeps (fun k => k = g) w (w.setCell ⟨g, 2, none⟩ (.int .i64 (e : Nat))) := Keeps.setCell (S := fun k => k = g) (Keeps.refl _ w) (p := ⟨g, 2, none⟩) (fun _ => rfl) _
      have H2 := Lib.hid (H.out.moved at' e H.out.le he hk hst)
      have HK := Lib.hid hk
      have q1 : ((e : Int) == 0) = false := by simp; omega
      have HE : Hid (decide (okS 0 false e = 0) = false) := by rw [okS_no]; exact decide_eq_false (by omega)
      clear he he1 hk hst
      go_enter Try.func86, Try.ntmps86
      go_upto_region 3 with fail
      generalize w.setCell ⟨g, 2, none⟩ (.int .i64 (e : Nat)) = w2 at *
      have d2 := blk_cell H2.out.blk 2
      simp at d2
      go_wp2_with fail
      go_ret
      exact ⟨by rw [HE.out]; rfl, by rw [okS_no]; exact H2.out, HK.out⟩
    · have HE : Hid (decide (okS 0 true e = 0) = true) := by rw [okS_yes]; rfl
      clear he he1
      go_enter Try.func86, Try.ntmps86
      go_wp2_with fail
      go_ret
      exact ⟨by rw [HE.out]; rfl, by rw [okS_yes]; exact H.out, Keeps.refl _ _⟩
  · have q1 : ((bad : Int) == 0) = false := by simp; omega
    have q2 : decide ((bad : Int) = 0) = false := decide_eq_false (by omega)
    have HE : Hid (decide (okS bad is e = 0) = false) := by rw [okS_bad hb]; exact decide_eq_false hb
    have HB := Lib.hid hb
    clear he he1 hb
    go_enter Try.func86, Try.ntmps86
    go_wp2_with fail
    go_ret
    exact ⟨by rw [HE.out]; rfl, by rw [okS_bad HB.out]; exact H.out, Keeps.refl _ _⟩
set_option maxRecDepth 8000 in
set_option maxHeartbeats 2000000 in
theorem cbytes_is (w : World) (g n c at' bad m : Nat) (A : Option Addr) (xs : List Int) (h : CAt w g A n c xs at' bad) (hm : m ≤ 16) (hm1 : 1 ≤ m) :
    Calls Try.prog 87 #[.pointer (some ⟨g, 0, none⟩), .int .i64 (m : Nat)] w fun x w' => ∃ (Ab : Option Addr) (cb : Nat) (ys : List Int), x = .returned (.slice Ab m cb) ∧ Nums .u8 w' Ab m cb ys ∧ (∀ b, Ab = some b → b.block ≠ g) ∧
      (okS bad (decide (at' + m ≤ n)) 10 ≠ 0 → ys = List.replicate m 0 ∧ CAt w' g A n c xs at' (okS bad (decide (at' + m ≤ n)) 10)) ∧ (okS bad (decide (at' + m ≤ n)) 10 = 0 → ys = (xs.drop at').take m ∧ at' + m ≤ n ∧ CAt w' g A n c xs (at' + m) 0) ∧ Keeps (fun k => k = g) w w' := by
  have H := Lib.hid h
  have hmi : (m : Int) ≤ 16 := by omega
  obtain ⟨d, hd⟩ : ∃ d, d = n - at' := ⟨_, rfl⟩
  have hdi : (n : Int) - (at' : Int) = (d : Int) := by have := h.le; omega
  have hdb : (d : Int) ≤ 140737488355328 := by have := h.small; omega
  have hni : (n : Int) ≤ 140737488355328 := by have := h.small; omega
  have hai : (at' : Int) ≤ 140737488355328 := by have := h.small; have := h.le; omega
  obtain ⟨is, his⟩ : ∃ is, is = decide (at' + m ≤ n) := ⟨_, rfl⟩
  have hisd : decide ((m : Int) ≤ (d : Int)) = is := by rw [his]; exact decide_eq_decide.2 (by have := h.le; omega)
  have hisn : decide (m ≤ d) = is := by rw [his]; exact decide_eq_decide.2 (by have := h.le; omega)
  rw [← his]
  have HI := Lib.hid (And.intro his (And.intro hm1 hm))
  clear h hd his hm hm1
  go_enter Try.func87, Try.ntmps87
  go_wp2_with fail
  have d0 := blk_cell H.out.blk 0
  have d1 := blk_cell H.out.blk 1
  simp at d0 d1
  have hwd : IntKind.i64.wrap (d : Int) = (d : Int) := by rw [IntKind.wrap_i64]; omega
  go_still_tail 13, (by kernel_rfl)
  change wpList _ _ _ _ _ w.drew
  have H1 : Hid (CAt w.drew g A n c xs at' bad) := H.out.grow ((Keeps.refl _ w).drew)
  have HKd : Hid (Grow w w.drew) := (Keeps.refl _ w).drew
  clear d0 d1 hwd
  generalize w.drew = w1 at *
  go_wp2_with fail
  refine (cok_is w1 g n c at' bad 10 A xs is H1.out (by decide) (by decide)).mono ?_
  rintro x w2 ⟨rfl, hc2, hk2⟩
  obtain ⟨b2, hb2⟩ : ∃ b2, b2 = okS bad is 10 := ⟨_, rfl⟩
  rw [← hb2] at hc2 ⊢
  have HC2 := Lib.hid hc2
  have HK2 : Hid (Keeps (fun k => k = g) w w2) := Keeps.trans (gk HKd.out) hk2 fun _ _ h => h
  have HB2 := Lib.hid hb2
  clear hc2 hk2 hb2 H1 HKd
  by_cases hb : b2 = 0
  · have hdb : decide (b2 = 0) = true := decide_eq_true hb
    rw [hdb]
    have hfit : is = true ∧ bad = 0 := by
      have h1 := HB2.out
      unfold okS at h1
      split at h1
      · omega
      · rename_i h2
        refine ⟨?_, by omega⟩
        cases is
        · exact absurd ⟨by omega, rfl⟩ h2
        · rfl
    have hle : at' + m ≤ n := of_decide_eq_true (by rw [← HI.out.1]; exact hfit.1)
    subst hb
    obtain ⟨at2, hat2⟩ : ∃ at2, at2 = at' + m := ⟨_, rfl⟩
    have ha2 : (at' : Int) + (m : Int) = (at2 : Int) := by omega
    have ha3 : (at2 : Int) - (m : Int) = (at' : Int) := by omega
    have ha4 : (at2 : Int) ≤ 140737488355328 := by have := HC2.out.small; omega
    have HLE : Hid (at2 = at' + m ∧ at' + m ≤ n) := ⟨hat2, hle⟩
    have d0 := blk_cell HC2.out.blk 0
    have d1 := blk_cell HC2.out.blk 1
    have f1 := blk_frozen HC2.out.blk 1
    simp at d0 d1
    clear hfit hle hat2 hisd hisn hdi hdb
    go_upto_region 4 with fail
    have hst := blk_set HC2.out.blk 1 (.int .i64 (at2 : Nat))
    simp at hst
    have hk4 : Keeps (fun k => k = g) w2 (w2.setCell ⟨g, 1, none⟩ (.int .i64 (at2 : Nat))) := Keeps.setCell (S := fun k => k = g) (Keeps.refl _ w2) (p := ⟨g, 1, none⟩) (fun _ => rfl) _
    have HC4 := Lib.hid (HC2.out.moved at2 0 (by have := HLE.out; omega) (by decide) hk4 hst)
    have HK4 : Hid (Keeps (fun k => k = g) w (w2.setCell ⟨g, 1, none⟩ (.int .i64 (at2 : Nat)))) := Keeps.trans HK2.out hk4 fun _ _ h => h
    clear d0 d1 f1 hst hk4 HC2 HK2
    generalize w2.setCell ⟨g, 1, none⟩ (.int .i64 (at2 : Nat)) = w4 at *
    have d0 := blk_cell HC4.out.blk 0
    have d1 := blk_cell HC4.out.blk 1
    simp at d0 d1
    obtain ⟨Ab, hAb⟩ : ∃ Ab, Ab = Nums.off A c at' := ⟨_, rfl⟩
    have hsl : ∀ w : World, (Instr.slice 51 (.slice A n c) (some (.int .i64 (at' : Nat))) (some (.int .i64 (at2 : Nat))) none).run Try.prog w = .ok (.slice Ab m (c - at')) w := fun w => by
      have h9 := run_mid (P := Try.prog) (t := 51) Try.underlying51 rfl rfl A n c at' at2 (by have := HLE.out; omega) (by have := HC4.out.nums.cap; have := HLE.out; omega) w
      rw [h9, hAb, show at2 - at' = m by have := HLE.out; omega]
    have HNb : Hid (Nums .u8 w4 Ab m (c - at') ((xs.drop at').take m)) := by
      show Nums _ _ _ _ _ _
      rw [hAb]
      exact (HC4.out.nums.drop at' (by have := HLE.out; omega)).take m (by have := HLE.out; omega)
    have HAb := Lib.hid hAb
    clear hAb
    go_wp2_with fail
    go_quiet (fail)
    go_wp2_with fail
    go_ret
    refine ⟨Ab, c - at', (xs.drop at').take m, rfl, HNb.out.grow ((Keeps.refl _ _).drewN _), fun b hb => ?_, fun h => absurd HB2.out.symm h, fun _ => ⟨rfl, HLE.out.2, ?_⟩, HK4.out.drewN _⟩
    · have h1 := off_le (c := c) (m := at') HC4.out.ne b (by rw [← HAb.out]; exact hb)
      omega
    · have h9 := HLE.out.1
      rw [← h9]
      exact HC4.out.grow ((Keeps.refl _ _).drewN _)
  · have hdb : decide (b2 = 0) = false := decide_eq_false hb
    rw [hdb]
    have HNB := Lib.hid hb
    have hm16 : m ≤ 16 := HI.out.2.2
    clear hdb hb
    go_wp2_with (at_make; refine wpList_make rfl (.tmp 20) (.tmp 20) 51 5 rfl Try.underlying51 Try.infoU8l rfl m rfl rfl (by omega) (by unfold maxLen; omega) ?_)
    intro w5 ho5 hg5 _
    have HN5 : Hid (Nums .u8 w5 (some ⟨w2.heap.size, 0, none⟩) m m (List.replicate m 0)) := Nums.of_own (by rw [List.map_replicate]; exact ho5) (fun x hx => by rw [(List.mem_replicate.1 hx).2]; exact mk_u8 (by decide) (by decide))
    have HC5 := Lib.hid (HC2.out.grow hg5)
    have HK5 : Hid (Keeps (fun k => k = g) w w5) := Keeps.trans HK2.out hg5 fun _ _ h => h.elim
    have HGB := Lib.hid (blk_lt HC2.out.blk)
    clear ho5 hg5
    go_wp2_with fail
    go_ret
    refine ⟨some ⟨w2.heap.size, 0, none⟩, m, _, rfl, HN5.out, fun b hb => ?_, fun _ => ⟨rfl, by rw [← HB2.out]; exact HC5.out⟩, fun h => absurd (HB2.out.trans h) HNB.out, HK5.out⟩
    injection hb with hb
    rw [← hb]
    have := HGB.out
    show w2.heap.size ≠ g
    omega
end Go.Proofs.Ytoeapobpdfidkaa
