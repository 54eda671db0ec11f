/- The document's decoder: settle. -/
import Derived.Test.YtiikbpcaeoodjaaRdS
namespace Go.Proofs.Ytiikbpcaeoodjaa
open Go.RowKit
set_option linter.unusedVariables false
set_option linter.unusedSimpArgs false

/-- What a call on the document's decoder leaves. -/
def RDecTo (w : World) (g : Nat) (vc : Value) (BB : Nat → Prop) (A : Option Addr) (m c : Nat) (xs : List Int) (d : Dec) (w' : World) : Prop := ∃ p, RDecAt w' g vc BB A m c xs p d ∧ Keeps (fun k => k = g) w w'
def RDecTo2 (w : World) (g : Nat) (vc : Value) (BB : Nat → Prop) (A : Option Addr) (m c : Nat) (xs : List Int) (d : Dec) (w' : World) : Prop := ∃ p, RDecAt w' g vc BB A m c xs p d ∧ Keeps (fun k => k = g ∨ vc.ownBlock = some k) w w'

set_option maxRecDepth 100000 in
set_option maxHeartbeats 4000000 in
theorem rSettle_no (w : World) (g : Nat) (vc : Value) (BB : Nat → Prop) (A : Option Addr) (m c : Nat) (xs : List Int) (p : Nat) (d : Dec) (h : RDecAt w g vc BB A m c xs p d) (hw : 16777216 ≤ d.width) :
    Calls Try.prog 59 #[.pointer (some ⟨g, 0, none⟩)] w fun e' w' => e' = .returned (.tuple #[]) ∧ w' = w := by
  have d1 := blk_cell h.blk 1
  simp at d1
  generalize d.width = width at *
  have hl2 : decide ((width : Int) < 16777216) = false := by simp; omega
  clear h hw
  go_enter Try.func59, Try.ntmps59
  go_wp2_with fail
  go_loopw [] (fun wr => wr = w) (fun _ => 0)
  case atStart => rfl
  case round =>
    obtain rfl := hrel
    go_wp2_with fail
    go_end0
    exact ⟨rfl, rfl⟩
set_option maxRecDepth 100000 in
set_option maxHeartbeats 4000000 in
theorem rSettle_end (w : World) (g : Nat) (vc : Value) (BB : Nat → Prop) (A : Option Addr) (m c : Nat) (xs : List Int) (p : Nat) (d : Dec) (h : RDecAt w g vc BB A m c xs p d) (hw : d.width < 16777216) (ho : d.over = false) (hr : d.rest = []) :
    Calls Try.prog 59 #[.pointer (some ⟨g, 0, none⟩)] w fun e' w' => e' = .returned (.tuple #[]) ∧ RDecTo w g vc BB A m c xs { d with over := true } w' := by
  obtain ⟨ch, width, code, rest, over⟩ := d
  simp only at hw ho hr
  subst ho hr
  obtain rfl : p = m := by have := h.len; simpa using this
  have H := Lib.hid h
  have d1 := blk_cell h.blk 1
  have d5 := blk_cell h.blk 5
  simp at d1 d5
  have hl2 : decide ((width : Int) < 16777216) = true := by simp; omega
  clear h hw
  go_enter Try.func59, Try.ntmps59
  go_wp2_with fail
  go_loopw [] (fun wr => wr = w) (fun _ => 0)
  case atStart => rfl
  case round =>
    obtain rfl := hrel
    go_wp2_with fail
    refine wp_region_seq (by kernel_rfl) (by kernel_rfl) ?_
    have HEd := Lib.hid H.out.drew
    have HKd : Hid (Grow wr wr.drew) := (Keeps.refl _ wr).drew
    clear d1 d5 H
    generalize wr.drew = wd at *
    have d3 := blk_cell HEd.out.blk 3
    have d4 := blk_cell HEd.out.blk 4
    have d5 := blk_cell HEd.out.blk 5
    have f5 := blk_frozen HEd.out.blk 5
    simp at d3 d4 d5
    go_wp2_with fail
    refine ⟨by kernel_rfl, ?_⟩
    go_wp2_with fail
    have hk9 := (Keeps.refl (fun k => k = g) wd).setCell (p := ⟨g, 5, none⟩) (fun _ => rfl) (.bool true)
    refine bodyPost_ret (results_none rfl _ _ _) rfl ⟨rfl, p, HEd.out.re (d' := ⟨ch, width, code, [], true⟩) hk9 (blk_set HEd.out.blk 5 (.bool true)) rfl (by simp) HEd.out.rest, Keeps.trans (gk HKd.out) hk9 fun _ _ h => h⟩
set_option maxRecDepth 100000 in
set_option maxHeartbeats 4000000 in
theorem rSettle_one (w : World) (g : Nat) (vc : Value) (BB : Nat → Prop) (A : Option Addr) (m c : Nat) (xs : List Int) (p : Nat) (d : Dec) (h : RDecAt w g vc BB A m c xs p d) (hw : d.width < 16777216) (ht : 65536 ≤ d.width) (hc : d.code < 4294967296) (ho : d.over = false) (x : Nat) (r : List Nat) (hr : d.rest = x :: r) (hm : m ≤ 140737488355328) :
    Calls Try.prog 59 #[.pointer (some ⟨g, 0, none⟩)] w fun e' w' => e' = .returned (.tuple #[]) ∧ RDecTo w g vc BB A m c xs { d with width := d.width * 256, code := (d.code * 256 + x) % 4294967296, rest := r } w' := by
  obtain ⟨ch, width, code, rest, over⟩ := d
  simp only at hw ht hc ho hr
  subst ho hr
  have hpm : p + (r.length + 1) = m := by have := h.len; simpa using this
  have hxl := h.bs.len
  have hdr := h.rest
  simp only at hdr
  have hx0 : xs.getD p 0 = (x : Int) := by
    have h1 : (toN (xs.drop p)).getD 0 0 = x := by rw [← hdr]; rfl
    have h2 := (h.bs.byte p).1
    simp [toN, List.getD_eq_getElem?_getD, List.getElem?_drop] at h1 h2 ⊢
    rw [← h1]
    cases hq : xs[p]? with
    | none => simp
    | some y => rw [hq] at h2; simp at h2 ⊢; omega
  have hxb : x < 256 := by have := (h.bs.byte p).2; rw [hx0] at this; omega
  have hdr1 : r = toN (xs.drop (p + 1)) := by
    have h1 : (toN (xs.drop p)).tail = r := by rw [← hdr]; rfl
    rw [← h1]
    rw [show xs.drop (p + 1) = (xs.drop p).drop 1 by rw [List.drop_drop]]
    cases xs.drop p <;> rfl
  obtain ⟨b, o, rfl, hcl⟩ := h.bs.at_ (by omega)
  have hcx := hcl p (by omega)
  rw [hx0] at hcx
  obtain ⟨C, hC⟩ : ∃ C, C = (code * 256 + x) % 4294967296 := ⟨_, rfl⟩
  rw [← hC]
  have eC : ((code : Int) * 256 + (x : Int)) % 4294967296 = (C : Int) := by omega
  have H := Lib.hid h
  have HF := Lib.hid (And.intro hw (And.intro ht (And.intro hc (And.intro hpm (And.intro hdr1 hC)))))
  have d1 := blk_cell h.blk 1
  have d5 := blk_cell h.blk 5
  simp at d1 d5
  have hl2 : decide ((width : Int) < 16777216) = true := by simp; omega
  obtain ⟨D, hD⟩ : ∃ D : Dec, D = ⟨ch, width * 256, C, r, false⟩ := ⟨_, rfl⟩
  show Calls _ _ _ _ fun e' w' => e' = .returned (.tuple #[]) ∧ RDecTo w g vc BB (some ⟨b, o, none⟩) m c xs ⟨ch, width * 256, C, r, false⟩ w'
  rw [← hD]
  have HD := Lib.hid hD
  have hpi : ¬ (p : Int) = (m : Int) := by omega
  have hpi2 : ((p : Int) == (m : Int)) = false := by rw [beq_eq_false_iff_ne]; omega
  have hwi : (width : Int) * 256 < 4294967296 := by omega
  have hci : (code : Int) * 256 < 1099511627776 := by omega
  have hxi : (x : Int) < 256 := by omega
  have HCX := Lib.hid hcx
  clear h hw ht hc hpm hdr1 hC hD hxb hx0 hxl hdr hcl hcx
  go_enter Try.func59, Try.ntmps59
  go_wp2_with fail
  clear d1 d5
  go_loopw [] (fun wr => ∃ (p1 : Nat) (d1 : Dec), Hid (RDecAt wr g vc BB (some ⟨b, o, none⟩) m c xs p1 d1) ∧ Hid ((p1 = p ∧ d1 = ⟨ch, width, code, x :: r, false⟩) ∨ d1 = D) ∧ Hid (Keeps (fun k => k = g) w wr)) (fun wr => wid (wr.cell? ⟨g, 1, none⟩))
  case atStart => exact ⟨p, _, H.out, .inl ⟨rfl, rfl⟩, Keeps.refl _ _⟩
  case round =>
    obtain ⟨p1, d1, H1, HX, HK⟩ := hrel
    by_cases hdd : d1 = D
    · subst hdd
      have d1' := blk_cell H1.out.blk 1
      simp only [HD.out] at d1'
      simp at d1'
      have hl3 : decide ((width : Int) * 256 < 16777216) = false := by have := HF.out.2.1; simp; omega
      clear hl2
      go_wp2_with fail
      go_end0
      exact ⟨rfl, p1, H1.out, HK.out⟩
    · obtain ⟨rfl, rfl⟩ : p1 = p ∧ d1 = ⟨ch, width, code, x :: r, false⟩ := by
        rcases HX.out with h | h
        · exact h
        · exact absurd h hdd
      clear hdd HX
      have d1 := blk_cell H1.out.blk 1
      have d5 := blk_cell H1.out.blk 5
      simp at d1 d5
      go_wp2_with fail
      refine wp_region_seq (by kernel_rfl) (by kernel_rfl) ?_
      have HEd := Lib.hid H1.out.drew
      have HKd : Hid (Keeps (fun k => k = g) w wr.drew) := HK.out.drew
      have HD1 := Lib.hid d1
      clear d1 d5 H1 HK
      generalize wr.drew = wd at *
      have d1 := blk_cell HEd.out.blk 1
      have d3 := blk_cell HEd.out.blk 3
      have d4 := blk_cell HEd.out.blk 4
      have f1 := blk_frozen HEd.out.blk 1
      simp at d1 d3 d4
      go_wp2_with fail
      refine ⟨by kernel_rfl, ?_⟩
      go_wp2_with fail
      have hk1 := (Keeps.refl (fun k => k = g) wd).setCell (p := ⟨g, 1, none⟩) (fun _ => rfl) (.int .u64 ((width : Int) * 256))
      have HE2 : Hid (RDecAt (wd.setCell ⟨g, 1, none⟩ (.int .u64 ((width : Int) * 256))) g vc BB (some ⟨b, o, none⟩) m c xs p1 ⟨ch, width * 256, code, x :: r, false⟩) := HEd.out.re (d' := ⟨ch, width * 256, code, x :: r, false⟩) hk1 (blk_set HEd.out.blk 1 (.int .u64 ((width : Int) * 256))) rfl HEd.out.len HEd.out.rest
      have HK2 : Hid (Keeps (fun k => k = g) w (wd.setCell ⟨g, 1, none⟩ (.int .u64 ((width : Int) * 256)))) := Keeps.trans HKd.out hk1 fun _ _ h => h
      clear hk1 d1 d3 d4 f1 HEd HKd
      generalize wd.setCell ⟨g, 1, none⟩ (.int .u64 ((width : Int) * 256)) = w2 at *
      refine wp_region_seq (by kernel_rfl) (by kernel_rfl) ?_
      have HE3 := Lib.hid HE2.out.drew
      have HK3 : Hid (Keeps (fun k => k = g) w w2.drew) := HK2.out.drew
      clear HE2 HK2
      generalize w2.drew = we at *
      have d2 := blk_cell HE3.out.blk 2
      have d3 := blk_cell HE3.out.blk 3
      have d4 := blk_cell HE3.out.blk 4
      have f2 := blk_frozen HE3.out.blk 2
      have f4 := blk_frozen HE3.out.blk 4
      simp at d2 d3 d4
      have hcx := ckp HCX.out HK3.out (fun h9 => HE3.out.ng (h9 ▸ HE3.out.rb b o rfl))
      have hpm : (p1 : Int) < (m : Int) := by have := HF.out.2.2.2.1; omega
      have hpb : (p1 : Int) < 140737488355328 := by omega
      go_wp2_with fail
      refine ⟨by kernel_rfl, ?_⟩
      go_wp2_with fail
      have hk6 := ((Keeps.refl (fun k => k = g) we).setCell (p := ⟨g, 2, none⟩) (fun _ => rfl) (.int .u64 (C : Nat))).setCell (p := ⟨g, 4, none⟩) (fun _ => rfl) (.int .i64 ((p1 : Int) + 1))
      have HE6 : Hid (RDecAt ((we.setCell ⟨g, 2, none⟩ (.int .u64 (C : Nat))).setCell ⟨g, 4, none⟩ (.int .i64 ((p1 : Int) + 1))) g vc BB (some ⟨b, o, none⟩) m c xs (p1 + 1) D) := by
        show RDecAt _ _ _ _ _ _ _ _ _ _
        rw [HD.out]
        exact HE3.out.re (d' := ⟨ch, width * 256, C, r, false⟩) (q := p1 + 1) hk6 (blk_set (blk_set HE3.out.blk 2 (.int .u64 (C : Nat))) 4 (.int .i64 ((p1 : Int) + 1))) rfl (by have := HF.out.2.2.2.1; simp only; omega) HF.out.2.2.2.2.1
      have HK6 : Hid (Keeps (fun k => k = g) w ((we.setCell ⟨g, 2, none⟩ (.int .u64 (C : Nat))).setCell ⟨g, 4, none⟩ (.int .i64 ((p1 : Int) + 1)))) := Keeps.trans HK3.out hk6 fun _ _ h => h
      have hme : wid (((we.setCell ⟨g, 2, none⟩ (.int .u64 (C : Nat))).setCell ⟨g, 4, none⟩ (.int .i64 ((p1 : Int) + 1))).cell? ⟨g, 1, none⟩) = 4294967296 - width * 256 := by
        have h9 := blk_cell HE6.out.blk 1
        simp only [HD.out] at h9
        simp at h9
        rw [h9]
        exact wid_int .u64 (width * 256)
      have HME := Lib.hid hme
      clear hk6 hme d2 d3 d4 f2 f4 hcx
      generalize ((we.setCell ⟨g, 2, none⟩ (.int .u64 (C : Nat))).setCell ⟨g, 4, none⟩ (.int .i64 ((p1 : Int) + 1))) = w6 at *
      go_roundw
      case rel => exact ⟨p1 + 1, D, HE6.out, .inr rfl, HK6.out⟩
      case measure => rw [HME.out, HD1.out, wid_int]; have h1 := HF.out.1; have h2 := HF.out.2.1; omega
theorem rSettle_is (w : World) (g : Nat) (vc : Value) (BB : Nat → Prop) (A : Option Addr) (m c : Nat) (xs : List Int) (p : Nat) (d : Dec) (h : RDecAt w g vc BB A m c xs p d) (ht : 65536 ≤ d.width) (hc : d.code < 4294967296) (ho : d.over = false) (hm : m ≤ 140737488355328) :
    Calls Try.prog 59 #[.pointer (some ⟨g, 0, none⟩)] w fun e' w' => e' = .returned (.tuple #[]) ∧ RDecTo w g vc BB A m c xs d.settle w' := by
  by_cases hw : d.width < 16777216
  · cases hr : d.rest with
    | nil =>
      rw [show d.settle = { d with over := true } by simp only [Dec.settle, hr]; rw [if_pos hw]]
      exact rSettle_end w g vc BB A m c xs p d h hw ho hr
    | cons x r =>
      rw [show d.settle = { d with width := d.width * 256, code := (d.code * 256 + x) % 4294967296, rest := r } by simp only [Dec.settle, hr]; rw [if_pos hw]]
      exact rSettle_one w g vc BB A m c xs p d h hw ht hc ho x r hr hm
  · rw [show d.settle = d by rw [Dec.settle, if_neg hw]]
    refine (rSettle_no w g vc BB A m c xs p d h (by omega)).mono ?_
    rintro e w' ⟨rfl, rfl⟩
    exact ⟨rfl, p, h, Keeps.refl _ _⟩
end Go.Proofs.Ytiikbpcaeoodjaa
