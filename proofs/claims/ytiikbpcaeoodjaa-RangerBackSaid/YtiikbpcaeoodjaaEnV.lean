/- The encoder: Set. -/
import Derived.Test.YtiikbpcaeoodjaaEnT
import Derived.Test.YtiikbpcaeoodjaaIdxF
namespace Go.Proofs.Ytiikbpcaeoodjaa
open Go.RowKit
set_option linter.unusedVariables false
set_option linter.unusedSimpArgs false

/-- No chance. -/
def noCh (p : Int) : Bool := decide (p < 31 ∨ 2017 < p)
/-- May numbers be n chances? -/
def fitB (xs : List Int) (n : Nat) : Bool := decide (xs.length = n) && !(xs.any noCh)
theorem noCh_tells (w : World) : Tells Try.prog w (.func (.func 67) #[] #[]) noCh :=
  ⟨67, #[], rfl, fun args w' => by go_simp, fun x hx => by
    have hx := inKind_i64 hx
    have hB : noCh x = decide (x < 31 ∨ 2017 < x) := rfl
    generalize noCh x = B at *
    by_cases h0 : x < 31
    · obtain rfl : B = true := by rw [hB]; simp; omega
      clear hB
      go_enter Try.func67, Try.ntmps67
      go_wp2_with fail
      go_ret
      exact ⟨rfl, rfl⟩
    · obtain rfl : B = decide (2017 < x) := by rw [hB]; simp; omega
      clear hB
      go_enter Try.func67, Try.ntmps67
      go_wp2_with fail
      go_ret
      exact ⟨rfl, rfl⟩⟩
/-- The chances that numbers are. -/
def toN (xs : List Int) : List Nat := xs.map Int.toNat
theorem fit_ok {xs : List Int} {n : Nat} (h : fitB xs n = true) : xs.length = n ∧ (∀ x ∈ xs, 31 ≤ x ∧ x ≤ 2017) ∧ chOk (toN xs) ∧ toI (toN xs) = xs := by
  simp only [fitB, Bool.and_eq_true, decide_eq_true_eq, Bool.not_eq_true'] at h
  obtain ⟨h1, h2⟩ := h
  have h3 : ∀ x ∈ xs, 31 ≤ x ∧ x ≤ 2017 := fun x hx => by
    have h9 := List.any_eq_false.1 h2 x hx
    simp [noCh] at h9
    omega
  refine ⟨h1, h3, fun p hp => ?_, ?_⟩
  · obtain ⟨x, hx, rfl⟩ := List.mem_map.1 hp
    have := h3 x hx
    omega
  · simp only [toI, toN, List.map_map]
    conv => rhs; rw [← List.map_id xs]
    refine List.map_congr_left fun x hx => ?_
    have := h3 x hx
    simp only [Function.comp, id]
    omega

set_option maxRecDepth 8000 in
set_option maxHeartbeats 2000000 in
theorem set_no (w : World) (gc cc n : Nat) (A : Option Addr) (m c : Nat) (xs : List Int) (hx : Nums .i64 w A m c xs) (hm : m ≤ 140737488355328) (hf : fitB xs n = false) :
    Calls Try.prog 53 #[.slice (some ⟨gc, 0, none⟩) n cc, .slice A m c] w fun e' w' => e' = .returned (.int .i64 2) ∧ w = w' := by
  have HC := Lib.hid (containsFunc_is w A m c xs _ noCh hx hm (noCh_tells w))
  have hl := hx.len
  by_cases hmn : m = n
  · have hany : xs.any noCh = true := by
      simp only [fitB, hl, hmn, decide_true, Bool.true_and] at hf
      simpa using hf
    rw [hany] at HC
    subst hmn
    clear hf hany hl hx
    go_enter Try.func53, Try.ntmps53
    go_wp2_with fail
    refine HC.out.mono ?_
    rintro x w1 ⟨rfl, rfl⟩
    go_wp2_with fail
    go_ret
    exact ⟨rfl, rfl⟩
  · have hne : ((m : Int) != (n : Int)) = true := by simp; omega
    clear hf hl hx hmn
    go_enter Try.func53, Try.ntmps53
    go_wp2_with fail
    go_ret
    exact ⟨rfl, rfl⟩

set_option maxRecDepth 8000 in
set_option maxHeartbeats 2000000 in
theorem set_yes (w : World) (gc cc n : Nat) (ch : List Nat) (h : w.ownsRow 0 88 1 (.slice (some ⟨gc, 0, none⟩) n cc) n (u16s ch)) (A : Option Addr) (m c : Nat) (xs : List Int) (hx : Nums .i64 w A m c xs) (hm : m ≤ 140737488355328) (hf : fitB xs n = true)
    (hne : ∀ b o, A = some ⟨b, o, none⟩ → b ≠ gc) :
    Calls Try.prog 53 #[.slice (some ⟨gc, 0, none⟩) n cc, .slice A m c] w fun e' w' => e' = .returned (.int .i64 0) ∧ w'.ownsRow 0 88 1 (.slice (some ⟨gc, 0, none⟩) n cc) n (u16s (toN xs)) ∧ Keeps (fun k => k = gc) w w' := by
  have HC := Lib.hid (containsFunc_is w A m c xs _ noCh hx hm (noCh_tells w))
  have hl := hx.len
  obtain ⟨hl2, hr, _, _⟩ := fit_ok hf
  have hany : xs.any noCh = false := by
    simp only [fitB, Bool.and_eq_true, Bool.not_eq_true'] at hf
    exact hf.2
  rw [hany] at HC
  obtain rfl : n = m := by omega
  have HR := Lib.hid hr
  have HL := Lib.hid hl
  have HX := Lib.hid hx
  have H := Lib.hid h
  have HNE := Lib.hid hne
  have hlc : ch.length = n := by have := h.1; rw [u16s_len] at this; omega
  have HLC := Lib.hid hlc
  clear hf hany hl hl2 hr hx h hne hlc
  go_enter Try.func53, Try.ntmps53
  go_wp2_with fail
  refine HC.out.mono ?_
  rintro x w1 ⟨rfl, rfl⟩
  go_wp2_with fail
  go_loopw [18] (fun vi wr => ∃ (i : Nat) (ch2 : List Nat), i ≤ n ∧ vi = .int .i64 i ∧ Hid (wr.ownsRow 0 88 1 (.slice (some ⟨gc, 0, none⟩) n cc) n (u16s ch2)) ∧ Hid (ch2 = toN (xs.take i) ++ ch.drop i) ∧ Hid (Keeps (fun k => k = gc) w wr)) (fun vi _ => n - (intOf vi).toNat)
  case atStart => exact ⟨0, ch, by omega, rfl, H.out, by simp [Hid, toN], Keeps.refl _ _⟩
  case round =>
    obtain ⟨i, ch2, hi, rfl, HO, HE, HK⟩ := hrel
    by_cases hin : i < n
    · have hxw := HX.out.keep HK.out (fun b o e => HNE.out b o e)
      obtain ⟨bx, ox, rfl, hcell⟩ := hxw.at_ (by omega)
      have hc := hcell i hin
      have hxr := HR.out (xs.getD i 0) (by simp [List.getD_eq_getElem?_getD, show i < xs.length by rw [HL.out]; exact hin])
      obtain ⟨p, hp⟩ : ∃ p : Nat, xs.getD i 0 = (p : Int) := ⟨(xs.getD i 0).toNat, by omega⟩
      have HP := Lib.hid hp
      rw [hp] at hc hxr
      have hcl : ch2.length = n := by have := HO.out.1; rw [u16s_len] at this; omega
      have hcc := HO.out.cellAt i (by omega)
      have hff := HO.out.frozenAt i
      rw [u16s_get ch2 i (by omega)] at hcc
      have hp1 : (p : Int) < 65536 := by omega
      have HSET : Hid (ch2.set i p = toN (xs.take (i + 1)) ++ ch.drop (i + 1)) := by
        show _ = _
        rw [HE.out]
        have hli : (toN (xs.take i)).length = i := by simp [toN, HL.out]; omega
        rw [List.set_append_right _ _ (by omega), hli, Nat.sub_self, List.drop_eq_getElem_cons (by rw [HLC.out]; exact hin), List.set_cons_zero]
        rw [List.take_succ_eq_append_getElem (by rw [HL.out]; exact hin)]
        have e9 : xs[i]'(by rw [HL.out]; exact hin) = (p : Int) := by
          rw [← HP.out]; simp [List.getD_eq_getElem?_getD, show i < xs.length by rw [HL.out]; exact hin]
        simp [toN, e9]
      clear hcell hxw hp hcl hxr
      go_wp2_with fail
      go_roundw
      case rel => exact ⟨i + 1, ch2.set i p, by omega, by go_num, by
        show World.ownsRow _ _ _ _ _ _ _
        rw [← u16s_set]
        exact (HO.out.stored i (.int .u16 (p : Nat))).1, HSET.out, HK.out.setCell (p := ⟨gc, i, none⟩) (fun _ => rfl) _⟩
      case measure => simp [intOf]; omega
    · obtain rfl : n = i := by omega
      have h9 := HE.out
      rw [List.take_of_length_le (by rw [HL.out]; exact Nat.le_refl _), List.drop_eq_nil_of_le (by rw [HLC.out]; exact Nat.le_refl _), List.append_nil] at h9
      subst h9
      go_wp2_with fail
      go_ret
      exact ⟨rfl, HO.out, HK.out⟩
/-- Set. -/
theorem setE_bad (w : World) (g gc cc : Nat) (vo : Value) (e : Enc) (h : EncAt w g gc cc vo e) (A : Option Addr) (m c : Nat) (xs : List Int) (hx : Nums .i64 w A m c xs) (hm : m ≤ 140737488355328) (hf : fitB xs e.ch.length = false) :
    Calls Try.prog 23 #[.pointer (some ⟨g, 0, none⟩), .slice A m c] w fun e' w' => e' = .returned (.int .i64 2) ∧ w = w' := by
  have HN := Lib.hid (none_is w g gc cc vo e h)
  have HS := Lib.hid (set_no w gc cc e.ch.length A m c xs hx hm hf)
  have d1 := blk_cell h.blk 1
  simp at d1
  clear h hx hf
  go_enter Try.func23, Try.ntmps23
  go_wp2_with fail
  refine HN.out.mono ?_
  rintro x w1 ⟨rfl, rfl⟩
  go_wp2_with fail
  refine HS.out.mono ?_
  rintro x w1 ⟨rfl, rfl⟩
  go_wp2_with fail
  go_ret
  exact ⟨rfl, rfl⟩
theorem setE_is (w : World) (g gc cc : Nat) (vo : Value) (e : Enc) (h : EncAt w g gc cc vo e) (hok : e.Ok) (A : Option Addr) (m c : Nat) (xs : List Int) (hx : Nums .i64 w A m c xs) (hm : m ≤ 140737488355328) (hf : fitB xs e.ch.length = true) (hne : ∀ b o, A = some ⟨b, o, none⟩ → b ≠ gc) :
    Calls Try.prog 23 #[.pointer (some ⟨g, 0, none⟩), .slice A m c] w fun e' w' => e' = .returned (.int .i64 0) ∧ EncTo2 w g gc cc vo { e with ch := toN xs } w' ∧ ({ e with ch := toN xs } : Enc).Ok ∧ (toN xs).length = e.ch.length := by
  have HN := Lib.hid (none_is w g gc cc vo e h)
  have HS := Lib.hid (set_yes w gc cc e.ch.length e.ch h.chs A m c xs hx hm hf hne)
  obtain ⟨hl, hr, hch, _⟩ := fit_ok hf
  have d1 := blk_cell h.blk 1
  simp at d1
  have H := Lib.hid h
  have HOK : Hid (({ e with ch := toN xs } : Enc).Ok ∧ (toN xs).length = e.ch.length) := ⟨⟨hch, hok.sum, hok.width, hok.top, hok.kept, hok.waiting, hok.out⟩, by simp [toN, hl]⟩
  clear h hx hf hok hch hr hl hne
  go_enter Try.func23, Try.ntmps23
  go_wp2_with fail
  refine HN.out.mono ?_
  rintro x w1 ⟨rfl, rfl⟩
  go_wp2_with fail
  refine HS.out.mono ?_
  rintro x w1 ⟨rfl, ho, hk⟩
  have HO := Lib.hid ho
  have HK := Lib.hid hk
  clear ho hk HS
  go_wp2_with fail
  go_ret
  refine ⟨rfl, ⟨vo, ?_, HK.out.mono (fun _ _ h => .inr (.inl h)), Moved.refl _ _⟩, HOK.out.1, HOK.out.2⟩
  obtain ⟨ch, low, width, kept, waiting, out⟩ := e
  exact enc_aft H.out HO.out HK.out
end Go.Proofs.Ytiikbpcaeoodjaa
