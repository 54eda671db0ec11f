/- suffix.Next, the document's. -/
import Derived.Test.YteccmnjcmmbhlaaNxP
import Derived.Test.YteccmnjcmmbhlaaSym
namespace Go.Proofs.Yteccmnjcmmbhlaa
open Go.RowKit
set_option linter.unusedVariables false
set_option linter.unusedSimpArgs false

def nextR (xs : List Int) : List Int × Int := if 1048576 < xs.length then ([], 3) else (nextL xs, 0)
theorem meas {m i : Nat} (h : i < m) : m - (intOf (Value.int .i64 ((i : Int) + 1))).toNat < m - (intOf (Value.int .i64 (i : Int))).toNat := by simp [intOf]; omega
theorem drop_in (xs : List Int) (i : Nat) (h : i < xs.length) : xs.drop i = xs.getD i 0 :: xs.drop (i + 1) := by
  rw [List.drop_eq_getElem_cons h]
  simp [List.getD_eq_getElem?_getD, h]

set_option maxRecDepth 4000 in
set_option maxHeartbeats 2000000 in
theorem refNext_is (w : World) (A : Option Addr) (n c : Nat) (xs : List Int) (h : Nums .u8 w A n c xs) (hn : n ≤ 9223372036854775807) :
    Calls Try.prog 12 #[.slice A n c] w fun e w' => ∃ A' c' k, e = .returned (.tuple #[.slice A' k c', .int .i64 (nextR xs).2]) ∧ w'.ownsRow w.heap.size 3 1 (.slice A' k c') k ((nextR xs).1.map (Value.int .i64)) ∧ Grow w w' := by
  have HL := Lib.hid h.len
  have hR : Hid (nextR xs = if 1048576 < n then ([], 3) else (nextL xs, 0)) := by show _ = _; rw [nextR, h.len]
  have H := Lib.hid h
  generalize nextR xs = R at *
  clear h
  by_cases h1 : 1048576 < n
  · have hR2 : R = ([], 3) := by rw [hR.out, if_pos h1]
    subst hR2
    go_enter Try.func12, Try.ntmps12
    go_wp2_with fail
    go_ret2
    exact ⟨none, 0, 0, rfl, own_nil _ _ _, Keeps.refl _ _⟩
  have hR2 : R = (nextL xs, 0) := by rw [hR.out, if_neg h1]
  subst hR2
  clear hR
  go_enter Try.func12, Try.ntmps12
  go_wp2_with fail
  have hd2 : decide ((1048576 : Int) < (n : Int)) = false := by simp; omega
  simp only [hd2]
  clear hd2
  go_loopw [4, 5, 6] (fun vo vc _ wr => ∃ (b k : Nat) (out : List Int), b ≤ 256 ∧ vc = .int .i64 b ∧ k ≤ b * 1048576 ∧ wr.ownsRow w.heap.size 3 1 vo k (out.map (Value.int .i64)) ∧ Grow w wr ∧ Hid (out = (List.range b).flatMap fun c => posL c xs 0)) (fun _ vc _ _ => 256 - (intOf vc).toNat)
  case atStart => exact ⟨0, 0, [], by omega, rfl, by omega, own_nil _ _ _, Keeps.refl _ _, rfl⟩
  case round =>
    obtain ⟨b, k, out, hb, rfl, hk, ho, hg, he⟩ := hrel
    obtain ⟨A1, c1, rfl⟩ := row_form ho
    have HO := Lib.hid ho
    have HG := Lib.hid hg
    clear ho hg
    by_cases hb2 : b < 256
    · go_wp2_with fail
      have hd1 : decide ((b : Int) < 256) = true := by simp; omega
      try simp only [hd1]
      clear hd1
      obtain ⟨wo, rfl⟩ : ∃ wo : World, wo = wr := ⟨_, rfl⟩
      go_loopw [4, 6] (fun vo vi wr => ∃ (i k1 : Nat) (ys : List Int), i ≤ n ∧ vi = .int .i64 i ∧ k1 ≤ k + i ∧ wr.ownsRow w.heap.size 3 1 vo k1 (ys.map (Value.int .i64)) ∧ Grow w wr ∧ Hid (ys ++ posL b (xs.drop i) i = out ++ posL b xs 0)) (fun _ vi _ => n - (intOf vi).toNat)
      case atStart => exact ⟨0, k, out, by omega, rfl, by omega, HO.out, HG.out, rfl⟩
      case round =>
        obtain ⟨i, k1, ys, hi, rfl, hk1, ho, hg, he2⟩ := hrel
        obtain ⟨A2, c2, rfl⟩ := row_form ho
        have HO2 := Lib.hid ho
        have HG2 := Lib.hid hg
        have hsz : w.heap.size ≤ wr.heap.size := hg.size
        have H1 := Lib.hid (H.out.grow hg)
        clear ho hg
        by_cases hin : i < n
        · have he3 := he2.out
          rw [drop_in xs i (by rw [HL.out]; exact hin), posL] at he3
          have HE := Lib.hid he3
          clear he2 he3
          have hxi := H1.out.byte i
          obtain ⟨ba, oa, rfl, hcell⟩ := H1.out.at_ (by omega)
          have hc := hcell i hin
          clear hcell
          generalize xs.getD i 0 = x at *
          by_cases hx : x = (b : Int)
          · clear hxi
            subst hx
            have h5 := HE.out
            rw [if_pos rfl] at h5
            have HE2 := Lib.hid h5
            clear h5 HE
            go_wp2_with (at_builtin; refine wpList_app1 rfl (.tmp 27) (.tmp 29) 28 3 rfl Try.underlying28 Try.infoI64 rfl w.heap.size _ k1 _ rfl HO2.out hsz rfl rfl (by unfold maxLen; omega) (by omega) ?_)
            intro g cap w1 ho1 hk1' _
            have HO3 : Hid (w1.ownsRow w.heap.size 3 1 (.slice (some ⟨g, 0, none⟩) (k1 + 1) cap) (k1 + 1) ((ys ++ [(i : Int)]).map (Value.int .i64))) := by
              show World.ownsRow _ _ _ _ _ _ _
              simp only [List.map_append, List.append_assoc]
              exact ho1
            have HG3 := Lib.hid (grow_own HG2.out HO2.out (Nat.le_refl _) hk1')
            clear ho1 hk1'
            go_wp2_with fail
            go_roundw
            case rel => exact ⟨i + 1, k1 + 1, _, by omega, by go_num, by omega, HO3.out, HG3.out, by show _ = _; rw [← HE2.out]; simp⟩
            case measure => exact meas hin
          · have h5 := HE.out
            rw [if_neg hx] at h5
            have HE2 := Lib.hid h5
            clear h5 HE
            go_wp2_with fail
            go_roundw
            case rel => exact ⟨i + 1, k1, ys, by omega, by go_num, by omega, HO2.out, HG2.out, HE2.out⟩
            case measure => exact meas hin
        · obtain rfl : n = i := by omega
          have he3 := he2.out
          rw [List.drop_eq_nil_of_le (by rw [HL.out]; omega), posL, List.append_nil] at he3
          have HE := Lib.hid he3
          clear he2 he3
          go_wp2_with fail
          go_roundw
          case rel => exact ⟨b + 1, k1, ys, by omega, by go_num, by omega, HO2.out, HG2.out, by show _ = _; rw [HE.out, he.out, List.range_succ, List.flatMap_append]; simp⟩
          case measure => exact meas hb2
    · obtain rfl : b = 256 := by omega
      have he2 := he.out
      go_wp2_with fail
      go_ret2
      exact ⟨A1, c1, k, rfl, by rw [nextL, ← he2]; exact HO.out, HG.out⟩
end Go.Proofs.Yteccmnjcmmbhlaa
