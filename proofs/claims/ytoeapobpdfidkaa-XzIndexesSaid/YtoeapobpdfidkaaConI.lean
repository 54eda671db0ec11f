/- slices.Concat, by slices.Grow of nil ([]int,int). -/
import Derived.Test.YtoeapobpdfidkaaNums
import Derived.Test.YtoeapobpdfidkaaZer
namespace Go.Proofs.Ytoeapobpdfidkaa
open Go.RowKit
set_option linter.unusedVariables false
set_option linter.unusedSimpArgs false

theorem Try.info_ci : (Try.prog.info? 3).map (fun i => (i.zero, i.size, i.bytes)) = some (some (.int .i64 0), 1, 8) := by kernel_rfl
theorem own_none0_ci {w : World} {B n c : Nat} {A : Option Addr} {xs : List Value} (h : w.ownsRow B 3 1 (.slice A n c) n xs) : w.ownsRow B 3 1 (.slice A 0 c) 0 [] := by
  rcases h.2 with ⟨hv, h0⟩ | ⟨g, cap, cur, hv, hg, hh, hnc, hcm, hcs, _⟩
  · injection hv with h1 h2 h3
    subst h1 h3
    exact ⟨rfl, .inl ⟨rfl, rfl⟩⟩
  · injection hv with h1 h2 h3
    subst h1 h3
    exact ⟨rfl, .inr ⟨g, c, cur, rfl, hg, hh, Nat.zero_le _, hcm, hcs, by simp⟩⟩
theorem rowf_ci {w : World} {b e size n : Nat} {v : Value} {xs : List Value} (h : w.ownsRow b e size v n xs) : ∃ A c, v = .slice A n c := by
  rcases h.2 with ⟨rfl, rfl⟩ | ⟨g, cap, cur, rfl, _⟩
  · exact ⟨_, _, rfl⟩
  · exact ⟨_, _, rfl⟩

set_option maxRecDepth 8000 in
set_option maxHeartbeats 1000000 in
theorem grow_ci (w : World) (n : Nat) (hn : n * 8 ≤ 140737488355328) :
    Calls Try.prog 70 #[.slice none 0 0, .int .i64 n] w fun e w' => ∃ A c, e = .returned (.slice A 0 c) ∧ w'.ownsRow w.heap.size 3 1 (.slice A 0 c) 0 [] ∧ Grow w w' := by
  by_cases h0 : n = 0
  · subst h0
    go_enter Try.func70, Try.ntmps70
    go_wp2_with fail
    go_ret
    exact ⟨none, 0, rfl, own_nil _ _ _, Keeps.refl _ _⟩
  have hz0 : (.int .i64 0 : Value).cells = #[.int .i64 0] := rfl
  have hni : ¬ (n : Int) < 0 := by omega
  have ho0 := own_nil w.heap.size w 3
  go_enter Try.func70, Try.ntmps70
  go_wp2_with (at_builtin; refine wpList_appZ rfl (.tmp 20) (.tmp 21) 39 3 3 rfl Try.underlying39 Try.underlying3 Try.info_ci hz0 rfl w.heap.size _ 0 [] rfl ho0 (Nat.le_refl _) .i64 n rfl (by unfold maxLen; omega) (by omega) ?_)
  intro A1 c1 w1 ho1 hk1 hm1
  have HO1 := Lib.hid (own_none0_ci ho1)
  have HG1 : Hid (Grow w w1) := hk1.mono fun k hk h => by simp [Value.ownBlock] at h
  clear ho1 hk1 hm1 ho0 hz0
  go_wp2_with fail
  go_ret
  exact ⟨A1, c1, rfl, HO1.out, HG1.out⟩

/-- What is joined: the rows. -/
abbrev Parts_ci := List (Option Addr × Nat × Nat × List Value)
def psum_ci (R : Parts_ci) : Nat := (R.map (·.2.1)).sum
def pjoin_ci (R : Parts_ci) : List Value := R.flatMap (·.2.2.2)
theorem psum_take_ci (R : Parts_ci) (i : Nat) (r : Option Addr × Nat × Nat × List Value) (h : R[i]? = some r) : psum_ci (R.take (i + 1)) = psum_ci (R.take i) + r.2.1 := by
  obtain ⟨hi, rfl⟩ := List.getElem?_eq_some_iff.1 h
  unfold psum_ci
  rw [List.take_succ_eq_append_getElem hi, List.map_append, List.sum_append]
  simp only [List.map_cons, List.map_nil, List.sum_cons, List.sum_nil, Nat.add_zero]
theorem pjoin_take_ci (R : Parts_ci) (i : Nat) (r : Option Addr × Nat × Nat × List Value) (h : R[i]? = some r) : pjoin_ci (R.take (i + 1)) = pjoin_ci (R.take i) ++ r.2.2.2 := by
  obtain ⟨hi, rfl⟩ := List.getElem?_eq_some_iff.1 h
  unfold pjoin_ci
  rw [List.take_succ_eq_append_getElem hi, List.flatMap_append]
  simp only [List.flatMap_cons, List.flatMap_nil, List.append_nil]
theorem psum_le_ci (R : Parts_ci) (i : Nat) : psum_ci (R.take i) ≤ psum_ci R := by
  unfold psum_ci
  conv => rhs; rw [← List.take_append_drop i R, List.map_append, List.sum_append]
  exact Nat.le_add_right _ _
theorem src_grow_ci {w w' : World} {A : Option Addr} {m c : Nat} {xs : List Value} (h : Src w 1 A m c xs) (q : Grow w w') : Src w' 1 A m c xs := by
  refine ⟨h.1, h.2.1, fun ad e j u hj => ?_, h.2.2.2⟩
  have hc := h.2.2.1 ad e j u hj
  rw [← hc]
  exact World.cell?_of_block (q.block _ (World.block_lt_of_cell? w _ hc) fun h => h)

set_option maxRecDepth 8000 in
set_option maxHeartbeats 2000000 in
theorem concat_ci (w : World) (b0 n c : Nat) (R : Parts_ci) (hl : R.length = n) (hc : ∀ j r, R[j]? = some r → w.cell? ⟨b0, j, none⟩ = some (.slice r.1 r.2.1 r.2.2.1))
    (hs : ∀ r ∈ R, Src w 1 r.1 r.2.1 r.2.2.1 r.2.2.2) (hb : psum_ci R * 8 ≤ 140737488355328) (hn : n ≤ 1000000000000) :
    Calls Try.prog 47 #[.slice (some ⟨b0, 0, none⟩) n c] w fun e w' => ∃ A c', e = .returned (.slice A (psum_ci R) c') ∧ w'.ownsRow w.heap.size 3 1 (.slice A (psum_ci R) c') (psum_ci R) (pjoin_ci R) ∧ Grow w w' := by
  have HC := Lib.hid hc
  have HS := Lib.hid hs
  have HL := Lib.hid hl
  clear hc hs hl
  go_enter Try.func47, Try.ntmps47
  go_wp2_with fail
  go_loopw [3, 11] (fun vs vi wr => ∃ i : Nat, i ≤ n ∧ vi = .int .i64 i ∧ vs = .int .i64 (psum_ci (R.take i)) ∧ w = wr) (fun _ vi _ => n - (intOf vi).toNat)
  case atStart => exact ⟨0, by omega, rfl, rfl, rfl⟩
  case round =>
    obtain ⟨i, hi, rfl, rfl, rfl⟩ := hrel
    by_cases hin : i < n
    · obtain ⟨r, hr⟩ : ∃ r, R[i]? = some r := ⟨R[i]'(by rw [HL.out]; exact hin), by simp [HL.out, hin]⟩
      have hci := HC.out i r hr
      have HT := Lib.hid (psum_take_ci R i r hr)
      have h1 := psum_le_ci R (i + 1)
      rw [psum_take_ci R i r hr] at h1
      obtain ⟨Ar, nr, cr, xr⟩ := r
      simp only at hci h1
      obtain ⟨s, hsx⟩ : ∃ s, s = psum_ci (R.take i) := ⟨_, rfl⟩
      rw [← hsx] at h1 HT ⊢
      have h2 : (s : Int) + (nr : Int) ≤ 140737488355328 := by omega
      have h3 : ¬ (s : Int) + (nr : Int) < 0 := by omega
      clear hsx hr h1
      go_wp2_with fail
      go_roundw
      case rel => exact ⟨i + 1, by omega, by go_num, by rw [HT.out]; go_num, by trivial⟩
      case measure => simp [intOf]; omega
    · obtain rfl : n = i := by omega
      have HG := Lib.hid (grow_ci w (psum_ci R) hb)
      have hall : psum_ci (R.take n) = psum_ci R := by rw [List.take_of_length_le (by rw [HL.out]; exact Nat.le_refl _)]
      rw [hall]
      clear hall
      obtain ⟨s, hsx⟩ : ∃ s, s = psum_ci R := ⟨_, rfl⟩
      have HSX := Lib.hid hsx
      rw [← hsx] at HG hb ⊢
      clear hsx
      go_wp2_with fail
      refine HG.out.mono ?_
      rintro e w1 ⟨A1, c1, rfl, ho1, hg1⟩
      have HO1 := Lib.hid ho1
      have HG1 := Lib.hid hg1
      clear ho1 hg1 HG hi
      go_wp2_with fail
      go_loopw [6, 27] (fun vo vi wr => ∃ i : Nat, i ≤ n ∧ vi = .int .i64 i ∧ Hid (wr.ownsRow w.heap.size 3 1 vo (psum_ci (R.take i)) (pjoin_ci (R.take i))) ∧ Hid (Grow w wr)) (fun _ vi _ => n - (intOf vi).toNat)
      case atStart => exact ⟨0, by omega, rfl, HO1.out, HG1.out⟩
      case round =>
        obtain ⟨i, hi, rfl, HO, HG⟩ := hrel
        obtain ⟨A2, c2, rfl⟩ := rowf_ci HO.out
        have hsz : w.heap.size ≤ wr.heap.size := HG.out.size
        by_cases hin : i < n
        · obtain ⟨r, hr⟩ : ∃ r, R[i]? = some r := ⟨R[i]'(by rw [HL.out]; exact hin), by simp [HL.out, hin]⟩
          have hci : wr.cell? ⟨b0, i, none⟩ = w.cell? ⟨b0, i, none⟩ := by
            exact World.cell?_of_block (HG.out.block _ (World.block_lt_of_cell? w _ (HC.out i r hr)) fun h => h)
          have HCI := Lib.hid (hci.trans (HC.out i r hr))
          have HT := Lib.hid (psum_take_ci R i r hr)
          have HJ := Lib.hid (pjoin_take_ci R i r hr)
          have h1 := psum_le_ci R (i + 1)
          rw [psum_take_ci R i r hr, ← HSX.out] at h1
          have HSr := Lib.hid (src_grow_ci (HS.out r (List.mem_of_getElem? hr)) HG.out)
          obtain ⟨Ar, nr, cr, xr⟩ := r
          simp only at h1 HSr HT HJ
          have hci2 : wr.cell? ⟨b0, i, none⟩ = some (.slice Ar nr cr) := HCI.out
          obtain ⟨s9, hs9⟩ : ∃ s9, s9 = psum_ci (R.take i) := ⟨_, rfl⟩
          obtain ⟨y9, hy9⟩ : ∃ y9, y9 = pjoin_ci (R.take i) := ⟨_, rfl⟩
          rw [← hs9, ← hy9] at HO
          rw [← hs9] at h1 HT ⊢
          rw [← hy9] at HJ
          clear hs9 hy9 hr hci HCI
          go_wp2_with (at_builtin; refine wpList_appS rfl (.tmp 31) (.tmp 32) 39 3 rfl Try.underlying39 Try.info_ci rfl (by decide) w.heap.size _ s9 _ rfl HO.out hsz Ar nr cr xr rfl HSr.out (by unfold maxLen; omega) (by omega) ?_)
          intro A3 c3 w3 ho3 hk3 _
          have HO3 : Hid (w3.ownsRow w.heap.size 3 1 (.slice A3 (s9 + nr) c3) (psum_ci (R.take (i + 1))) (pjoin_ci (R.take (i + 1)))) := by
            show World.ownsRow _ _ _ _ _ _ _
            rw [HT.out, HJ.out]
            exact ho3
          have HG3 := Lib.hid (grow_own HG.out HO.out (Nat.le_refl _) hk3)
          clear ho3 hk3
          go_wp2_with fail
          go_roundw
          case rel => first | exact ⟨i + 1, by omega, by go_num, HO3.out, HG3.out⟩ | ((repeat apply Exists.intro); exact ⟨⟨i + 1, by omega, by go_num, HO3.out, HG3.out⟩, rfl⟩)
          case measure => simp [intOf]; omega
        · obtain rfl : n = i := by omega
          have HOF : Hid (wr.ownsRow w.heap.size 3 1 (.slice A2 (psum_ci R) c2) (psum_ci R) (pjoin_ci R)) := by
            have h9 := HO.out
            rw [List.take_of_length_le (by rw [HL.out]; exact Nat.le_refl _)] at h9
            exact h9
          have hall : psum_ci (R.take n) = s := by rw [List.take_of_length_le (by rw [HL.out]; exact Nat.le_refl _), HSX.out]
          rw [hall]
          clear hall HO
          go_wp2_with fail
          go_ret
          refine ⟨A2, c2, ?_, HOF.out, HG.out⟩
          rw [← HSX.out]
          rfl
end Go.Proofs.Ytoeapobpdfidkaa
