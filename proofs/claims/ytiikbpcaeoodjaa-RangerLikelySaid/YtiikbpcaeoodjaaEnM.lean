/- The encoder's calls: New, Bit, Chances, Bytes. -/
import Derived.Test.YtiikbpcaeoodjaaEnC
import Derived.Test.YtiikbpcaeoodjaaClnU8
namespace Go.Proofs.Ytiikbpcaeoodjaa
open Go.RowKit
set_option linter.unusedVariables false
set_option linter.unusedSimpArgs false

theorem none_is (w : World) (g gc cc : Nat) (vo : Value) (e : Enc) (h : EncAt w g gc cc vo e) : Calls Try.prog 39 #[.pointer (some ⟨g, 0, none⟩)] w fun e' w' => e' = .returned (.bool false) ∧ w = w' := by
  have d0 := blk_cell h.blk 0
  simp at d0
  go_enter Try.func39, Try.ntmps39
  go_wp2
  go_ret
  exact ⟨rfl, rfl⟩

set_option maxRecDepth 8000 in
theorem bit_bad (w : World) (g gc cc : Nat) (vo : Value) (e : Enc) (h : EncAt w g gc cc vo e) (i bit : Int) (hb : i < 0 ∨ (e.ch.length : Int) ≤ i ∨ bit < 0 ∨ 1 < bit) :
    Calls Try.prog 9 #[.pointer (some ⟨g, 0, none⟩), .int .i64 i, .int .i64 bit] w fun e' w' => e' = .returned (.int .i64 2) ∧ w = w' := by
  have HN := Lib.hid (none_is w g gc cc vo e h)
  have d1 := blk_cell h.blk 1
  simp at d1
  generalize e.ch.length = n at *
  clear h
  go_enter Try.func9, Try.ntmps9
  go_wp2_with fail
  refine HN.out.mono ?_
  rintro x w1 ⟨rfl, rfl⟩
  by_cases h1 : i < 0
  · go_wp2_with fail
    go_ret
    exact ⟨rfl, rfl⟩
  by_cases h2 : (n : Int) ≤ i
  · go_wp2_with fail
    go_ret
    exact ⟨rfl, rfl⟩
  by_cases h3 : bit < 0
  · go_wp2_with fail
    go_ret
    exact ⟨rfl, rfl⟩
  have h4 : 1 < bit := by omega
  go_wp2_with fail
  go_ret
  exact ⟨rfl, rfl⟩
set_option maxRecDepth 8000 in
theorem bit_is (w : World) (g gc cc : Nat) (vo : Value) (e : Enc) (h : EncAt w g gc cc vo e) (hok : e.Ok) (i bit : Nat) (hi : i < e.ch.length) (hn : e.ch.length ≤ 65536) (hbit : bit ≤ 1) (hb : e.out.length + e.waiting ≤ 99999999999999) :
    Calls Try.prog 9 #[.pointer (some ⟨g, 0, none⟩), .int .i64 i, .int .i64 bit] w fun e' w' => e' = .returned (.int .i64 0) ∧ EncTo2 w g gc cc vo (e.put i bit) w' := by
  have HN := Lib.hid (none_is w g gc cc vo e h)
  have HC := Lib.hid (chance_is w g gc cc vo e h hok i bit hi hn hbit hb)
  have d1 := blk_cell h.blk 1
  simp at d1
  generalize e.ch.length = n at *
  generalize e.put i bit = E at *
  clear h hok hb hn
  have hb1 : (bit : Int) ≤ 1 := by omega
  have hb2 : ¬ (1 : Int) < (bit : Int) := by omega
  go_enter Try.func9, Try.ntmps9
  go_wp2_with fail
  refine HN.out.mono ?_
  rintro x w1 ⟨rfl, rfl⟩
  go_wp2_with fail
  refine HC.out.mono ?_
  rintro x w1 ⟨rfl, hE⟩
  have HE := Lib.hid hE
  clear hE
  go_wp2_with fail
  go_ret
  exact ⟨rfl, HE.out⟩

set_option maxRecDepth 8000 in
theorem new_bad (w : World) (n : Int) (h : n < 0 ∨ 65536 < n) : Calls Try.prog 8 #[.int .i64 n] w fun e' w' => e' = .returned (.tuple #[.pointer none, .int .i64 2]) ∧ w = w' := by
  by_cases h1 : n < 0
  · go_enter Try.func8, Try.ntmps8
    go_wp2_with fail
    go_ret2
    exact ⟨rfl, rfl⟩
  have h2 : 65536 < n := by omega
  go_enter Try.func8, Try.ntmps8
  go_wp2_with fail
  go_ret2
  exact ⟨rfl, rfl⟩
theorem evens_is (w : World) (n : Nat) (h : n ≤ 65536) : Calls Try.prog 38 #[.int .i64 n] w fun e' w' => ∃ gc, e' = .returned (.slice (some ⟨gc, 0, none⟩) n n) ∧ w.heap.size ≤ gc ∧ w'.ownsRow gc 88 1 (.slice (some ⟨gc, 0, none⟩) n n) n (u16s (List.replicate n 1024)) ∧ Grow w w' := by
  have HR := Lib.hid (rpU16_is (w.alloc (.cells #[.int .u16 1024] 88)) (some ⟨w.heap.size, 0, none⟩) 1 n 1024 (nums_1 (heap_alloc_new w _) ⟨by decide, by decide⟩) (by omega))
  go_enter Try.func38, Try.ntmps38
  go_wp2_with fail
  refine HR.out.mono ?_
  rintro x w1 ⟨rfl, ho, hg⟩
  have HO := Lib.hid ho
  have HG := Lib.hid hg
  clear ho hg HR
  go_wp2_with fail
  go_ret
  refine ⟨_, rfl, by simp, ?_, Grow.trans _ _ _ ((Keeps.refl (fun _ => False) w).alloc _) HG.out⟩
  have h9 := HO.out
  rw [List.map_replicate] at h9
  simpa [u16s] using h9
set_option maxRecDepth 8000 in
theorem new_is (w : World) (n : Nat) (h : n ≤ 65536) : Calls Try.prog 8 #[.int .i64 n] w fun e' w' => ∃ g gc, e' = .returned (.tuple #[.pointer (some ⟨g, 0, none⟩), .int .i64 0]) ∧ w.heap.size ≤ g ∧ w.heap.size ≤ gc ∧ EncAt w' g gc n (.slice none 0 0) (Enc.new n) ∧ Grow w w' := by
  have HV := Lib.hid (evens_is w n h)
  have h1 : ¬ (n : Int) < 0 := by omega
  have h2 : ¬ (65536 : Int) < (n : Int) := by omega
  clear h
  go_enter Try.func8, Try.ntmps8
  go_wp2_with fail
  refine HV.out.mono ?_
  rintro x w1 ⟨gc, rfl, hgc, ho, hg⟩
  have HO := Lib.hid ho
  have HG := Lib.hid hg
  have HGC := Lib.hid hgc
  clear ho hg HV hgc
  go_wp2_with fail
  go_ret2
  refine ⟨_, gc, rfl, HG.out.size, HGC.out, ⟨?_, ?_, own_nil _ _ _⟩, (HG.out.alloc _)⟩
  · simp only [Enc.new, List.length_replicate]
    exact heap_alloc_new _ _
  · simp only [Enc.new, List.length_replicate]
    exact owns_any_base (HO.out.alloc _) (Nat.zero_le _)
theorem Try.infoI9 : (Try.prog.info? 3).map (fun i => (i.zero, i.size, i.bytes)) = some (some (.int .i64 0), 1, 8) := by kernel_rfl
theorem rowf {w : World} {b e size n : Nat} {v : Value} {xs : List Value} (h : w.ownsRow b e size v n xs) : ∃ A c, v = .slice A n c := by
  rcases h.2 with ⟨rfl, rfl⟩ | ⟨g, cap, cur, rfl, _⟩
  · exact ⟨_, _, rfl⟩
  · exact ⟨_, _, rfl⟩
/-- Whole numbers as numbers. -/
def toI (l : List Nat) : List Int := l.map fun p => ((p : Nat) : Int)
theorem toI_len (l : List Nat) : (toI l).length = l.length := by simp [toI]
theorem toI_snoc (l : List Nat) (i : Nat) (h : i < l.length) : toI (l.take i) ++ [((l.getD i 0 : Nat) : Int)] = toI (l.take (i + 1)) := by
  rw [List.take_succ_eq_append_getElem h]
  unfold toI
  rw [List.map_append]
  congr 1
  simp [List.getD_eq_getElem?_getD, h]

set_option maxRecDepth 8000 in
set_option maxHeartbeats 1000000 in
theorem list_is (w : World) (gc cc : Nat) (ch : List Nat) (h : w.ownsRow 0 88 1 (.slice (some ⟨gc, 0, none⟩) ch.length cc) ch.length (u16s ch)) (hn : ch.length ≤ 65536) (hok : chOk ch) :
    Calls Try.prog 41 #[.slice (some ⟨gc, 0, none⟩) ch.length cc] w fun e' w' => ∃ A c, e' = .returned (.slice A ch.length c) ∧ w'.ownsRow w.heap.size 3 1 (.slice A ch.length c) ch.length ((toI ch).map (Value.int .i64)) ∧ Grow w w' := by
  have H := Lib.hid h
  obtain ⟨n, hL⟩ : ∃ n, n = ch.length := ⟨_, rfl⟩
  have HL := Lib.hid hL
  rw [← hL] at hn ⊢
  clear h hL
  go_enter Try.func41, Try.ntmps41
  go_wp2_with fail
  go_loopw [3, 8] (fun vo vi wr => ∃ (i : Nat), i ≤ n ∧ vi = .int .i64 i ∧ Hid (wr.ownsRow w.heap.size 3 1 vo i ((toI (ch.take i)).map (Value.int .i64))) ∧ Hid (Grow w wr)) (fun _ vi _ => n - (intOf vi).toNat)
  case atStart => exact ⟨0, by omega, rfl, own_nil _ _ _, Keeps.refl _ _⟩
  case round =>
    obtain ⟨i, hi, rfl, HO, HG⟩ := hrel
    obtain ⟨A1, c1, rfl⟩ := rowf HO.out
    have hsz : w.heap.size ≤ wr.heap.size := HG.out.size
    by_cases hin : i < n
    · have hc := (owns_keep H.out HG.out fun _ _ h => h).cellAt i (by (try simp only [u16s_len]); (try rw [← HL.out]); omega)
      rw [u16s_get ch i (by rw [← HL.out]; exact hin)] at hc
      have HT := Lib.hid (toI_snoc ch i (by rw [← HL.out]; exact hin))
      have hp := (chOk_get hok i (by rw [← HL.out]; exact hin)).2
      generalize ch.getD i 0 = p at *
      go_wp2_with (at_builtin; refine wpList_app1 rfl (.tmp 12) (.tmp 15) 27 3 rfl Try.underlying27 Try.infoI9 rfl w.heap.size _ i _ rfl HO.out hsz rfl rfl (by unfold maxLen; omega) (by omega) ?_)
      intro g cap w3 ho3 hk3 _
      have HO3 : Hid (w3.ownsRow w.heap.size 3 1 (.slice (some ⟨g, 0, none⟩) (i + 1) cap) (i + 1) ((toI (ch.take (i + 1))).map (Value.int .i64))) := by
        show World.ownsRow _ _ _ _ _ _ _
        rw [← HT.out, List.map_append]
        exact ho3
      have HG3 := Lib.hid (grow_own HG.out HO.out (Nat.le_refl _) hk3)
      clear ho3 hk3
      go_wp2_with fail
      go_roundw
      case rel => exact ⟨i + 1, by omega, by go_num, HO3.out, HG3.out⟩
      case measure => simp [intOf]; omega
    · obtain rfl : n = i := by omega
      go_wp2_with fail
      go_ret
      refine ⟨A1, c1, rfl, ?_, HG.out⟩
      have h9 := HO.out
      rw [List.take_of_length_le (by rw [← HL.out]; exact Nat.le_refl _)] at h9
      exact h9
theorem chances_is (w : World) (g gc cc : Nat) (vo : Value) (e : Enc) (h : EncAt w g gc cc vo e) (hok : chOk e.ch) (hn : e.ch.length ≤ 65536) :
    Calls Try.prog 10 #[.pointer (some ⟨g, 0, none⟩)] w fun e' w' => ∃ A c, e' = .returned (.slice A e.ch.length c) ∧ w'.ownsRow w.heap.size 3 1 (.slice A e.ch.length c) e.ch.length ((toI e.ch).map (Value.int .i64)) ∧ Grow w w' := by
  have HN := Lib.hid (none_is w g gc cc vo e h)
  have HL := Lib.hid (list_is w gc cc e.ch h.chs hn hok)
  have d1 := blk_cell h.blk 1
  simp at d1
  clear h hn
  go_enter Try.func10, Try.ntmps10
  go_wp2_with fail
  refine HN.out.mono ?_
  rintro x w1 ⟨rfl, rfl⟩
  go_wp2_with fail
  refine HL.out.mono ?_
  rintro x w1 ⟨A, c, rfl, ho, hg⟩
  have HO := Lib.hid ho
  have HG := Lib.hid hg
  clear ho hg HL
  go_wp2_with fail
  go_ret
  exact ⟨A, c, rfl, HO.out, HG.out⟩

/-- So many bytes more. -/
def shifts : Nat → Enc → Enc
  | 0, e => e
  | n + 1, e => (shifts n e).shift
theorem shifts_ok (e : Enc) (h : e.Ok) : ∀ n, (shifts n e).low < 8589934592 ∧ (shifts n e).kept < 256 ∧ 1 ≤ (shifts n e).waiting ∧ (shifts n e).out.length + (shifts n e).waiting = e.out.length + e.waiting + n ∧ (shifts n e).ch = e.ch
  | 0 => ⟨by have := h.sum; show e.low < _; omega, h.kept, h.waiting, rfl, rfl⟩
  | n + 1 => by
    obtain ⟨h1, h2, h3, h4, h5⟩ := shifts_ok e h n
    refine ⟨?_, Enc.shift_kept _ h2, Enc.shift_waiting _, ?_, by rw [shifts, Enc.shift_ch, h5]⟩
    · rw [shifts, Enc.shift_low]
      have := Nat.mod_lt (shifts n e).low (show 16777216 > 0 by omega)
      omega
    · rw [shifts, Enc.shift_len _ h3]; omega
theorem shifts_out (e : Enc) (h : e.Ok) : ∀ n, ∀ x ∈ (shifts n e).out, x < 256
  | 0 => h.out
  | n + 1 => Enc.shift_out _ (shifts_out e h n)
theorem bytes_eq (e : Enc) : (shifts 5 e).out = e.bytes := rfl

set_option maxRecDepth 8000 in
set_option maxHeartbeats 2000000 in
theorem bytes_is (w : World) (g gc cc : Nat) (vo : Value) (e : Enc) (h : EncAt w g gc cc vo e) (hok : e.Ok) (hb : e.out.length + e.waiting ≤ 99999999999900) :
    Calls Try.prog 11 #[.pointer (some ⟨g, 0, none⟩)] w fun e' w' => ∃ A c, e' = .returned (.slice A e.bytes.length c) ∧ w'.ownsRow w.heap.size 5 1 (.slice A e.bytes.length c) e.bytes.length (u8s e.bytes) ∧ Grow w w' := by
  have HN := Lib.hid (none_is w g gc cc vo e h)
  obtain ⟨Ao, co, rfl⟩ := rowf h.out
  have d0 := blk_cell h.blk 0
  have d1 := blk_cell h.blk 1
  have d2 := blk_cell h.blk 2
  have d3 := blk_cell h.blk 3
  have d4 := blk_cell h.blk 4
  have d5 := blk_cell h.blk 5
  have d6 := blk_cell h.blk 6
  simp at d0 d1 d2 d3 d4 d5 d6
  have hgl := blk_lt h.blk
  have H := Lib.hid h
  have HOK := Lib.hid hok
  have HB := Lib.hid hb
  clear h hok hb
  go_enter Try.func11, Try.ntmps11
  go_wp2_with fail
  refine HN.out.mono ?_
  rintro x w1 ⟨rfl, rfl⟩
  obtain ⟨wa, hwa⟩ : ∃ wa, wa = w.alloc (.cells #[.bool true, .slice (some ⟨gc, 0, none⟩) e.ch.length cc, .int .u64 e.low, .int .u32 e.width, .int .u8 e.kept, .int .i64 e.waiting, .slice Ao e.out.length co] 69) := ⟨_, rfl⟩
  have HA : Hid (EncAt wa w.heap.size gc cc (.slice Ao e.out.length co) e) := by
    show EncAt _ _ _ _ _ _
    subst hwa
    exact ⟨heap_alloc_new w _, H.out.chs.alloc _, H.out.out.alloc _⟩
  have HGA : Hid (Grow w wa) := by show Keeps _ _ _; subst hwa; exact (Keeps.refl _ w).alloc _
  have hza : w.heap.size < wa.heap.size := by subst hwa; simp
  have HCL := Lib.hid (clnU8 wa Ao e.out.length co _ (src_own HA.out.out (fun u hu => by obtain ⟨y, _, rfl⟩ := List.mem_map.1 hu; rfl)) (by have := HB.out; omega))
  go_wp2_with fail
  rw [← hwa]
  refine HCL.out.mono ?_
  rintro x wc ⟨A2, c2, rfl, ho2, hk2⟩
  have HE2 : Hid (EncAt (wc.setCell ⟨w.heap.size, 6, none⟩ (.slice A2 e.out.length c2)) w.heap.size gc cc (.slice A2 e.out.length c2) e) := enc_set HA.out hk2 (fun _ h => h.elim) (owns_any_base ho2 (Nat.zero_le _)) rfl
  have HF2 : Hid (∀ b, (Value.slice A2 e.out.length c2).ownBlock = some b → w.heap.size ≤ b) := fun b hb => Nat.le_trans (by omega) (own_ge ho2 b hb)
  have HG2 : Hid (Grow w (wc.setCell ⟨w.heap.size, 6, none⟩ (.slice A2 e.out.length c2))) := (Keeps.trans HGA.out hk2 fun _ _ h => h).setCell (p := ⟨w.heap.size, 6, none⟩) (fun h => by simp at h) _
  have dd := blk_cell (block_keep HA.out.blk hk2 fun h => h) 6
  have ff := blk_frozen (block_keep HA.out.blk hk2 fun h => h) 6
  simp at dd
  clear ho2 hk2 HCL HA HGA hwa H d0 d1 d2 d3 d4 d5 d6 hza
  go_wp2_with fail
  clear dd ff
  generalize wc.setCell ⟨w.heap.size, 6, none⟩ (.slice A2 e.out.length c2) = wd at *
  go_loopw [15] (fun vi wr => ∃ (j : Nat) (vo' : Value), j ≤ 5 ∧ vi = .int .i64 j ∧ Hid (EncAt wr w.heap.size gc cc vo' (shifts j e)) ∧ Hid (∀ b, vo'.ownBlock = some b → w.heap.size ≤ b) ∧ Hid (Grow w wr)) (fun vi _ => 5 - (intOf vi).toNat)
  case atStart => exact ⟨0, _, by omega, rfl, HE2.out, HF2.out, HG2.out⟩
  case round =>
    obtain ⟨j, vo', hj, rfl, HE, HF, HG⟩ := hrel
    obtain ⟨h1, h2, h3, h4, h5⟩ := shifts_ok e HOK.out j
    by_cases hlt : j < 5
    · have HC := Lib.hid (shift_is wr w.heap.size gc cc vo' _ HE.out h1 h2 h3 (by have := HB.out; omega))
      clear h1 h2 h3 h4 h5
      go_wp2_with fail
      refine HC.out.mono ?_
      rintro x w3 ⟨rfl, vo3, h3, hk3, hm3⟩
      have HE3 : Hid (EncAt w3 w.heap.size gc cc vo3 (shifts (j + 1) e)) := h3
      have HF3 : Hid (∀ b, vo3.ownBlock = some b → w.heap.size ≤ b) := fun b hb => by
        rcases hm3 with h9 | ⟨i, h9, hi⟩
        · rw [h9] at hb; exact HF.out b hb
        · rw [h9] at hb; injection hb with hb; have := HG.out.size; omega
      have HG3 : Hid (Grow w w3) := Keeps.trans HG.out hk3 fun i hi h => by
        rcases h with h | h
        · omega
        · have := HF.out i h; omega
      clear h3 hk3 hm3 HC
      go_wp2_with fail
      go_roundw
      case rel => exact ⟨j + 1, vo3, by omega, by go_num, HE3.out, HF3.out, HG3.out⟩
      case measure => simp [intOf]; omega
    · obtain rfl : j = 5 := by omega
      have dd := blk_cell HE.out.blk 6
      simp at dd
      clear h1 h2 h3 h4 h5
      obtain ⟨A9, c9, rfl⟩ := rowf HE.out.out
      go_wp2_with fail
      go_ret
      rw [← bytes_eq]
      exact ⟨A9, c9, rfl, owns_base (owns_any_base HE.out.out (Nat.zero_le _)) HF.out, HG.out⟩
end Go.Proofs.Ytiikbpcaeoodjaa
