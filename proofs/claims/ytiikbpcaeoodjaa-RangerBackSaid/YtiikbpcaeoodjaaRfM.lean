/- The document's encoder: Even, New, Bytes, Fit. -/
import Derived.Test.YtiikbpcaeoodjaaRfD
namespace Go.Proofs.Ytiikbpcaeoodjaa
open Go.RowKit
set_option linter.unusedVariables false
set_option linter.unusedSimpArgs false

set_option maxRecDepth 8000 in
theorem even_is (w : World) (n : Nat) (h : n ≤ 65536) : Calls Try.prog 44 #[.int .i64 n] w fun e' w' => e' = .returned (.slice (some ⟨w.heap.size, 0, none⟩) n n) ∧ w'.ownsRow w.heap.size 3 1 (.slice (some ⟨w.heap.size, 0, none⟩) n n) n ((toI (List.replicate n 1024)).map (Value.int .i64)) ∧ Grow w w' := by
  have hz0 : (Value.int .i64 0).cells = #[.int .i64 0] := rfl
  have hni : (n : Int) ≤ 65536 := by omega
  have HN := Lib.hid h
  clear h
  go_enter Try.func44, Try.ntmps44
  go_wp2_with (at_make; refine wpList_make rfl (.tmp 5) (.tmp 5) 27 3 rfl Try.underlying27 Try.infoI9 hz0 n rfl rfl (by omega) (by unfold maxLen; omega) ?_)
  intro w1 ho1 hg1 hs1
  have HO1 : Hid (w1.ownsRow w.heap.size 3 1 (.slice (some ⟨w.heap.size, 0, none⟩) n n) n ((toI (List.replicate 0 1024 ++ List.replicate (n - 0) 0)).map (Value.int .i64))) := by
    show World.ownsRow _ _ _ _ _ _ _
    have hbb : ∀ b, (Value.slice (some ⟨w.heap.size, 0, none⟩) n n).ownBlock = some b → w.heap.size ≤ b := fun b hb => by
      have h8 : w.heap.size = b := by simpa [Value.ownBlock] using hb
      omega
    have h9 := owns_base (owns_any_base ho1 (Nat.zero_le _)) hbb
    simpa [toI] using h9
  have HG1 := Lib.hid hg1
  clear ho1 hg1 hs1 hz0
  go_wp2_with fail
  go_loopw [4] (fun vi wr => ∃ (i : Nat), i ≤ n ∧ vi = .int .i64 i ∧ Hid (wr.ownsRow w.heap.size 3 1 (.slice (some ⟨w.heap.size, 0, none⟩) n n) n ((toI (List.replicate i 1024 ++ List.replicate (n - i) 0)).map (Value.int .i64))) ∧ Hid (Grow w wr)) (fun vi _ => n - (intOf vi).toNat)
  case atStart => exact ⟨0, by omega, rfl, HO1.out, HG1.out⟩
  case round =>
    obtain ⟨i, hi, rfl, HO, HG⟩ := hrel
    by_cases hin : i < n
    · have hl : (List.replicate i 1024 ++ List.replicate (n - i) 0).length = n := by simp; omega
      have hc := HO.out.cellAt i (by omega)
      rw [i64_get _ i (by rw [hl]; exact hin)] at hc
      have hf := HO.out.frozenAt i
      have HO2 : Hid ((wr.setCell ⟨w.heap.size, i, none⟩ (.int .i64 1024)).ownsRow w.heap.size 3 1 (.slice (some ⟨w.heap.size, 0, none⟩) n n) n ((toI (List.replicate (i + 1) 1024 ++ List.replicate (n - (i + 1)) 0)).map (Value.int .i64))) := by
        have h9 := (HO.out.stored i (.int .i64 ((1024 : Nat) : Int))).1
        rw [i64_set] at h9
        have e9 : (List.replicate i 1024 ++ List.replicate (n - i) 0).set i 1024 = List.replicate (i + 1) 1024 ++ List.replicate (n - (i + 1)) 0 := by
          rw [List.set_append_right _ _ (by simp), show n - i = (n - (i + 1)) + 1 by omega]
          rw [List.length_replicate, Nat.sub_self, List.replicate_succ, List.set_cons_zero, List.replicate_succ', List.append_assoc]
          rfl
        rw [e9] at h9
        exact h9
      have HG2 : Hid (Grow w (wr.setCell ⟨w.heap.size, i, none⟩ (.int .i64 1024))) := by
                exact HG.out.setCell (p := ⟨w.heap.size, i, none⟩) (fun h => by simp at h) _
      go_wp2_with fail
      go_roundw
      case rel => exact ⟨i + 1, by omega, by go_num, HO2.out, HG2.out⟩
      case measure => simp [intOf]; omega
    · obtain rfl : n = i := by omega
      go_wp2_with fail
      go_ret
      refine ⟨rfl, ?_, HG.out⟩
      have h9 := HO.out
      rw [Nat.sub_self, List.replicate_zero, List.append_nil] at h9
      exact h9
set_option maxRecDepth 8000 in
theorem refNew_bad (w : World) (n : Int) (h : n < 0 ∨ 65536 < n) : Calls Try.prog 12 #[.int .i64 n] w fun e' w' => e' = .returned (.tuple #[.pointer none, .int .i64 2]) ∧ w = w' := by
  by_cases h1 : n < 0
  · go_enter Try.func12, Try.ntmps12
    go_wp2_with fail
    go_ret2
    exact ⟨rfl, rfl⟩
  have h2 : 65536 < n := by omega
  go_enter Try.func12, Try.ntmps12
  go_wp2_with fail
  go_ret2
  exact ⟨rfl, rfl⟩
set_option maxRecDepth 8000 in
theorem refNew_is (w : World) (n : Nat) (h : n ≤ 65536) : Calls Try.prog 12 #[.int .i64 n] w fun e' w' => ∃ g, e' = .returned (.tuple #[.pointer (some ⟨g, 0, none⟩), .int .i64 0]) ∧ w.heap.size ≤ g ∧ RefAt w' g (.slice (some ⟨w.heap.size, 0, none⟩) n n) (.slice none 0 0) (Enc.new n) ∧ Grow w w' := by
  have HV := Lib.hid (even_is w n h)
  have h1 : ¬ (n : Int) < 0 := by omega
  have h2 : ¬ (65536 : Int) < (n : Int) := by omega
  clear h
  go_enter Try.func12, Try.ntmps12
  go_wp2_with fail
  refine HV.out.mono ?_
  rintro x w1 ⟨rfl, ho, hg⟩
  have HO := Lib.hid ho
  have HG := Lib.hid hg
  clear ho hg HV
  go_wp2_with fail
  go_ret2
  refine ⟨_, rfl, HG.out.size, ⟨?_, ?_, own_nil _ _ _⟩, (HG.out.alloc _)⟩
  · exact heap_alloc_new _ _
  · simp only [Enc.new, List.length_replicate]
    exact owns_any_base (HO.out.alloc _) (Nat.zero_le _)

set_option maxRecDepth 8000 in
set_option maxHeartbeats 2000000 in
theorem refBytes_is (w : World) (g : Nat) (vc vo : Value) (e : Enc) (h : RefAt w g vc vo e) (hok : e.Ok) (hb : e.out.length + e.waiting ≤ 99999999999900) :
    Calls Try.prog 15 #[.pointer (some ⟨g, 0, none⟩)] w fun e' w' => ∃ A c, e' = .returned (.slice A e.bytes.length c) ∧ w'.ownsRow w.heap.size 5 1 (.slice A e.bytes.length c) e.bytes.length (u8s e.bytes) ∧ Grow w w' := by
  obtain ⟨Ao, co, rfl⟩ := rowf h.out
  obtain ⟨Ac, cc, rfl⟩ := rowf h.chs
  have d0 := blk_cell h.blk 0
  have d1 := blk_cell h.blk 1
  have d2 := blk_cell h.blk 2
  have d3 := blk_cell h.blk 3
  have d4 := blk_cell h.blk 4
  have d5 := blk_cell h.blk 5
  simp at d0 d1 d2 d3 d4 d5
  have hgl := blk_lt h.blk
  have H := Lib.hid h
  have HOK := Lib.hid hok
  have HB := Lib.hid hb
  clear h hok hb
  obtain ⟨wa, hwa⟩ : ∃ wa, wa = w.alloc (.cells #[.slice Ac e.ch.length cc, .int .u64 e.low, .int .u64 e.width, .int .i64 e.kept, .int .i64 e.waiting, .slice Ao e.out.length co] 41) := ⟨_, rfl⟩
  have HA : Hid (RefAt wa w.heap.size (.slice Ac e.ch.length cc) (.slice Ao e.out.length co) e) := by
    show RefAt _ _ _ _ _
    subst hwa
    exact ⟨heap_alloc_new w _, H.out.chs.alloc _, H.out.out.alloc _⟩
  have HGA : Hid (Grow w wa) := by show Keeps _ _ _; subst hwa; exact (Keeps.refl _ w).alloc _
  have hza : wa.heap.size = w.heap.size + 1 := by subst hwa; simp
  have ho0 := own_none wa 5
  rw [hza] at ho0
  have HS0 : Hid (Src (wa.alloc (.cells #[] 5)) 1 Ao e.out.length co (u8s e.out)) := src_own (HA.out.out.alloc _) (fun u hu => by obtain ⟨y, _, rfl⟩ := List.mem_map.1 hu; rfl)
  have hol : e.out.length ≤ 99999999999900 := by have := HB.out; omega
  go_enter Try.func15, Try.ntmps15
  go_wp2_with (at_builtin; (try rw [← hwa]); refine wpList_appS rfl (.tmp 8) (.tmp 12) 29 5 rfl Try.underlying29 Try.infoB rfl (by decide) (w.heap.size + 1) _ 0 _ rfl ho0 (by simp [hza]) Ao e.out.length co _ rfl HS0.out (by unfold maxLen; omega) (by omega) ?_)
  intro A2 c2 wc ho2 hk2 _
  (try simp only [Nat.zero_add, List.nil_append] at ho2)
  (try simp only [Nat.zero_add])
  rw [← hwa] at hk2
  have hni2 : ∀ i, i < wa.heap.size → (Value.slice (some ⟨w.heap.size + 1, 0, none⟩) 0 0).ownBlock = some i → False := fun i hi h => by
    have h8 : w.heap.size + 1 = i := by simpa [Value.ownBlock] using h
    omega
  have HGC : Hid (Grow wa wc) := Keeps.trans ((Keeps.refl (fun _ => False) wa).alloc (.cells #[] 5)) hk2 hni2
  have HE2 : Hid (RefAt (wc.setCell ⟨w.heap.size, 5, none⟩ (.slice A2 e.out.length c2)) w.heap.size (.slice Ac e.ch.length cc) (.slice A2 e.out.length c2) e) := ref_set HA.out HGC.out (fun _ h => h.elim) (owns_any_base ho2 (Nat.zero_le _)) rfl
  have HF2 : Hid (∀ b, (Value.slice A2 e.out.length c2).ownBlock = some b → w.heap.size ≤ b) := fun b hb => Nat.le_trans (by omega) (own_ge ho2 b hb)
  have HG2 : Hid (Grow w (wc.setCell ⟨w.heap.size, 5, none⟩ (.slice A2 e.out.length c2))) := (Keeps.trans HGA.out HGC.out fun _ _ h => h).setCell (p := ⟨w.heap.size, 5, none⟩) (fun h => by simp at h) _
  have dd := blk_cell (block_keep HA.out.blk HGC.out fun h => h) 5
  have ff := blk_frozen (block_keep HA.out.blk HGC.out fun h => h) 5
  simp at dd
  clear ho2 hk2 HA HGA hwa H d0 d1 d2 d3 d4 d5 hza ho0 HS0 HGC
  go_wp2_with fail
  clear dd ff
  generalize wc.setCell ⟨w.heap.size, 5, none⟩ (.slice A2 e.out.length c2) = wd at *
  go_loopw [4] (fun vi wr => ∃ (j : Nat) (vo' : Value), j ≤ 5 ∧ vi = .int .i64 j ∧ Hid (RefAt wr w.heap.size (.slice Ac e.ch.length cc) vo' (shifts j e)) ∧ Hid (∀ b, vo'.ownBlock = some b → w.heap.size ≤ b) ∧ Hid (Grow w wr)) (fun vi _ => 5 - (intOf vi).toNat)
  case atStart => exact ⟨0, _, by omega, rfl, HE2.out, HF2.out, HG2.out⟩
  case round =>
    obtain ⟨j, vo', hj, rfl, HE, HF, HG⟩ := hrel
    obtain ⟨h1, h2, h3, h4, h5⟩ := shifts_ok e HOK.out j
    by_cases hlt : j < 5
    · have HC := Lib.hid (refShift_is wr w.heap.size _ vo' _ HE.out h1 h2 h3 (by have := HB.out; omega))
      clear h1 h2 h3 h4 h5
      go_wp2_with fail
      refine HC.out.mono ?_
      rintro x w3 ⟨rfl, vo3, h3, hk3, hm3⟩
      have HE3 : Hid (RefAt w3 w.heap.size (.slice Ac e.ch.length cc) vo3 (shifts (j + 1) e)) := h3
      have HF3 : Hid (∀ b, vo3.ownBlock = some b → w.heap.size ≤ b) := fun b hb => by
        rcases hm3 with h9 | ⟨i, h9, hi⟩
        · rw [h9] at hb; exact HF.out b hb
        · rw [h9] at hb; injection hb with hb; have := HG.out.size; omega
      have HG3 : Hid (Grow w w3) := Keeps.trans HG.out hk3 fun i hi h => by
        rcases h with h | h
        · omega
        · have := HF.out i h; omega
      clear h3 hk3 hm3 HC
      go_wp2_with fail
      go_roundw
      case rel => exact ⟨j + 1, vo3, by omega, by go_num, HE3.out, HF3.out, HG3.out⟩
      case measure => simp [intOf]; omega
    · obtain rfl : j = 5 := by omega
      have dd := blk_cell HE.out.blk 5
      simp at dd
      clear h1 h2 h3 h4 h5
      obtain ⟨A9, c9, rfl⟩ := rowf HE.out.out
      go_wp2_with fail
      go_ret
      rw [← bytes_eq]
      exact ⟨A9, c9, rfl, owns_base (owns_any_base HE.out.out (Nat.zero_le _)) HF.out, HG.out⟩
theorem fitB_cons (xs : List Int) (n : Nat) : fitB xs n = (decide (xs.length = n) && !(xs.any noCh)) := rfl
set_option maxRecDepth 8000 in
theorem refFit_is (w : World) (n : Nat) (A : Option Addr) (m c : Nat) (xs : List Int) (hx : Nums .i64 w A m c xs) (hm : m ≤ 140737488355328) :
    Calls Try.prog 24 #[.slice A m c, .int .i64 (n : Nat)] w fun e' w' => e' = .returned (.bool (fitB xs n)) ∧ w = w' := by
  have HX := Lib.hid hx
  have hl := hx.len
  have HL := Lib.hid hl
  have hmi : (m : Int) ≤ 140737488355328 := by omega
  clear hx hl
  go_enter Try.func24, Try.ntmps24
  go_wp2_with fail
  go_loopw [5] (fun vi wr => ∃ (i : Nat), i ≤ m ∧ vi = .int .i64 i ∧ w = wr ∧ Hid ((xs.take i).any noCh = false)) (fun vi _ => m - (intOf vi).toNat)
  case atStart => exact ⟨0, by omega, rfl, rfl, rfl⟩
  case round =>
    obtain ⟨i, hi, rfl, rfl, HT⟩ := hrel
    by_cases hin : i < m
    · obtain ⟨b, o, rfl, hc⟩ := HX.out.at_ (by omega)
      have hcell := hc i hin
      have hx := inKind_i64 (HX.out.getD_in ⟨by decide, by decide⟩ i)
      have HTS : Hid ((xs.take (i + 1)).any noCh = noCh (xs.getD i 0)) := by
        show _ = _
        rw [List.take_add_one, List.any_append, HT.out]
        simp [List.getD_eq_getElem?_getD, show i < xs.length by rw [HL.out]; exact hin]
      have HAN : Hid (noCh (xs.getD i 0) = true → fitB xs n = false) := fun h9 => by
        have : xs.any noCh = true := List.any_eq_true.2 ⟨_, List.getElem_mem (by rw [HL.out]; exact hin), by simpa [List.getD_eq_getElem?_getD, show i < xs.length by rw [HL.out]; exact hin] using h9⟩
        simp [fitB, this]
      generalize xs.getD i 0 = x at *
      have HB9 : Hid (noCh x = decide (x < 31 ∨ 2017 < x)) := rfl
      clear hc
      by_cases h1 : x < 31
      · go_wp2_with fail
        go_ret
        exact ⟨by rw [HAN.out (by rw [HB9.out]; simp; omega)]; rfl, rfl⟩
      by_cases h2 : 2017 < x
      · go_wp2_with fail
        go_ret
        exact ⟨by rw [HAN.out (by rw [HB9.out]; simp; omega)]; rfl, rfl⟩
      have HTN : Hid ((xs.take (i + 1)).any noCh = false) := HTS.out.trans (by rw [HB9.out]; simp; omega)
      go_wp2_with fail
      go_roundw
      case rel => exact ⟨i + 1, by omega, by go_num, by trivial, HTN.out⟩
      case measure => simp [intOf]; omega
    · obtain rfl : m = i := by omega
      have hF : fitB xs n = decide ((m : Int) = (n : Int)) := by
        have h9 := HT.out
        rw [List.take_of_length_le (by rw [HL.out]; exact Nat.le_refl _)] at h9
        simp [fitB, h9, HL.out]
        omega
      have HF := Lib.hid hF
      clear hF HT HX HL
      go_wp2_with fail
      go_ret
      exact ⟨by rw [HF.out]; rfl, rfl⟩
end Go.Proofs.Ytiikbpcaeoodjaa
