/- The document's encoder: shift. -/
import Derived.Test.YtiikbpcaeoodjaaEnV
namespace Go.Proofs.Ytiikbpcaeoodjaa
open Go.RowKit
set_option linter.unusedVariables false
set_option linter.unusedSimpArgs false

/-- The document's encoder at block g: its chances' row vc, its bytes' row vo. -/
structure RefAt (w : World) (g : Nat) (vc vo : Value) (e : Enc) : Prop where
  blk : w.heap[g]? = some (.cells #[vc, .int .u64 e.low, .int .u64 e.width, .int .i64 e.kept, .int .i64 e.waiting, vo] 41 (0, 0))
  chs : w.ownsRow 0 3 1 vc e.ch.length ((toI e.ch).map (Value.int .i64))
  out : w.ownsRow 0 5 1 vo e.out.length (u8s e.out)
theorem rows_apart {w : World} {e1 e2 n m : Nat} {v1 v2 : Value} {x1 x2 : List Value} (h1 : w.ownsRow 0 e1 1 v1 n x1) (h2 : w.ownsRow 0 e2 1 v2 m x2) (hne : e1 ≠ e2) (k : Nat) (k1 : v1.ownBlock = some k) : v2.ownBlock ≠ some k := by
  rcases h1.2 with ⟨hv, _⟩ | ⟨g, cap, cur, hv, _, hh, _⟩
  · subst hv; simp [Value.ownBlock] at k1
  · subst hv
    have hk : g = k := by simpa [Value.ownBlock] using k1
    subst hk
    exact row_ne h2 hh (fun h => hne h.symm)
namespace RefAt
variable {w w' : World} {g : Nat} {vc vo : Value} {e : Enc}
theorem ne_out (h : RefAt w g vc vo e) : vo.ownBlock ≠ some g := row_ne h.out h.blk (by decide)
theorem ne_chs (h : RefAt w g vc vo e) : vc.ownBlock ≠ some g := row_ne h.chs h.blk (by decide)
theorem ne_both (h : RefAt w g vc vo e) (k : Nat) (hk : vc.ownBlock = some k) : vo.ownBlock ≠ some k := rows_apart h.chs h.out (by decide) k hk
theorem keep {S : Nat → Prop} (h : RefAt w g vc vo e) (k : Keeps S w w') (h1 : ¬ S g) (h2 : ∀ i, vc.ownBlock = some i → ¬ S i) (h3 : ∀ i, vo.ownBlock = some i → ¬ S i) : RefAt w' g vc vo e :=
  ⟨block_keep h.blk k h1, owns_keep h.chs k h2, owns_keep h.out k h3⟩
theorem drew (h : RefAt w g vc vo e) : RefAt w.drew g vc vo e := ⟨h.blk, h.chs, h.out⟩
end RefAt
theorem ref_re {w w' : World} {g : Nat} {vc vo : Value} {e e' : Enc} (h : RefAt w g vc vo e) (k : Keeps (fun k => k = g) w w')
    (hb : w'.heap[g]? = some (.cells #[vc, .int .u64 e'.low, .int .u64 e'.width, .int .i64 e'.kept, .int .i64 e'.waiting, vo] 41 (0, 0))) (hc : e'.ch = e.ch) (ho : e'.out = e.out) : RefAt w' g vc vo e' := by
  refine ⟨hb, ?_, ?_⟩
  · rw [hc]
    exact owns_keep h.chs k (fun i hi h9 => h.ne_chs (by rw [hi, h9]))
  · rw [ho]
    exact owns_keep h.out k (fun i hi h9 => h.ne_out (by rw [hi, h9]))
theorem ref_set {w w5 : World} {g n c : Nat} {vc vo : Value} {A : Option Addr} {e e' : Enc} {S : Nat → Prop} (h : RefAt w g vc vo e) (k : Keeps S w w5) (hS : ∀ i, S i → vo.ownBlock = some i)
    (ho : w5.ownsRow 0 5 1 (.slice A n c) e'.out.length (u8s e'.out)) (he : e' = { e with out := e'.out }) : RefAt (w5.setCell ⟨g, 5, none⟩ (.slice A n c)) g vc (.slice A n c) e' := by
  have hb := block_keep h.blk k (fun h9 => h.ne_out (hS _ h9))
  have hne := row_ne ho hb (by decide)
  have hc := owns_keep h.chs k (fun i hi h9 => h.ne_both i hi (hS _ h9))
  rw [he] at ho ⊢
  refine ⟨?_, row_set_far hc (p := ⟨g, 5, none⟩) h.ne_chs _, row_set_far ho hne _⟩
  have h9 := blk_set hb 5 (.slice A n c)
  exact h9
/-- What a shift puts out, byte by byte. -/
def shO (kept q : Nat) : Nat → List Nat
  | 0 => []
  | j + 1 => (kept + q) % 256 :: List.replicate j ((q + 255) % 256)
theorem shO_snoc (kept q j : Nat) : shO kept q (j + 1) = shO kept q j ++ [((if j = 0 then kept else 255) + q) % 256] := by
  cases j with
  | zero => rfl
  | succ j =>
    simp only [shO, List.cons_append, if_neg (Nat.succ_ne_zero j)]
    rw [show 255 + q = q + 255 by omega, List.replicate_succ']
theorem shO_len (kept q j : Nat) : (shO kept q j).length = j := by cases j <;> simp [shO]
def wtg (v : Option Value) : Nat := match v with | some (.int _ n) => n.toNat | _ => 0
theorem wtg_int (k : IntKind) (n : Nat) : wtg (some (.int k (n : Nat))) = n := rfl

set_option maxRecDepth 8000 in
set_option maxHeartbeats 4000000 in
theorem refShift_yes (w : World) (g : Nat) (vc vo : Value) (e : Enc) (h : RefAt w g vc vo e) (hl : e.low < 4278190080 ∨ 4294967296 ≤ e.low) (hl2 : e.low < 8589934592) (hk : e.kept < 256) (hw1 : 1 ≤ e.waiting) (hb : e.out.length + e.waiting ≤ 100000000000000) :
    Calls Try.prog 45 #[.pointer (some ⟨g, 0, none⟩)] w fun e' w' => e' = .returned (.tuple #[]) ∧ ∃ vo', RefAt w' g vc vo' e.shift ∧ Keeps (fun k => k = g ∨ vo.ownBlock = some k) w w' ∧ Moved w vo vo' := by
  obtain ⟨ch, low, width, kept, waiting, out⟩ := e
  simp only at hl hl2 hk hw1 hb
  obtain ⟨q, hq⟩ : ∃ q, q = low / 4294967296 := ⟨_, rfl⟩
  have HS : Hid ((⟨ch, low, width, kept, waiting, out⟩ : Enc).shift = ⟨ch, low % 16777216 * 256, width, low / 16777216 % 256, 1, out ++ shO kept q waiting⟩) := by
    show _ = _
    rw [Enc.shift, if_pos hl]
    obtain ⟨k, rfl⟩ : ∃ k, waiting = k + 1 := ⟨waiting - 1, by omega⟩
    simp only [shO, Nat.add_sub_cancel, hq]
  rw [HS.out]
  clear HS
  have H := Lib.hid h
  have d1 := blk_cell h.blk 1
  simp at d1
  have hq1 : q ≤ 1 := by omega
  have HQ := Lib.hid hq
  have e1 : (low : Int) / 4294967296 = (q : Int) := by omega
  have HL := Lib.hid hl2
  have HBB := Lib.hid hb
  clear h hq hb
  rcases hl with hl | hl
  · have e2 : (low : Int) < 4278190080 := by omega
    have t2 : decide ((low : Int) < 4278190080) = true := decide_eq_true e2
    have hli : (low : Int) < 8589934592 := by omega
    clear hl e2 hl2
    go_enter Try.func45, Try.ntmps45
    go_wp2_with fail
    clear d1
    go_loopw [] (fun wr => ∃ (j : Nat) (vo' : Value) (kj wj : Nat), wj + j = waiting ∧ kj < 256 ∧ Hid (kj = if j = 0 then kept else 255) ∧ Hid (RefAt wr g vc vo' ⟨ch, low, width, kj, wj, out ++ shO kept q j⟩) ∧ Hid (Keeps (fun k => k = g ∨ vo.ownBlock = some k) w wr) ∧ Hid (Moved w vo vo')) (fun wr => wtg (wr.cell? ⟨g, 4, none⟩))
    case atStart => exact ⟨0, vo, kept, waiting, by omega, hk, rfl, by show RefAt _ _ _ _ _; simpa [shO] using H.out, Keeps.refl _ _, Moved.refl _ _⟩
    case round =>
      obtain ⟨j, vo', kj, wj, hjw, hkj, HKJ, H1, HK, HM⟩ := hrel
      obtain ⟨ol, hol⟩ : ∃ ol, ol = out ++ shO kept q j := ⟨_, rfl⟩
      rw [← hol] at H1
      have holl : ol.length = out.length + j := by rw [hol]; simp [shO_len]
      have HOL := Lib.hid hol
      have HOLL := Lib.hid holl
      clear hol holl
      by_cases hgo : 0 < wj
      · obtain ⟨wk, rfl⟩ : ∃ wk, wj = wk + 1 := ⟨wj - 1, by omega⟩
        have hwk : (wk : Int) < 100000000000001 := by have := HBB.out; omega
        obtain ⟨S, hS⟩ : ∃ S : Nat → Prop, S = fun j => vo'.ownBlock = some j := ⟨_, rfl⟩
        have HSe := Lib.hid hS
        obtain ⟨x, hx⟩ : ∃ x, x = (kj + q) % 256 := ⟨_, rfl⟩
        have hx1 : x < 256 := by rw [hx]; exact Nat.mod_lt _ (by omega)
        have HX := Lib.hid hx
        have ex : ((kj : Int) + (q : Int)) % 256 = (x : Int) := by omega
        have d4 := blk_cell H1.out.blk 4
        simp at d4
        have DM : Hid (wtg (wr.cell? ⟨g, 4, none⟩) = wk + 1) := by
          show _ = _
          rw [d4]
          rfl
        clear hS hx
        go_wp2_with fail
        refine Hv.wp_region_hav2 (Keeps S) Grow (fun _ v w' => ∃ b, v = .slice (some ⟨b, 0, none⟩) 1 1 ∧ ¬ S b ∧ w'.heap[b]? = some (.cells #[.int .u8 ((x : Nat) : Int)] 5 (0, 0))) (hyS S _) [4, 8] [12, 1016] [(0, [0, 1, 2, 3, 5, 6, 7, 9]), (1, [4]), (1, [8]), (0, [10, 11]), (3, [12]), (2, [13]), (0, [14, 15]), (4, [16])] [(0, 0, [?o0, ?o1, ?o2, ?o3, ?o5, ?o6, ?o7, ?o9]), (1, 4, [?o4]), (1, 8, [?o8]), (0, 10, [?o10, ?o11]), (3, 12, [?o12]), (2, 13, [?o13]), (0, 14, [?o14, ?o15]), (4, 16, [?o16])] [?o0, ?o1, ?o2, ?o3, ?o4, ?o5, ?o6, ?o7, ?o8, ?o9, ?o10, ?o11, ?o12, ?o13, ?o14, ?o15, ?o16] (by kernel_rfl) (by kernel_rfl) (by kernel_rfl) ?_
        have HEd := Lib.hid H1.out.drew
        have KD : Keeps S wr.drew wr.drew := Keeps.refl _ _
        have K0 : Hid (Grow wr wr.drew) := (Keeps.refl _ wr).drew
        have hsg : ¬ S g := by rw [HSe.out]; exact H1.out.ne_out
        have HC : Hid (∀ w7, Keeps S wr.drew w7 → w7.cell? ⟨g, 5, none⟩ = some vo' ∧ w7.cell? ⟨g, 3, none⟩ = some (.int .i64 (kj : Nat))) := fun w7 h7 => by
          have hb7 := block_keep HEd.out.blk h7 hsg
          have d6 := blk_cell hb7 5
          have d4 := blk_cell hb7 3
          simp at d6 d4
          exact ⟨d6, d4⟩
        clear d4
        generalize wr.drew = wd at *
        refine Hv.seg_calm ?_
        go_wp2_with fail
        refine Hv.seg_held (by kernel_rfl) vo' (fun w7 hk7 => ?_) ?_
        · have c7 := (HC.out w7 hk7).1
          go_simp
        refine Hv.seg_held (by kernel_rfl) (.int .i64 (kj : Nat)) (fun w7 hk7 => ?_) ?_
        · have c7 := (HC.out w7 hk7).2
          go_simp
        refine Hv.seg_calm ?_
        go_wp2_with fail
        refine Hv.seg_free (by kernel_rfl) KD ⟨38, rfl, by simp⟩ (fun w4 q4 => ?_) (fun v w4 q4 hV => ?_)
        · go_wp2_with fail
          exact ⟨_, rfl, (Keeps.refl _ _).alloc _, w4.heap.size, rfl, fun h => by have := HEd.out.out.lt _ (by rw [HSe.out] at h; exact h); have := q4.size; omega, heap_alloc_new _ _⟩
        obtain ⟨b, rfl, hsb, hh⟩ := hV
        have hsrc := Lib.hid hh
        have Q4 := Lib.hid q4
        clear q4 KD hh
        refine Hv.seg_call (fun w2 q2 => ?_)
        have Q2 : Hid (Grow wd w2) := Grow.trans _ _ _ Q4.out q2
        have HO2 : Hid (w2.ownsRow 0 5 1 vo' ol.length (u8s ol)) := owns_keep HEd.out.out Q2.out fun _ _ h => h
        have HS2 : Hid (Src w2 1 (some ⟨b, 0, none⟩) 1 1 [.int .u8 ((x : Nat) : Int)]) := src_1 (block_keep hsrc.out q2 fun h => h)
        clear q2
        go_wp2_with (at_builtin; refine wpList_appS rfl (.tmp 30) (.tmp 38) 29 5 rfl Try.underlying29 Try.infoB rfl (by decide) 0 _ ol.length _ rfl HO2.out (Nat.zero_le _) _ 1 1 _ rfl HS2.out (by have h1 := HOLL.out; have h2 := HBB.out; unfold maxLen; omega) (by have h1 := HOLL.out; have h2 := HBB.out; omega) ?_)
        intro A5 c5 w5 ho5 hk5 hm5
        have HO5 : Hid (w5.ownsRow 0 5 1 (.slice A5 (ol.length + 1) c5) (ol ++ [x]).length (u8s (ol ++ [x]))) := by
          show World.ownsRow _ _ _ _ _ _ _
          rw [u8s_app, List.length_append]
          exact ho5
        have HR5 : Hid (Keeps S w2 w5) := by rw [HSe.out]; exact hk5
        have HK5 : Hid (Keeps S wd w5) := Keeps.trans (gk Q2.out) HR5.out fun _ _ h => h
        have HM5 : Hid (Moved w vo (.slice A5 (ol.length + 1) c5)) := HM.out.trans hm5 (Nat.le_trans (Nat.le_trans HK.out.size K0.out.size) Q2.out.size)
        have hB5 := block_keep HEd.out.blk HK5.out hsg
        have hf5 := blk_frozen hB5 5
        have hd5 := blk_cell hB5 5
        simp at hd5
        clear ho5 hk5 hm5 HO2 HS2 Q2 Q4 hsrc
        go_wp2_with fail
        refine ⟨HR5.out, ?_⟩
        refine Hv.seg_calm ?_
        go_wp2_with fail
        refine Hv.seg_last ?_
        go_wp2_with fail
        refine Hv.seg_end ⟨by kernel_rfl, ?_⟩
        have HE6 : Hid (RefAt (w5.setCell ⟨g, 5, none⟩ (.slice A5 (ol.length + 1) c5)) g vc (.slice A5 (ol.length + 1) c5) ⟨ch, low, width, kj, wk + 1, ol ++ [x]⟩) := ref_set HEd.out HK5.out (fun i h => by rw [HSe.out] at h; exact h) HO5.out rfl
        have HK6 : Hid (Keeps (fun k => k = g ∨ vo.ownBlock = some k) w (w5.setCell ⟨g, 5, none⟩ (.slice A5 (ol.length + 1) c5))) := (Keeps.trans (Keeps.trans HK.out K0.out fun _ _ h => h.elim) HK5.out fun i hi h => by
          rw [HSe.out] at h
          rcases HM.out with h9 | ⟨j, h9, hj⟩
          · rw [h9] at h; exact .inr h
          · rw [h9] at h; injection h with h; omega).setCell (p := ⟨g, 5, none⟩) (fun _ => .inl rfl) _
        clear hB5 hf5 hd5 HO5 HR5 HK5 HC hsb hsg HEd K0 H1 HK
        generalize w5.setCell ⟨g, 5, none⟩ (.slice A5 (ol.length + 1) c5) = w6 at *
        have d3 := blk_cell HE6.out.blk 3
        have d4 := blk_cell HE6.out.blk 4
        have f3 := blk_frozen HE6.out.blk 3
        have f4 := blk_frozen HE6.out.blk 4
        simp at d3 d4
        go_wp2_with fail
        have hb11 := blk_set (blk_set HE6.out.blk 3 (.int .i64 255)) 4 (.int .i64 ((wk : Nat) : Int))
        have hk11 := ((Keeps.refl (fun k => k = g) w6).setCell (p := ⟨g, 3, none⟩) (fun _ => rfl) (.int .i64 255)).setCell (p := ⟨g, 4, none⟩) (fun _ => rfl) (.int .i64 ((wk : Nat) : Int))
        have HE7 : Hid (RefAt ((w6.setCell ⟨g, 3, none⟩ (.int .i64 255)).setCell ⟨g, 4, none⟩ (.int .i64 ((wk : Nat) : Int))) g vc (.slice A5 (ol.length + 1) c5) ⟨ch, low, width, 255, wk, ol ++ [x]⟩) := ref_re HE6.out hk11 hb11 rfl rfl
        have HK7 : Hid (Keeps (fun k => k = g ∨ vo.ownBlock = some k) w ((w6.setCell ⟨g, 3, none⟩ (.int .i64 255)).setCell ⟨g, 4, none⟩ (.int .i64 ((wk : Nat) : Int)))) := Keeps.trans HK6.out hk11 fun _ _ h => .inl h
        have HOX : Hid (ol ++ [x] = out ++ shO kept q (j + 1)) := by
          show _ = _
          rw [shO_snoc, HOL.out, HX.out, HKJ.out, List.append_assoc]
        have DM2 : Hid (wtg (((w6.setCell ⟨g, 3, none⟩ (.int .i64 255)).setCell ⟨g, 4, none⟩ (.int .i64 ((wk : Nat) : Int))).cell? ⟨g, 4, none⟩) = wk) := by
          show _ = _
          have h9 := blk_cell HE7.out.blk 4
          simp at h9
          rw [h9]
          rfl
        rw [HOX.out] at HE7
        clear hb11 hk11 d3 d4 f3 f4 HE6 HK6
        generalize ((w6.setCell ⟨g, 3, none⟩ (.int .i64 255)).setCell ⟨g, 4, none⟩ (.int .i64 ((wk : Nat) : Int))) = w7 at *
        go_roundw
        case rel => exact ⟨j + 1, _, 255, wk, by omega, by omega, by simp [Hid], HE7.out, HK7.out, HM5.out⟩
        case measure => rw [DM.out, DM2.out]; omega
      · obtain rfl : wj = 0 := by omega
        obtain rfl : waiting = j := by omega
        have d1 := blk_cell H1.out.blk 1
        have d3 := blk_cell H1.out.blk 3
        have d4 := blk_cell H1.out.blk 4
        have f1 := blk_frozen H1.out.blk 1
        have f3 := blk_frozen H1.out.blk 3
        have f4 := blk_frozen H1.out.blk 4
        simp at d1 d3 d4
        go_wp2_with fail
        have eL : (low : Int) % 16777216 * 256 = ((low % 16777216 * 256 : Nat) : Int) := by omega
        have eK : (low : Int) / 16777216 % 256 = ((low / 16777216 % 256 : Nat) : Int) := by omega
        rw [eL, eK]
        have hb11 := blk_set (blk_set (blk_set H1.out.blk 3 (.int .i64 ((low / 16777216 % 256 : Nat) : Int))) 4 (.int .i64 1)) 1 (.int .u64 ((low % 16777216 * 256 : Nat) : Int))
        have hk11 := (((Keeps.refl (fun k => k = g) wr).setCell (p := ⟨g, 3, none⟩) (fun _ => rfl) (.int .i64 ((low / 16777216 % 256 : Nat) : Int))).setCell (p := ⟨g, 4, none⟩) (fun _ => rfl) (.int .i64 1)).setCell (p := ⟨g, 1, none⟩) (fun _ => rfl) (.int .u64 ((low % 16777216 * 256 : Nat) : Int))
        refine bodyPost_end (results_none rfl _ _ _) rfl ⟨rfl, _, ref_re H1.out hk11 ?_ rfl ?_, Keeps.trans HK.out hk11 (fun _ _ h => .inl h), HM.out⟩
        · exact hb11
        · exact HOL.out.symm
  · have e2 : ¬ (low : Int) < 4278190080 := by omega
    have t2 : decide ((low : Int) < 4278190080) = false := decide_eq_false e2
    have t3 : decide ((4294967295 : Int) < (low : Int)) = true := decide_eq_true (by omega)
    have hli : (low : Int) < 8589934592 := by omega
    clear hl e2 hl2
    go_enter Try.func45, Try.ntmps45
    go_wp2_with fail
    clear d1
    go_loopw [] (fun wr => ∃ (j : Nat) (vo' : Value) (kj wj : Nat), wj + j = waiting ∧ kj < 256 ∧ Hid (kj = if j = 0 then kept else 255) ∧ Hid (RefAt wr g vc vo' ⟨ch, low, width, kj, wj, out ++ shO kept q j⟩) ∧ Hid (Keeps (fun k => k = g ∨ vo.ownBlock = some k) w wr) ∧ Hid (Moved w vo vo')) (fun wr => wtg (wr.cell? ⟨g, 4, none⟩))
    case atStart => exact ⟨0, vo, kept, waiting, by omega, hk, rfl, by show RefAt _ _ _ _ _; simpa [shO] using H.out, Keeps.refl _ _, Moved.refl _ _⟩
    case round =>
      obtain ⟨j, vo', kj, wj, hjw, hkj, HKJ, H1, HK, HM⟩ := hrel
      obtain ⟨ol, hol⟩ : ∃ ol, ol = out ++ shO kept q j := ⟨_, rfl⟩
      rw [← hol] at H1
      have holl : ol.length = out.length + j := by rw [hol]; simp [shO_len]
      have HOL := Lib.hid hol
      have HOLL := Lib.hid holl
      clear hol holl
      by_cases hgo : 0 < wj
      · obtain ⟨wk, rfl⟩ : ∃ wk, wj = wk + 1 := ⟨wj - 1, by omega⟩
        have hwk : (wk : Int) < 100000000000001 := by have := HBB.out; omega
        obtain ⟨S, hS⟩ : ∃ S : Nat → Prop, S = fun j => vo'.ownBlock = some j := ⟨_, rfl⟩
        have HSe := Lib.hid hS
        obtain ⟨x, hx⟩ : ∃ x, x = (kj + q) % 256 := ⟨_, rfl⟩
        have hx1 : x < 256 := by rw [hx]; exact Nat.mod_lt _ (by omega)
        have HX := Lib.hid hx
        have ex : ((kj : Int) + (q : Int)) % 256 = (x : Int) := by omega
        have d4 := blk_cell H1.out.blk 4
        simp at d4
        have DM : Hid (wtg (wr.cell? ⟨g, 4, none⟩) = wk + 1) := by
          show _ = _
          rw [d4]
          rfl
        clear hS hx
        go_wp2_with fail
        refine Hv.wp_region_hav2 (Keeps S) Grow (fun _ v w' => ∃ b, v = .slice (some ⟨b, 0, none⟩) 1 1 ∧ ¬ S b ∧ w'.heap[b]? = some (.cells #[.int .u8 ((x : Nat) : Int)] 5 (0, 0))) (hyS S _) [4, 8] [12, 1016] [(0, [0, 1, 2, 3, 5, 6, 7, 9]), (1, [4]), (1, [8]), (0, [10, 11]), (3, [12]), (2, [13]), (0, [14, 15]), (4, [16])] [(0, 0, [?o0, ?o1, ?o2, ?o3, ?o5, ?o6, ?o7, ?o9]), (1, 4, [?o4]), (1, 8, [?o8]), (0, 10, [?o10, ?o11]), (3, 12, [?o12]), (2, 13, [?o13]), (0, 14, [?o14, ?o15]), (4, 16, [?o16])] [?o0, ?o1, ?o2, ?o3, ?o4, ?o5, ?o6, ?o7, ?o8, ?o9, ?o10, ?o11, ?o12, ?o13, ?o14, ?o15, ?o16] (by kernel_rfl) (by kernel_rfl) (by kernel_rfl) ?_
        have HEd := Lib.hid H1.out.drew
        have KD : Keeps S wr.drew wr.drew := Keeps.refl _ _
        have K0 : Hid (Grow wr wr.drew) := (Keeps.refl _ wr).drew
        have hsg : ¬ S g := by rw [HSe.out]; exact H1.out.ne_out
        have HC : Hid (∀ w7, Keeps S wr.drew w7 → w7.cell? ⟨g, 5, none⟩ = some vo' ∧ w7.cell? ⟨g, 3, none⟩ = some (.int .i64 (kj : Nat))) := fun w7 h7 => by
          have hb7 := block_keep HEd.out.blk h7 hsg
          have d6 := blk_cell hb7 5
          have d4 := blk_cell hb7 3
          simp at d6 d4
          exact ⟨d6, d4⟩
        clear d4
        generalize wr.drew = wd at *
        refine Hv.seg_calm ?_
        go_wp2_with fail
        refine Hv.seg_held (by kernel_rfl) vo' (fun w7 hk7 => ?_) ?_
        · have c7 := (HC.out w7 hk7).1
          go_simp
        refine Hv.seg_held (by kernel_rfl) (.int .i64 (kj : Nat)) (fun w7 hk7 => ?_) ?_
        · have c7 := (HC.out w7 hk7).2
          go_simp
        refine Hv.seg_calm ?_
        go_wp2_with fail
        refine Hv.seg_free (by kernel_rfl) KD ⟨38, rfl, by simp⟩ (fun w4 q4 => ?_) (fun v w4 q4 hV => ?_)
        · go_wp2_with fail
          exact ⟨_, rfl, (Keeps.refl _ _).alloc _, w4.heap.size, rfl, fun h => by have := HEd.out.out.lt _ (by rw [HSe.out] at h; exact h); have := q4.size; omega, heap_alloc_new _ _⟩
        obtain ⟨b, rfl, hsb, hh⟩ := hV
        have hsrc := Lib.hid hh
        have Q4 := Lib.hid q4
        clear q4 KD hh
        refine Hv.seg_call (fun w2 q2 => ?_)
        have Q2 : Hid (Grow wd w2) := Grow.trans _ _ _ Q4.out q2
        have HO2 : Hid (w2.ownsRow 0 5 1 vo' ol.length (u8s ol)) := owns_keep HEd.out.out Q2.out fun _ _ h => h
        have HS2 : Hid (Src w2 1 (some ⟨b, 0, none⟩) 1 1 [.int .u8 ((x : Nat) : Int)]) := src_1 (block_keep hsrc.out q2 fun h => h)
        clear q2
        go_wp2_with (at_builtin; refine wpList_appS rfl (.tmp 30) (.tmp 38) 29 5 rfl Try.underlying29 Try.infoB rfl (by decide) 0 _ ol.length _ rfl HO2.out (Nat.zero_le _) _ 1 1 _ rfl HS2.out (by have h1 := HOLL.out; have h2 := HBB.out; unfold maxLen; omega) (by have h1 := HOLL.out; have h2 := HBB.out; omega) ?_)
        intro A5 c5 w5 ho5 hk5 hm5
        have HO5 : Hid (w5.ownsRow 0 5 1 (.slice A5 (ol.length + 1) c5) (ol ++ [x]).length (u8s (ol ++ [x]))) := by
          show World.ownsRow _ _ _ _ _ _ _
          rw [u8s_app, List.length_append]
          exact ho5
        have HR5 : Hid (Keeps S w2 w5) := by rw [HSe.out]; exact hk5
        have HK5 : Hid (Keeps S wd w5) := Keeps.trans (gk Q2.out) HR5.out fun _ _ h => h
        have HM5 : Hid (Moved w vo (.slice A5 (ol.length + 1) c5)) := HM.out.trans hm5 (Nat.le_trans (Nat.le_trans HK.out.size K0.out.size) Q2.out.size)
        have hB5 := block_keep HEd.out.blk HK5.out hsg
        have hf5 := blk_frozen hB5 5
        have hd5 := blk_cell hB5 5
        simp at hd5
        clear ho5 hk5 hm5 HO2 HS2 Q2 Q4 hsrc
        go_wp2_with fail
        refine ⟨HR5.out, ?_⟩
        refine Hv.seg_calm ?_
        go_wp2_with fail
        refine Hv.seg_last ?_
        go_wp2_with fail
        refine Hv.seg_end ⟨by kernel_rfl, ?_⟩
        have HE6 : Hid (RefAt (w5.setCell ⟨g, 5, none⟩ (.slice A5 (ol.length + 1) c5)) g vc (.slice A5 (ol.length + 1) c5) ⟨ch, low, width, kj, wk + 1, ol ++ [x]⟩) := ref_set HEd.out HK5.out (fun i h => by rw [HSe.out] at h; exact h) HO5.out rfl
        have HK6 : Hid (Keeps (fun k => k = g ∨ vo.ownBlock = some k) w (w5.setCell ⟨g, 5, none⟩ (.slice A5 (ol.length + 1) c5))) := (Keeps.trans (Keeps.trans HK.out K0.out fun _ _ h => h.elim) HK5.out fun i hi h => by
          rw [HSe.out] at h
          rcases HM.out with h9 | ⟨j, h9, hj⟩
          · rw [h9] at h; exact .inr h
          · rw [h9] at h; injection h with h; omega).setCell (p := ⟨g, 5, none⟩) (fun _ => .inl rfl) _
        clear hB5 hf5 hd5 HO5 HR5 HK5 HC hsb hsg HEd K0 H1 HK
        generalize w5.setCell ⟨g, 5, none⟩ (.slice A5 (ol.length + 1) c5) = w6 at *
        have d3 := blk_cell HE6.out.blk 3
        have d4 := blk_cell HE6.out.blk 4
        have f3 := blk_frozen HE6.out.blk 3
        have f4 := blk_frozen HE6.out.blk 4
        simp at d3 d4
        go_wp2_with fail
        have hb11 := blk_set (blk_set HE6.out.blk 3 (.int .i64 255)) 4 (.int .i64 ((wk : Nat) : Int))
        have hk11 := ((Keeps.refl (fun k => k = g) w6).setCell (p := ⟨g, 3, none⟩) (fun _ => rfl) (.int .i64 255)).setCell (p := ⟨g, 4, none⟩) (fun _ => rfl) (.int .i64 ((wk : Nat) : Int))
        have HE7 : Hid (RefAt ((w6.setCell ⟨g, 3, none⟩ (.int .i64 255)).setCell ⟨g, 4, none⟩ (.int .i64 ((wk : Nat) : Int))) g vc (.slice A5 (ol.length + 1) c5) ⟨ch, low, width, 255, wk, ol ++ [x]⟩) := ref_re HE6.out hk11 hb11 rfl rfl
        have HK7 : Hid (Keeps (fun k => k = g ∨ vo.ownBlock = some k) w ((w6.setCell ⟨g, 3, none⟩ (.int .i64 255)).setCell ⟨g, 4, none⟩ (.int .i64 ((wk : Nat) : Int)))) := Keeps.trans HK6.out hk11 fun _ _ h => .inl h
        have HOX : Hid (ol ++ [x] = out ++ shO kept q (j + 1)) := by
          show _ = _
          rw [shO_snoc, HOL.out, HX.out, HKJ.out, List.append_assoc]
        have DM2 : Hid (wtg (((w6.setCell ⟨g, 3, none⟩ (.int .i64 255)).setCell ⟨g, 4, none⟩ (.int .i64 ((wk : Nat) : Int))).cell? ⟨g, 4, none⟩) = wk) := by
          show _ = _
          have h9 := blk_cell HE7.out.blk 4
          simp at h9
          rw [h9]
          rfl
        rw [HOX.out] at HE7
        clear hb11 hk11 d3 d4 f3 f4 HE6 HK6
        generalize ((w6.setCell ⟨g, 3, none⟩ (.int .i64 255)).setCell ⟨g, 4, none⟩ (.int .i64 ((wk : Nat) : Int))) = w7 at *
        go_roundw
        case rel => exact ⟨j + 1, _, 255, wk, by omega, by omega, by simp [Hid], HE7.out, HK7.out, HM5.out⟩
        case measure => rw [DM.out, DM2.out]; omega
      · obtain rfl : wj = 0 := by omega
        obtain rfl : waiting = j := by omega
        have d1 := blk_cell H1.out.blk 1
        have d3 := blk_cell H1.out.blk 3
        have d4 := blk_cell H1.out.blk 4
        have f1 := blk_frozen H1.out.blk 1
        have f3 := blk_frozen H1.out.blk 3
        have f4 := blk_frozen H1.out.blk 4
        simp at d1 d3 d4
        go_wp2_with fail
        have eL : (low : Int) % 16777216 * 256 = ((low % 16777216 * 256 : Nat) : Int) := by omega
        have eK : (low : Int) / 16777216 % 256 = ((low / 16777216 % 256 : Nat) : Int) := by omega
        rw [eL, eK]
        have hb11 := blk_set (blk_set (blk_set H1.out.blk 3 (.int .i64 ((low / 16777216 % 256 : Nat) : Int))) 4 (.int .i64 1)) 1 (.int .u64 ((low % 16777216 * 256 : Nat) : Int))
        have hk11 := (((Keeps.refl (fun k => k = g) wr).setCell (p := ⟨g, 3, none⟩) (fun _ => rfl) (.int .i64 ((low / 16777216 % 256 : Nat) : Int))).setCell (p := ⟨g, 4, none⟩) (fun _ => rfl) (.int .i64 1)).setCell (p := ⟨g, 1, none⟩) (fun _ => rfl) (.int .u64 ((low % 16777216 * 256 : Nat) : Int))
        refine bodyPost_end (results_none rfl _ _ _) rfl ⟨rfl, _, ref_re H1.out hk11 ?_ rfl ?_, Keeps.trans HK.out hk11 (fun _ _ h => .inl h), HM.out⟩
        · exact hb11
        · exact HOL.out.symm
set_option maxRecDepth 8000 in
set_option maxHeartbeats 4000000 in
theorem refShift_no (w : World) (g : Nat) (vc vo : Value) (e : Enc) (h : RefAt w g vc vo e) (hl : ¬ (e.low < 4278190080 ∨ 4294967296 ≤ e.low)) (hb : e.out.length + e.waiting ≤ 100000000000000) :
    Calls Try.prog 45 #[.pointer (some ⟨g, 0, none⟩)] w fun e' w' => e' = .returned (.tuple #[]) ∧ ∃ vo', RefAt w' g vc vo' e.shift ∧ Keeps (fun k => k = g ∨ vo.ownBlock = some k) w w' ∧ Moved w vo vo' := by
  have HS : Hid (e.shift = { e with waiting := e.waiting + 1, low := e.low % 16777216 * 256 }) := by
    show _ = _
    rw [Enc.shift, if_neg hl]
  rw [HS.out]
  clear HS
  obtain ⟨ch, low, width, kept, waiting, out⟩ := e
  simp only at *
  have H := Lib.hid h
  have d1 := blk_cell h.blk 1
  have d4 := blk_cell h.blk 4
  have f1 := blk_frozen h.blk 1
  have f4 := blk_frozen h.blk 4
  simp at d1 d4
  have t2 : decide ((low : Int) < 4278190080) = false := decide_eq_false (by omega)
  have t3 : decide ((4294967295 : Int) < (low : Int)) = false := decide_eq_false (by omega)
  have hli : (low : Int) < 8589934592 := by omega
  have hw : (waiting : Int) < 100000000000001 := by omega
  clear h hl hb
  go_enter Try.func45, Try.ntmps45
  go_wp2_with fail
  have eL : (low : Int) % 16777216 * 256 = ((low % 16777216 * 256 : Nat) : Int) := by omega
  rw [eL]
  have hb11 := blk_set (blk_set H.out.blk 4 (.int .i64 ((waiting : Int) + 1))) 1 (.int .u64 ((low % 16777216 * 256 : Nat) : Int))
  have hk11 := ((Keeps.refl (fun k => k = g) w).setCell (p := ⟨g, 4, none⟩) (fun _ => rfl) (.int .i64 ((waiting : Int) + 1))).setCell (p := ⟨g, 1, none⟩) (fun _ => rfl) (.int .u64 ((low % 16777216 * 256 : Nat) : Int))
  refine bodyPost_end (results_none rfl _ _ _) rfl ⟨rfl, _, ref_re H.out hk11 ?_ rfl rfl, hk11.mono (fun _ _ h => .inl h), Moved.refl _ _⟩
  exact hb11
theorem refShift_is (w : World) (g : Nat) (vc vo : Value) (e : Enc) (h : RefAt w g vc vo e) (hl2 : e.low < 8589934592) (hk : e.kept < 256) (hw1 : 1 ≤ e.waiting) (hb : e.out.length + e.waiting ≤ 100000000000000) :
    Calls Try.prog 45 #[.pointer (some ⟨g, 0, none⟩)] w fun e' w' => e' = .returned (.tuple #[]) ∧ ∃ vo', RefAt w' g vc vo' e.shift ∧ Keeps (fun k => k = g ∨ vo.ownBlock = some k) w w' ∧ Moved w vo vo' := by
  by_cases hl : e.low < 4278190080 ∨ 4294967296 ≤ e.low
  · exact refShift_yes w g vc vo e h hl hl2 hk hw1 hb
  · exact refShift_no w g vc vo e h hl hb
end Go.Proofs.Ytiikbpcaeoodjaa
