/- The encoder's shift: the program's walk. -/
import Derived.Test.YtiikbpcaeoodjaaEnA
import Derived.Test.YtiikbpcaeoodjaaRpU8
namespace Go.Proofs.Ytiikbpcaeoodjaa
open Go.RowKit
set_option linter.unusedVariables false
set_option linter.unusedSimpArgs false

def u8s (l : List Nat) : List Value := l.map fun p => Value.int .u8 (p : Nat)
theorem u8s_len (l : List Nat) : (u8s l).length = l.length := by simp [u8s]
theorem u8s_app (l m : List Nat) : u8s (l ++ m) = u8s l ++ u8s m := by simp [u8s]
theorem u8s_map (l : List Nat) : u8s l = (l.map (fun p => ((p : Nat) : Int))).map (Value.int .u8) := by simp [u8s]
theorem Try.infoB : (Try.prog.info? 5).map (fun i => (i.zero, i.size, i.bytes)) = some (some (.int .u8 0), 1, 1) := by kernel_rfl

/-- An encoder at block g: its chances' row at gc, its bytes' row vo. -/
structure EncAt (w : World) (g gc cc : Nat) (vo : Value) (e : Enc) : Prop where
  blk : w.heap[g]? = some (.cells #[.bool true, .slice (some ⟨gc, 0, none⟩) e.ch.length cc, .int .u64 e.low, .int .u32 e.width, .int .u8 e.kept, .int .i64 e.waiting, vo] 69 (0, 0))
  chs : w.ownsRow 0 88 1 (.slice (some ⟨gc, 0, none⟩) e.ch.length cc) e.ch.length (u16s e.ch)
  out : w.ownsRow 0 5 1 vo e.out.length (u8s e.out)
namespace EncAt
variable {w w' : World} {g gc cc : Nat} {vo : Value} {e : Enc}
theorem ne_out (h : EncAt w g gc cc vo e) : vo.ownBlock ≠ some g := row_ne h.out h.blk (by decide)
theorem ne_chs (h : EncAt w g gc cc vo e) : gc ≠ g := fun e9 => row_ne h.chs h.blk (by decide) (by rw [← e9]; rfl)
theorem chs_blk (h : EncAt w g gc cc vo e) : ∃ cs, w.heap[gc]? = some (.cells cs 88 (0, 0)) := by
  rcases h.chs.2 with ⟨hv, _⟩ | ⟨g9, cap, cur, hv, _, hh, _⟩
  · cases hv
  · injection hv with hv
    injection hv with hv
    injection hv with hv
    subst hv
    exact ⟨_, hh⟩
theorem ne_both (h : EncAt w g gc cc vo e) : vo.ownBlock ≠ some gc := by
  obtain ⟨cs, hc⟩ := h.chs_blk
  exact row_ne h.out hc (by decide)
theorem keep {S : Nat → Prop} (h : EncAt w g gc cc vo e) (k : Keeps S w w') (h1 : ¬ S g) (h2 : ¬ S gc) (h3 : ∀ i, vo.ownBlock = some i → ¬ S i) : EncAt w' g gc cc vo e :=
  ⟨block_keep h.blk k h1, owns_keep h.chs k (fun i hi => by have hi : gc = i := by simpa [Value.ownBlock] using hi
                                                            subst hi; exact h2), owns_keep h.out k h3⟩
theorem drew (h : EncAt w g gc cc vo e) : EncAt w.drew g gc cc vo e := ⟨h.blk, h.chs, h.out⟩
end EncAt

theorem and32 (low : Nat) (h : low < 8589934592) : bits .and .u64 ((low : Int) * 256) 4294967295 = ((low % 16777216 * 256 : Nat) : Int) := by
  have h1 := bits_and_u64_nat (low * 256) 4294967295 (by omega) (by omega)
  have e : (low * 256) &&& 4294967295 = (low * 256) % 4294967296 := Nat.and_two_pow_sub_one_eq_mod (low * 256) 32
  rw [e] at h1
  rw [show ((low : Int) * 256) = ((low * 256 : Nat) : Int) by omega]
  refine Eq.trans h1 ?_
  congr 1
  omega
theorem enc_re {w w' : World} {g gc cc : Nat} {vo : Value} {e e' : Enc} (h : EncAt w g gc cc vo e) (k : Keeps (fun k => k = g) w w')
    (hb : w'.heap[g]? = some (.cells #[.bool true, .slice (some ⟨gc, 0, none⟩) e.ch.length cc, .int .u64 e'.low, .int .u32 e'.width, .int .u8 e'.kept, .int .i64 e'.waiting, vo] 69 (0, 0))) (hc : e'.ch = e.ch) (ho : e'.out = e.out) : EncAt w' g gc cc vo e' := by
  refine ⟨by rw [hc]; exact hb, ?_, ?_⟩
  · rw [hc]
    exact owns_keep h.chs k (fun i hi h9 => h.ne_chs (by have hi : gc = i := by simpa [Value.ownBlock] using hi
                                                         rw [hi]; exact h9))
  · rw [ho]
    exact owns_keep h.out k (fun i hi h9 => h.ne_out (by rw [hi, h9]))
theorem nums_1 {k : IntKind} {w : World} {b : Nat} {x : Int} {e : TypeId} (h : w.heap[b]? = some (.cells #[.int k x] e (0, 0))) (hx : inKind k x) : Nums k w (some ⟨b, 0, none⟩) 1 1 [x] :=
  ⟨rfl, fun y hy => by rw [List.mem_singleton.1 hy]; exact hx, Nat.le_refl _, (fun h => nomatch h), fun _ => ⟨b, 0, rfl, fun j hj => by
    obtain rfl : j = 0 := by omega
    simpa using blk_cell h 0⟩⟩
theorem src_1 {w : World} {b : Nat} {u : Value} {e : TypeId} (h : w.heap[b]? = some (.cells #[u] e (0, 0))) (hu : u.oneCell' = true := by rfl) : Src w 1 (some ⟨b, 0, none⟩) 1 1 [u] := by
  refine ⟨rfl, (fun h => nomatch h), fun ad e j v hj => ?_, fun v hv => by rw [List.mem_singleton.1 hv]; exact hu⟩
  injection e with e
  subst e
  match j, hj with
  | 0, hj =>
    injection hj with hj
    subst hj
    simpa [Addr.add] using blk_cell h 0
theorem enc_set {w w5 : World} {g gc cc n c : Nat} {vo : Value} {A : Option Addr} {e e' : Enc} {S : Nat → Prop} (h : EncAt w g gc cc vo e) (k : Keeps S w w5) (hS : ∀ i, S i → vo.ownBlock = some i)
    (ho : w5.ownsRow 0 5 1 (.slice A n c) e'.out.length (u8s e'.out)) (he : e' = { e with out := e'.out }) : EncAt (w5.setCell ⟨g, 6, none⟩ (.slice A n c)) g gc cc (.slice A n c) e' := by
  have hb := block_keep h.blk k (fun h9 => h.ne_out (hS _ h9))
  have hne := row_ne ho hb (by decide)
  have hc := owns_keep h.chs k (fun i hi h9 => by
    have hi : gc = i := by simpa [Value.ownBlock] using hi
    subst hi
    exact h.ne_both (hS _ h9))
  rw [he] at ho ⊢
  refine ⟨?_, row_set_far hc (fun h9 => h.ne_chs (by simpa [Value.ownBlock] using h9)) _, row_set_far ho hne _⟩
  have h9 := blk_set hb 6 (.slice A n c)
  exact h9
theorem hyS (S : Nat → Prop) (x : Nat) : Hv.Hyp2 (Keeps S) Grow (fun _ v w' => ∃ b, v = .slice (some ⟨b, 0, none⟩) 1 1 ∧ ¬ S b ∧ w'.heap[b]? = some (.cells #[.int .u8 ((x : Nat) : Int)] 5 (0, 0))) :=
  ⟨Keeps.refl S, fun _ _ _ h k => Keeps.trans h k fun _ _ h => h, fun _ v w1 w2 h q => by
      obtain ⟨b, hv, hg, hh⟩ := h
      exact ⟨b, hv, hg, by rw [q.block b (Array.getElem?_eq_some_iff.1 hh).1 hg]; exact hh⟩,
    Keeps.refl _, fun _ _ _ h k => Keeps.trans h k fun _ _ h => h, fun _ _ h => ⟨h.os, h.tape, h.output, h.size, fun k hk _ => h.block k hk (fun h => h)⟩⟩

set_option maxRecDepth 8000 in
set_option maxHeartbeats 4000000 in
theorem shift_yes (w : World) (g gc cc : Nat) (vo : Value) (e : Enc) (h : EncAt w g gc cc vo e) (hl : e.low < 4278190080 ∨ 4294967296 ≤ e.low) (hl2 : e.low < 8589934592) (hk : e.kept < 256) (hw1 : 1 ≤ e.waiting) (hb : e.out.length + e.waiting ≤ 100000000000000) :
    Calls Try.prog 43 #[.pointer (some ⟨g, 0, none⟩)] w fun e' w' => e' = .returned (.tuple #[]) ∧ ∃ vo', EncAt w' g gc cc vo' e.shift ∧ Keeps (fun k => k = g ∨ vo.ownBlock = some k) w w' ∧ Moved w vo vo' := by
  have HS : Hid (e.shift = { e with out := e.out ++ (e.kept + e.low / 4294967296) % 256 :: List.replicate (e.waiting - 1) ((e.low / 4294967296 + 255) % 256), kept := e.low / 16777216 % 256, waiting := 1, low := e.low % 16777216 * 256 }) := by
    show _ = _
    rw [Enc.shift, if_pos hl]
  rw [HS.out]
  clear HS
  obtain ⟨ch, low, width, kept, waiting, out⟩ := e
  simp only at *
  obtain ⟨k, rfl⟩ : ∃ k, waiting = k + 1 := ⟨waiting - 1, by omega⟩
  have H := Lib.hid h
  have c2 := blk_cell h.blk 2
  have c4 := blk_cell h.blk 4
  have c5 := blk_cell h.blk 5
  have c6 := blk_cell h.blk 6
  simp at c2 c4 c5 c6
  obtain ⟨S, hS⟩ : ∃ S : Nat → Prop, S = fun j => vo.ownBlock = some j := ⟨_, rfl⟩
  have HSe := Lib.hid hS
  clear h hS
  rcases hl with hl | hl
  · have e1 : (low : Int) / 4294967296 = 0 := by omega
    have e2 : (low : Int) < 4278190080 := by omega
    clear hl
    go_enter Try.func43, Try.ntmps43
    go_wp2_with fail
    refine Hv.wp_region_hav2 (Keeps S) Grow (fun _ v w' => ∃ b, v = .slice (some ⟨b, 0, none⟩) 1 1 ∧ ¬ S b ∧ w'.heap[b]? = some (.cells #[.int .u8 ((kept : Nat) : Int)] 5 (0, 0))) (hyS S _) [4, 8] [11, 1015] [(0, [0, 1, 2, 3, 5, 6, 7, 9]), (1, [4]), (1, [8]), (0, [10]), (3, [11]), (2, [12]), (0, [13, 14]), (4, [15])] [(0, 0, [?o0, ?o1, ?o2, ?o3, ?o5, ?o6, ?o7, ?o9]), (1, 4, [?o4]), (1, 8, [?o8]), (0, 10, [?o10]), (3, 11, [?o11]), (2, 12, [?o12]), (0, 13, [?o13, ?o14]), (4, 15, [?o15])] [?o0, ?o1, ?o2, ?o3, ?o4, ?o5, ?o6, ?o7, ?o8, ?o9, ?o10, ?o11, ?o12, ?o13, ?o14, ?o15] (by kernel_rfl) (by kernel_rfl) (by kernel_rfl) ?_
    have HEd := Lib.hid H.out.drew
    have KD : Keeps S w.drew w.drew := Keeps.refl _ _
    have K0 : Hid (Grow w w.drew) := (Keeps.refl _ w).drew
    have hsg : ¬ S g := by rw [HSe.out]; exact H.out.ne_out
    have HC : Hid (∀ w7, Keeps S w.drew w7 → w7.cell? ⟨g, 6, none⟩ = some vo ∧ w7.cell? ⟨g, 4, none⟩ = some (.int .u8 (kept : Nat))) := fun w7 h7 => by
      have hb7 := block_keep HEd.out.blk h7 hsg
      have d6 := blk_cell hb7 6
      have d4 := blk_cell hb7 4
      simp at d6 d4
      exact ⟨d6, d4⟩
    clear c2 c4 c5 c6
    generalize w.drew = wd at *
    refine Hv.seg_calm ?_
    go_wp2_with fail
    refine Hv.seg_held (by kernel_rfl) vo (fun w7 hk7 => ?_) ?_
    · have c7 := (HC.out w7 hk7).1
      go_simp
    refine Hv.seg_held (by kernel_rfl) (.int .u8 (kept : Nat)) (fun w7 hk7 => ?_) ?_
    · have c7 := (HC.out w7 hk7).2
      go_simp
    refine Hv.seg_calm ?_
    go_wp2_with fail
    refine Hv.seg_free (by kernel_rfl) KD ⟨29, rfl, by simp⟩ (fun w4 q4 => ?_) (fun v w4 q4 hV => ?_)
    · go_wp2_with fail
      exact ⟨_, rfl, (Keeps.refl _ _).alloc _, w4.heap.size, rfl, fun h => by have := HEd.out.out.lt _ (by rw [HSe.out] at h; exact h); have := q4.size; omega, heap_alloc_new _ _⟩
    obtain ⟨b, rfl, hsb, hh⟩ := hV
    have hsrc := Lib.hid hh
    have Q4 := Lib.hid q4
    clear q4 KD hh
    refine Hv.seg_call (fun w2 q2 => ?_)
    have Q2 : Hid (Grow wd w2) := Grow.trans _ _ _ Q4.out q2
    have HO2 := Lib.hid (owns_keep HEd.out.out Q2.out fun _ _ h => h)
    have HS2 : Hid (Src w2 1 (some ⟨b, 0, none⟩) 1 1 [.int .u8 ((kept : Nat) : Int)]) := src_1 (block_keep hsrc.out q2 fun h => h)
    clear q2
    go_wp2_with (at_builtin; refine wpList_appS rfl (.tmp 22) (.tmp 29) 29 5 rfl Try.underlying29 Try.infoB rfl (by decide) 0 _ out.length _ rfl HO2.out (Nat.zero_le _) _ 1 1 _ rfl HS2.out (by unfold maxLen; omega) (by omega) ?_)
    intro A5 c5 w5 ho5 hk5 hm5
    have HO5 : Hid (w5.ownsRow 0 5 1 (.slice A5 (out.length + 1) c5) (out.length + 1) (u8s (out ++ [kept]))) := by
      show World.ownsRow _ _ _ _ _ _ _
      rw [u8s_app]
      exact ho5
    have HR5 : Hid (Keeps S w2 w5) := by rw [HSe.out]; exact hk5
    have HK5 : Hid (Keeps S wd w5) := Keeps.trans (gk Q2.out) HR5.out fun _ _ h => h
    have HM5 : Hid (Moved w vo (.slice A5 (out.length + 1) c5)) := by
      rcases hm5 with h | ⟨i, h, hi⟩
      · exact .inl h
      · exact .inr ⟨i, h, Nat.le_trans (Nat.le_trans K0.out.size Q2.out.size) hi⟩
    have hB5 := block_keep HEd.out.blk HK5.out hsg
    have hf5 := blk_frozen hB5 6
    have hd5 := blk_cell hB5 6
    simp at hd5
    clear ho5 hk5 hm5 HO2 HS2 Q2 Q4 hsrc
    go_wp2_with fail
    refine ⟨HR5.out, ?_⟩
    refine Hv.seg_calm ?_
    go_wp2_with fail
    refine Hv.seg_last ?_
    go_wp2_with fail
    refine Hv.seg_end ⟨by kernel_rfl, ?_⟩
    have HE6 : Hid (EncAt (w5.setCell ⟨g, 6, none⟩ (.slice A5 (out.length + 1) c5)) g gc cc (.slice A5 (out.length + 1) c5) ⟨ch, low, width, kept, k + 1, out ++ [kept]⟩) := enc_set HEd.out HK5.out (fun i h => by rw [HSe.out] at h; exact h) (by simpa using HO5.out) (by simp)
    have HK6 : Hid (Keeps (fun k => k = g ∨ vo.ownBlock = some k) w (w5.setCell ⟨g, 6, none⟩ (.slice A5 (out.length + 1) c5))) := (Keeps.trans (gk K0.out) HK5.out fun _ _ h => .inr (by rw [HSe.out] at h; exact h)).setCell (p := ⟨g, 6, none⟩) (fun _ => .inl rfl) _
    clear hB5 hf5 hd5 HO5 HR5 HK5 HC hsb hsg HEd K0
    generalize w5.setCell ⟨g, 6, none⟩ (.slice A5 (out.length + 1) c5) = w6 at *
    obtain ⟨vo1, hvo⟩ : ∃ vo1, vo1 = Value.slice A5 (out.length + 1) c5 := ⟨_, rfl⟩
    have c2 := blk_cell HE6.out.blk 2
    have c4 := blk_cell HE6.out.blk 4
    have c5' := blk_cell HE6.out.blk 5
    have c6 := blk_cell HE6.out.blk 6
    simp at c2 c4 c5' c6
    obtain ⟨S1, hS1⟩ : ∃ S1 : Nat → Prop, S1 = fun j => (Value.slice A5 (out.length + 1) c5).ownBlock = some j := ⟨_, rfl⟩
    have HS1 := Lib.hid hS1
    clear hS1 hvo
    go_wp2_with fail
    refine Hv.wp_region_hav2 (Keeps S1) Grow (fun _ v w' => ∃ b, v = .slice (some ⟨b, 0, none⟩) 1 1 ∧ ¬ S1 b ∧ w'.heap[b]? = some (.cells #[.int .u8 ((255 : Nat) : Int)] 5 (0, 0))) (hyS S1 _) [4, 11] [7, 1017] [(0, [0, 1, 2, 3, 5, 6, 8, 9, 10]), (1, [4]), (1, [11]), (0, [12]), (3, [7]), (2, [13]), (2, [14]), (0, [15, 16]), (4, [17])] [(0, 0, [?r0, ?r1, ?r2, ?r3, ?r5, ?r6, ?r8, ?r9, ?r10]), (1, 4, [?r4]), (1, 11, [?r11]), (0, 12, [?r12]), (3, 7, [?r7]), (2, 13, [?r13]), (2, 14, [?r14]), (0, 15, [?r15, ?r16]), (4, 17, [?r17])] [?r0, ?r1, ?r2, ?r3, ?r4, ?r5, ?r6, ?r7, ?r8, ?r9, ?r10, ?r11, ?r12, ?r13, ?r14, ?r15, ?r16, ?r17] (by kernel_rfl) (by kernel_rfl) (by kernel_rfl) ?_
    have HEd := Lib.hid HE6.out.drew
    have KD : Keeps S1 w6.drew w6.drew := Keeps.refl _ _
    have K0 : Hid (Grow w6 w6.drew) := (Keeps.refl _ w6).drew
    have hsg : ¬ S1 g := by rw [HS1.out]; exact HE6.out.ne_out
    have HC : Hid (∀ w7, Keeps S1 w6.drew w7 → w7.cell? ⟨g, 6, none⟩ = some (.slice A5 (out.length + 1) c5) ∧ w7.cell? ⟨g, 5, none⟩ = some (.int .i64 ((k + 1 : Nat) : Int))) := fun w7 h7 => by
      have hb7 := block_keep HEd.out.blk h7 hsg
      have d6 := blk_cell hb7 6
      have d5 := blk_cell hb7 5
      simp at d6 d5
      exact ⟨d6, by rw [d5]; simp⟩
    clear c2 c4 c5' c6
    generalize w6.drew = wd6 at *
    refine Hv.seg_calm ?_
    go_wp2_with fail
    refine Hv.seg_held (by kernel_rfl) (.slice A5 (out.length + 1) c5) (fun w7 hk7 => ?_) ?_
    · have c7 := (HC.out w7 hk7).1
      go_simp
    refine Hv.seg_held (by kernel_rfl) (.int .i64 ((k + 1 : Nat) : Int)) (fun w7 hk7 => ?_) ?_
    · have c7 := (HC.out w7 hk7).2
      go_simp
    refine Hv.seg_calm ?_
    go_wp2_with fail
    refine Hv.seg_free (by kernel_rfl) KD ⟨40, rfl, by simp⟩ (fun w4 q4 => ?_) (fun v w4 q4 hV => ?_)
    · go_wp2_with fail
      exact ⟨_, rfl, (Keeps.refl _ _).alloc _, w4.heap.size, rfl, fun h => by have := HEd.out.out.lt _ (by rw [HS1.out] at h; exact h); have := q4.size; omega, heap_alloc_new _ _⟩
    obtain ⟨b9, rfl, hsb, hh⟩ := hV
    have hsrc := Lib.hid hh
    have Q4 := Lib.hid q4
    clear q4 KD hh
    refine Hv.seg_call (fun w2 q2 => ?_)
    have Q2 : Hid (Grow wd6 w2) := Grow.trans _ _ _ Q4.out q2
    have HN2 : Hid (Nums .u8 w2 (some ⟨b9, 0, none⟩) 1 1 [((255 : Nat) : Int)]) := nums_1 (block_keep hsrc.out q2 fun h => h) (mk_u8 (by omega) (by omega))
    clear q2 Q4 hsrc
    go_wp2_with fail
    refine (rpU8_is w2 (some ⟨b9, 0, none⟩) 1 k 255 HN2.out (by omega)).mono ?_
    rintro e w3 ⟨rfl, ho3, hg3⟩
    have Q3 : Hid (Grow wd6 w3) := Grow.trans _ _ _ Q2.out hg3
    have HO3 := Lib.hid ho3
    have q3 : Keeps S1 w2 w3 := gk hg3
    clear ho3 hg3 HN2
    go_wp2_with fail
    refine ⟨q3, ?_⟩
    clear q3
    refine Hv.seg_call (fun w8 q8 => ?_)
    have Q8 : Hid (Grow wd6 w8) := Grow.trans _ _ _ Q3.out q8
    have HO8 : Hid (w8.ownsRow 0 5 1 (.slice A5 (out.length + 1) c5) (out.length + 1) (u8s (out ++ [kept]))) := by
      have h9 := owns_keep HEd.out.out Q8.out fun _ _ h => h
      show World.ownsRow _ _ _ _ _ _ _
      simpa using h9
    have HS8 : Hid (Src w8 1 (some ⟨w2.heap.size, 0, none⟩) k k ((List.replicate k ((255 : Nat) : Int)).map (Value.int .u8))) := src_own (owns_keep HO3.out q8 fun _ _ h => h) (fun u hu => by obtain ⟨y, _, rfl⟩ := List.mem_map.1 hu; rfl)
    clear q8 Q3 HO3
    go_wp2_with (at_builtin; refine wpList_appS rfl (.tmp 37) (.tmp 46) 29 5 rfl Try.underlying29 Try.infoB rfl (by decide) 0 _ (out.length + 1) _ rfl HO8.out (Nat.zero_le _) _ k k _ rfl HS8.out (by unfold maxLen; omega) (by omega) ?_)
    intro A9 c9 w9 ho9 hk9 hm9
    have HO9 : Hid (w9.ownsRow 0 5 1 (.slice A9 (out.length + 1 + k) c9) (out.length + 1 + k) (u8s (out ++ [kept] ++ List.replicate k 255))) := by
      show World.ownsRow _ _ _ _ _ _ _
      rw [u8s_app]
      simpa [u8s] using ho9
    have HR9 : Hid (Keeps S1 w8 w9) := by rw [HS1.out]; exact hk9
    have HK9 : Hid (Keeps S1 wd6 w9) := Keeps.trans (gk Q8.out) HR9.out fun _ _ h => h
    have HM9 : Hid (Moved w vo (.slice A9 (out.length + 1 + k) c9)) := HM5.out.trans hm9 (Nat.le_trans (Nat.le_trans HK6.out.size K0.out.size) Q8.out.size)
    have hB9 := block_keep HEd.out.blk HK9.out hsg
    have hf9 := blk_frozen hB9 6
    have hd9 := blk_cell hB9 6
    simp at hd9
    clear ho9 hk9 hm9 HO8 HS8 Q8
    go_wp2_with fail
    refine ⟨HR9.out, ?_⟩
    refine Hv.seg_calm ?_
    go_wp2_with fail
    refine Hv.seg_last ?_
    go_wp2_with fail
    refine Hv.seg_end ⟨by kernel_rfl, ?_⟩
    have HOL : Hid (w9.ownsRow 0 5 1 (.slice A9 (out.length + 1 + k) c9) (out ++ [kept] ++ List.replicate k 255).length (u8s (out ++ [kept] ++ List.replicate k 255))) := by
      have e9 : (out ++ [kept] ++ List.replicate k 255).length = out.length + 1 + k := by simp; omega
      show World.ownsRow _ _ _ _ _ _ _
      rw [e9]
      exact HO9.out
    have HE10 : Hid (EncAt (w9.setCell ⟨g, 6, none⟩ (.slice A9 (out.length + 1 + k) c9)) g gc cc (.slice A9 (out.length + 1 + k) c9) ⟨ch, low, width, kept, k + 1, out ++ [kept] ++ List.replicate k 255⟩) := enc_set HEd.out HK9.out (fun i h => by rw [HS1.out] at h; exact h) HOL.out rfl
    have HK10 : Hid (Keeps (fun k => k = g ∨ vo.ownBlock = some k) w (w9.setCell ⟨g, 6, none⟩ (.slice A9 (out.length + 1 + k) c9))) := (Keeps.trans (Keeps.trans HK6.out K0.out fun _ _ h => h.elim) HK9.out fun i hi h => by
      rw [HS1.out] at h
      rcases HM5.out with h9 | ⟨j, h9, hj⟩
      · rw [h9] at h; exact .inr h
      · rw [h9] at h
        injection h with h
        omega).setCell (p := ⟨g, 6, none⟩) (fun _ => .inl rfl) _
    clear hB9 hf9 hd9 HO9 HOL HR9 HK9 HC hsb hsg HEd K0
    generalize w9.setCell ⟨g, 6, none⟩ (.slice A9 (out.length + 1 + k) c9) = w10 at *
    have d2 := blk_cell HE10.out.blk 2
    have d4 := blk_cell HE10.out.blk 4
    have d5 := blk_cell HE10.out.blk 5
    have f2 := blk_frozen HE10.out.blk 2
    have f4 := blk_frozen HE10.out.blk 4
    have f5 := blk_frozen HE10.out.blk 5
    simp at d2 d4 d5
    go_wp2_with fail
    have eL : bits .and .u64 ((low : Int) * 256) 4294967295 = ((low % 16777216 * 256 : Nat) : Int) := and32 low hl2
    have eK : (low : Int) / 16777216 = ((low / 16777216 % 256 : Nat) : Int) := by omega
    rw [eL, eK]
    have hb11 := blk_set (blk_set (blk_set (blk_set HE10.out.blk 4 (.int .u8 ((low / 16777216 % 256 : Nat) : Int))) 5 (.int .i64 0)) 5 (.int .i64 1)) 2 (.int .u64 ((low % 16777216 * 256 : Nat) : Int))
    have hk11 := ((((Keeps.refl (fun k => k = g) w10).setCell (p := ⟨g, 4, none⟩) (fun _ => rfl) (.int .u8 ((low / 16777216 % 256 : Nat) : Int))).setCell (p := ⟨g, 5, none⟩) (fun _ => rfl) (.int .i64 0)).setCell (p := ⟨g, 5, none⟩) (fun _ => rfl) (.int .i64 1)).setCell (p := ⟨g, 2, none⟩) (fun _ => rfl) (.int .u64 ((low % 16777216 * 256 : Nat) : Int))
    have eq0 : low / 4294967296 = 0 := by omega
    refine bodyPost_end (results_none rfl _ _ _) rfl ⟨rfl, _, enc_re HE10.out hk11 ?_ rfl ?_, Keeps.trans HK10.out hk11 (fun _ _ h => .inl h), HM9.out⟩
    · exact hb11
    · simp only [eq0, Nat.add_sub_cancel]
      simp [Nat.mod_eq_of_lt hk]
  · have e1 : (low : Int) / 4294967296 = 1 := by omega
    have e2 : ¬ (low : Int) < 4278190080 := by omega
    clear hl
    go_enter Try.func43, Try.ntmps43
    go_wp2_with fail
    refine Hv.wp_region_hav2 (Keeps S) Grow (fun _ v w' => ∃ b, v = .slice (some ⟨b, 0, none⟩) 1 1 ∧ ¬ S b ∧ w'.heap[b]? = some (.cells #[.int .u8 (((kept + 1) % 256 : Nat) : Int)] 5 (0, 0))) (hyS S _) [4, 8] [11, 1015] [(0, [0, 1, 2, 3, 5, 6, 7, 9]), (1, [4]), (1, [8]), (0, [10]), (3, [11]), (2, [12]), (0, [13, 14]), (4, [15])] [(0, 0, [?o0, ?o1, ?o2, ?o3, ?o5, ?o6, ?o7, ?o9]), (1, 4, [?o4]), (1, 8, [?o8]), (0, 10, [?o10]), (3, 11, [?o11]), (2, 12, [?o12]), (0, 13, [?o13, ?o14]), (4, 15, [?o15])] [?o0, ?o1, ?o2, ?o3, ?o4, ?o5, ?o6, ?o7, ?o8, ?o9, ?o10, ?o11, ?o12, ?o13, ?o14, ?o15] (by kernel_rfl) (by kernel_rfl) (by kernel_rfl) ?_
    have HEd := Lib.hid H.out.drew
    have KD : Keeps S w.drew w.drew := Keeps.refl _ _
    have K0 : Hid (Grow w w.drew) := (Keeps.refl _ w).drew
    have hsg : ¬ S g := by rw [HSe.out]; exact H.out.ne_out
    have HC : Hid (∀ w7, Keeps S w.drew w7 → w7.cell? ⟨g, 6, none⟩ = some vo ∧ w7.cell? ⟨g, 4, none⟩ = some (.int .u8 (kept : Nat))) := fun w7 h7 => by
      have hb7 := block_keep HEd.out.blk h7 hsg
      have d6 := blk_cell hb7 6
      have d4 := blk_cell hb7 4
      simp at d6 d4
      exact ⟨d6, d4⟩
    clear c2 c4 c5 c6
    generalize w.drew = wd at *
    refine Hv.seg_calm ?_
    go_wp2_with fail
    refine Hv.seg_held (by kernel_rfl) vo (fun w7 hk7 => ?_) ?_
    · have c7 := (HC.out w7 hk7).1
      go_simp
    refine Hv.seg_held (by kernel_rfl) (.int .u8 (kept : Nat)) (fun w7 hk7 => ?_) ?_
    · have c7 := (HC.out w7 hk7).2
      go_simp
    refine Hv.seg_calm ?_
    go_wp2_with fail
    refine Hv.seg_free (by kernel_rfl) KD ⟨29, rfl, by simp⟩ (fun w4 q4 => ?_) (fun v w4 q4 hV => ?_)
    · go_wp2_with fail
      exact ⟨_, rfl, (Keeps.refl _ _).alloc _, w4.heap.size, rfl, fun h => by have := HEd.out.out.lt _ (by rw [HSe.out] at h; exact h); have := q4.size; omega, heap_alloc_new _ _⟩
    obtain ⟨b, rfl, hsb, hh⟩ := hV
    have hsrc := Lib.hid hh
    have Q4 := Lib.hid q4
    clear q4 KD hh
    refine Hv.seg_call (fun w2 q2 => ?_)
    have Q2 : Hid (Grow wd w2) := Grow.trans _ _ _ Q4.out q2
    have HO2 := Lib.hid (owns_keep HEd.out.out Q2.out fun _ _ h => h)
    have HS2 : Hid (Src w2 1 (some ⟨b, 0, none⟩) 1 1 [.int .u8 (((kept + 1) % 256 : Nat) : Int)]) := src_1 (block_keep hsrc.out q2 fun h => h)
    clear q2
    go_wp2_with (at_builtin; refine wpList_appS rfl (.tmp 22) (.tmp 29) 29 5 rfl Try.underlying29 Try.infoB rfl (by decide) 0 _ out.length _ rfl HO2.out (Nat.zero_le _) _ 1 1 _ rfl HS2.out (by unfold maxLen; omega) (by omega) ?_)
    intro A5 c5 w5 ho5 hk5 hm5
    have HO5 : Hid (w5.ownsRow 0 5 1 (.slice A5 (out.length + 1) c5) (out.length + 1) (u8s (out ++ [(kept + 1) % 256]))) := by
      show World.ownsRow _ _ _ _ _ _ _
      rw [u8s_app]
      exact ho5
    have HR5 : Hid (Keeps S w2 w5) := by rw [HSe.out]; exact hk5
    have HK5 : Hid (Keeps S wd w5) := Keeps.trans (gk Q2.out) HR5.out fun _ _ h => h
    have HM5 : Hid (Moved w vo (.slice A5 (out.length + 1) c5)) := by
      rcases hm5 with h | ⟨i, h, hi⟩
      · exact .inl h
      · exact .inr ⟨i, h, Nat.le_trans (Nat.le_trans K0.out.size Q2.out.size) hi⟩
    have hB5 := block_keep HEd.out.blk HK5.out hsg
    have hf5 := blk_frozen hB5 6
    have hd5 := blk_cell hB5 6
    simp at hd5
    clear ho5 hk5 hm5 HO2 HS2 Q2 Q4 hsrc
    go_wp2_with fail
    refine ⟨HR5.out, ?_⟩
    refine Hv.seg_calm ?_
    go_wp2_with fail
    refine Hv.seg_last ?_
    go_wp2_with fail
    refine Hv.seg_end ⟨by kernel_rfl, ?_⟩
    have HE6 : Hid (EncAt (w5.setCell ⟨g, 6, none⟩ (.slice A5 (out.length + 1) c5)) g gc cc (.slice A5 (out.length + 1) c5) ⟨ch, low, width, kept, k + 1, out ++ [(kept + 1) % 256]⟩) := enc_set HEd.out HK5.out (fun i h => by rw [HSe.out] at h; exact h) (by simpa using HO5.out) (by simp)
    have HK6 : Hid (Keeps (fun k => k = g ∨ vo.ownBlock = some k) w (w5.setCell ⟨g, 6, none⟩ (.slice A5 (out.length + 1) c5))) := (Keeps.trans (gk K0.out) HK5.out fun _ _ h => .inr (by rw [HSe.out] at h; exact h)).setCell (p := ⟨g, 6, none⟩) (fun _ => .inl rfl) _
    clear hB5 hf5 hd5 HO5 HR5 HK5 HC hsb hsg HEd K0
    generalize w5.setCell ⟨g, 6, none⟩ (.slice A5 (out.length + 1) c5) = w6 at *
    obtain ⟨vo1, hvo⟩ : ∃ vo1, vo1 = Value.slice A5 (out.length + 1) c5 := ⟨_, rfl⟩
    have c2 := blk_cell HE6.out.blk 2
    have c4 := blk_cell HE6.out.blk 4
    have c5' := blk_cell HE6.out.blk 5
    have c6 := blk_cell HE6.out.blk 6
    simp at c2 c4 c5' c6
    obtain ⟨S1, hS1⟩ : ∃ S1 : Nat → Prop, S1 = fun j => (Value.slice A5 (out.length + 1) c5).ownBlock = some j := ⟨_, rfl⟩
    have HS1 := Lib.hid hS1
    clear hS1 hvo
    go_wp2_with fail
    refine Hv.wp_region_hav2 (Keeps S1) Grow (fun _ v w' => ∃ b, v = .slice (some ⟨b, 0, none⟩) 1 1 ∧ ¬ S1 b ∧ w'.heap[b]? = some (.cells #[.int .u8 ((0 : Nat) : Int)] 5 (0, 0))) (hyS S1 _) [4, 11] [7, 1017] [(0, [0, 1, 2, 3, 5, 6, 8, 9, 10]), (1, [4]), (1, [11]), (0, [12]), (3, [7]), (2, [13]), (2, [14]), (0, [15, 16]), (4, [17])] [(0, 0, [?r0, ?r1, ?r2, ?r3, ?r5, ?r6, ?r8, ?r9, ?r10]), (1, 4, [?r4]), (1, 11, [?r11]), (0, 12, [?r12]), (3, 7, [?r7]), (2, 13, [?r13]), (2, 14, [?r14]), (0, 15, [?r15, ?r16]), (4, 17, [?r17])] [?r0, ?r1, ?r2, ?r3, ?r4, ?r5, ?r6, ?r7, ?r8, ?r9, ?r10, ?r11, ?r12, ?r13, ?r14, ?r15, ?r16, ?r17] (by kernel_rfl) (by kernel_rfl) (by kernel_rfl) ?_
    have HEd := Lib.hid HE6.out.drew
    have KD : Keeps S1 w6.drew w6.drew := Keeps.refl _ _
    have K0 : Hid (Grow w6 w6.drew) := (Keeps.refl _ w6).drew
    have hsg : ¬ S1 g := by rw [HS1.out]; exact HE6.out.ne_out
    have HC : Hid (∀ w7, Keeps S1 w6.drew w7 → w7.cell? ⟨g, 6, none⟩ = some (.slice A5 (out.length + 1) c5) ∧ w7.cell? ⟨g, 5, none⟩ = some (.int .i64 ((k + 1 : Nat) : Int))) := fun w7 h7 => by
      have hb7 := block_keep HEd.out.blk h7 hsg
      have d6 := blk_cell hb7 6
      have d5 := blk_cell hb7 5
      simp at d6 d5
      exact ⟨d6, by rw [d5]; simp⟩
    clear c2 c4 c5' c6
    generalize w6.drew = wd6 at *
    refine Hv.seg_calm ?_
    go_wp2_with fail
    refine Hv.seg_held (by kernel_rfl) (.slice A5 (out.length + 1) c5) (fun w7 hk7 => ?_) ?_
    · have c7 := (HC.out w7 hk7).1
      go_simp
    refine Hv.seg_held (by kernel_rfl) (.int .i64 ((k + 1 : Nat) : Int)) (fun w7 hk7 => ?_) ?_
    · have c7 := (HC.out w7 hk7).2
      go_simp
    refine Hv.seg_calm ?_
    go_wp2_with fail
    refine Hv.seg_free (by kernel_rfl) KD ⟨40, rfl, by simp⟩ (fun w4 q4 => ?_) (fun v w4 q4 hV => ?_)
    · go_wp2_with fail
      exact ⟨_, rfl, (Keeps.refl _ _).alloc _, w4.heap.size, rfl, fun h => by have := HEd.out.out.lt _ (by rw [HS1.out] at h; exact h); have := q4.size; omega, heap_alloc_new _ _⟩
    obtain ⟨b9, rfl, hsb, hh⟩ := hV
    have hsrc := Lib.hid hh
    have Q4 := Lib.hid q4
    clear q4 KD hh
    refine Hv.seg_call (fun w2 q2 => ?_)
    have Q2 : Hid (Grow wd6 w2) := Grow.trans _ _ _ Q4.out q2
    have HN2 : Hid (Nums .u8 w2 (some ⟨b9, 0, none⟩) 1 1 [((0 : Nat) : Int)]) := nums_1 (block_keep hsrc.out q2 fun h => h) (mk_u8 (by omega) (by omega))
    clear q2 Q4 hsrc
    go_wp2_with fail
    refine (rpU8_is w2 (some ⟨b9, 0, none⟩) 1 k 0 HN2.out (by omega)).mono ?_
    rintro e w3 ⟨rfl, ho3, hg3⟩
    have Q3 : Hid (Grow wd6 w3) := Grow.trans _ _ _ Q2.out hg3
    have HO3 := Lib.hid ho3
    have q3 : Keeps S1 w2 w3 := gk hg3
    clear ho3 hg3 HN2
    go_wp2_with fail
    refine ⟨q3, ?_⟩
    clear q3
    refine Hv.seg_call (fun w8 q8 => ?_)
    have Q8 : Hid (Grow wd6 w8) := Grow.trans _ _ _ Q3.out q8
    have HO8 : Hid (w8.ownsRow 0 5 1 (.slice A5 (out.length + 1) c5) (out.length + 1) (u8s (out ++ [(kept + 1) % 256]))) := by
      have h9 := owns_keep HEd.out.out Q8.out fun _ _ h => h
      show World.ownsRow _ _ _ _ _ _ _
      simpa using h9
    have HS8 : Hid (Src w8 1 (some ⟨w2.heap.size, 0, none⟩) k k ((List.replicate k ((0 : Nat) : Int)).map (Value.int .u8))) := src_own (owns_keep HO3.out q8 fun _ _ h => h) (fun u hu => by obtain ⟨y, _, rfl⟩ := List.mem_map.1 hu; rfl)
    clear q8 Q3 HO3
    go_wp2_with (at_builtin; refine wpList_appS rfl (.tmp 37) (.tmp 46) 29 5 rfl Try.underlying29 Try.infoB rfl (by decide) 0 _ (out.length + 1) _ rfl HO8.out (Nat.zero_le _) _ k k _ rfl HS8.out (by unfold maxLen; omega) (by omega) ?_)
    intro A9 c9 w9 ho9 hk9 hm9
    have HO9 : Hid (w9.ownsRow 0 5 1 (.slice A9 (out.length + 1 + k) c9) (out.length + 1 + k) (u8s (out ++ [(kept + 1) % 256] ++ List.replicate k 0))) := by
      show World.ownsRow _ _ _ _ _ _ _
      rw [u8s_app]
      simpa [u8s] using ho9
    have HR9 : Hid (Keeps S1 w8 w9) := by rw [HS1.out]; exact hk9
    have HK9 : Hid (Keeps S1 wd6 w9) := Keeps.trans (gk Q8.out) HR9.out fun _ _ h => h
    have HM9 : Hid (Moved w vo (.slice A9 (out.length + 1 + k) c9)) := HM5.out.trans hm9 (Nat.le_trans (Nat.le_trans HK6.out.size K0.out.size) Q8.out.size)
    have hB9 := block_keep HEd.out.blk HK9.out hsg
    have hf9 := blk_frozen hB9 6
    have hd9 := blk_cell hB9 6
    simp at hd9
    clear ho9 hk9 hm9 HO8 HS8 Q8
    go_wp2_with fail
    refine ⟨HR9.out, ?_⟩
    refine Hv.seg_calm ?_
    go_wp2_with fail
    refine Hv.seg_last ?_
    go_wp2_with fail
    refine Hv.seg_end ⟨by kernel_rfl, ?_⟩
    have HOL : Hid (w9.ownsRow 0 5 1 (.slice A9 (out.length + 1 + k) c9) (out ++ [(kept + 1) % 256] ++ List.replicate k 0).length (u8s (out ++ [(kept + 1) % 256] ++ List.replicate k 0))) := by
      have e9 : (out ++ [(kept + 1) % 256] ++ List.replicate k 0).length = out.length + 1 + k := by simp; omega
      show World.ownsRow _ _ _ _ _ _ _
      rw [e9]
      exact HO9.out
    have HE10 : Hid (EncAt (w9.setCell ⟨g, 6, none⟩ (.slice A9 (out.length + 1 + k) c9)) g gc cc (.slice A9 (out.length + 1 + k) c9) ⟨ch, low, width, kept, k + 1, out ++ [(kept + 1) % 256] ++ List.replicate k 0⟩) := enc_set HEd.out HK9.out (fun i h => by rw [HS1.out] at h; exact h) HOL.out rfl
    have HK10 : Hid (Keeps (fun k => k = g ∨ vo.ownBlock = some k) w (w9.setCell ⟨g, 6, none⟩ (.slice A9 (out.length + 1 + k) c9))) := (Keeps.trans (Keeps.trans HK6.out K0.out fun _ _ h => h.elim) HK9.out fun i hi h => by
      rw [HS1.out] at h
      rcases HM5.out with h9 | ⟨j, h9, hj⟩
      · rw [h9] at h; exact .inr h
      · rw [h9] at h
        injection h with h
        omega).setCell (p := ⟨g, 6, none⟩) (fun _ => .inl rfl) _
    clear hB9 hf9 hd9 HO9 HOL HR9 HK9 HC hsb hsg HEd K0
    generalize w9.setCell ⟨g, 6, none⟩ (.slice A9 (out.length + 1 + k) c9) = w10 at *
    have d2 := blk_cell HE10.out.blk 2
    have d4 := blk_cell HE10.out.blk 4
    have d5 := blk_cell HE10.out.blk 5
    have f2 := blk_frozen HE10.out.blk 2
    have f4 := blk_frozen HE10.out.blk 4
    have f5 := blk_frozen HE10.out.blk 5
    simp at d2 d4 d5
    go_wp2_with fail
    have eL : bits .and .u64 ((low : Int) * 256) 4294967295 = ((low % 16777216 * 256 : Nat) : Int) := and32 low hl2
    have eK : (low : Int) / 16777216 % 256 = ((low / 16777216 % 256 : Nat) : Int) := by omega
    rw [eL, eK]
    have hb11 := blk_set (blk_set (blk_set (blk_set HE10.out.blk 4 (.int .u8 ((low / 16777216 % 256 : Nat) : Int))) 5 (.int .i64 0)) 5 (.int .i64 1)) 2 (.int .u64 ((low % 16777216 * 256 : Nat) : Int))
    have hk11 := ((((Keeps.refl (fun k => k = g) w10).setCell (p := ⟨g, 4, none⟩) (fun _ => rfl) (.int .u8 ((low / 16777216 % 256 : Nat) : Int))).setCell (p := ⟨g, 5, none⟩) (fun _ => rfl) (.int .i64 0)).setCell (p := ⟨g, 5, none⟩) (fun _ => rfl) (.int .i64 1)).setCell (p := ⟨g, 2, none⟩) (fun _ => rfl) (.int .u64 ((low % 16777216 * 256 : Nat) : Int))
    have eq0 : low / 4294967296 = 1 := by omega
    refine bodyPost_end (results_none rfl _ _ _) rfl ⟨rfl, _, enc_re HE10.out hk11 ?_ rfl ?_, Keeps.trans HK10.out hk11 (fun _ _ h => .inl h), HM9.out⟩
    · exact hb11
    · simp only [eq0, Nat.add_sub_cancel]
      simp [Nat.mod_eq_of_lt hk]

set_option maxRecDepth 8000 in
set_option maxHeartbeats 4000000 in
theorem shift_no (w : World) (g gc cc : Nat) (vo : Value) (e : Enc) (h : EncAt w g gc cc vo e) (hl : ¬ (e.low < 4278190080 ∨ 4294967296 ≤ e.low)) (hb : e.out.length + e.waiting ≤ 100000000000000) :
    Calls Try.prog 43 #[.pointer (some ⟨g, 0, none⟩)] w fun e' w' => e' = .returned (.tuple #[]) ∧ ∃ vo', EncAt w' g gc cc vo' e.shift ∧ Keeps (fun k => k = g ∨ vo.ownBlock = some k) w w' ∧ Moved w vo vo' := by
  have HS : Hid (e.shift = { e with waiting := e.waiting + 1, low := e.low % 16777216 * 256 }) := by
    show _ = _
    rw [Enc.shift, if_neg hl]
  rw [HS.out]
  clear HS
  obtain ⟨ch, low, width, kept, waiting, out⟩ := e
  simp only at *
  have H := Lib.hid h
  have d2 := blk_cell h.blk 2
  have d5 := blk_cell h.blk 5
  have f2 := blk_frozen h.blk 2
  have f5 := blk_frozen h.blk 5
  simp at d2 d5
  have e1 : (low : Int) / 4294967296 = 0 := by omega
  have e2 : ¬ (low : Int) < 4278190080 := by omega
  have hl3 : low < 8589934592 := by omega
  clear h hl
  go_enter Try.func43, Try.ntmps43
  go_wp2_with fail
  have eL : bits .and .u64 ((low : Int) * 256) 4294967295 = ((low % 16777216 * 256 : Nat) : Int) := and32 low hl3
  rw [eL]
  have hb11 := blk_set (blk_set H.out.blk 5 (.int .i64 ((waiting : Int) + 1))) 2 (.int .u64 ((low % 16777216 * 256 : Nat) : Int))
  have hk11 := ((Keeps.refl (fun k => k = g) w).setCell (p := ⟨g, 5, none⟩) (fun _ => rfl) (.int .i64 ((waiting : Int) + 1))).setCell (p := ⟨g, 2, none⟩) (fun _ => rfl) (.int .u64 ((low % 16777216 * 256 : Nat) : Int))
  refine bodyPost_end (results_none rfl _ _ _) rfl ⟨rfl, _, enc_re H.out hk11 ?_ rfl rfl, hk11.mono (fun _ _ h => .inl h), Moved.refl _ _⟩
  exact hb11
theorem shift_is (w : World) (g gc cc : Nat) (vo : Value) (e : Enc) (h : EncAt w g gc cc vo e) (hl2 : e.low < 8589934592) (hk : e.kept < 256) (hw1 : 1 ≤ e.waiting) (hb : e.out.length + e.waiting ≤ 100000000000000) :
    Calls Try.prog 43 #[.pointer (some ⟨g, 0, none⟩)] w fun e' w' => e' = .returned (.tuple #[]) ∧ ∃ vo', EncAt w' g gc cc vo' e.shift ∧ Keeps (fun k => k = g ∨ vo.ownBlock = some k) w w' ∧ Moved w vo vo' := by
  by_cases hl : e.low < 4278190080 ∨ 4294967296 ≤ e.low
  · exact shift_yes w g gc cc vo e h hl hl2 hk hw1 hb
  · exact shift_no w g gc cc vo e h hl hb
end Go.Proofs.Ytiikbpcaeoodjaa
