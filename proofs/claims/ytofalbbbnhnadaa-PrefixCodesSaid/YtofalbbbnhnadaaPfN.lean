/- prefix: New. -/
import Derived.Test.YtofalbbbnhnadaaPfS
namespace Go.Proofs.Ytofalbbbnhnadaa
open Go.RowKit
set_option linter.unusedVariables false
set_option linter.unusedSimpArgs false

theorem Try.infoWd : (Try.prog.info? 73).map (fun i => (i.zero, i.size, i.bytes)) = some (some (.agg #[.int .u32 0, .int .i64 0]), 2, 16) := by kernel_rfl
theorem Try.infoI4 : (Try.prog.info? 3).map (fun i => (i.zero, i.size, i.bytes)) = some (some (.int .i64 0), 1, 8) := by kernel_rfl
theorem hyG4 : Hv.Hyp2 Grow Grow (fun _ _ _ => True) := ⟨Keeps.refl _, fun _ _ _ h k => Keeps.trans h k fun _ _ h => h, fun _ _ _ _ _ _ => trivial, Keeps.refl _, fun _ _ _ h k => Keeps.trans h k fun _ _ h => h, fun _ _ h => h⟩
/-- Only the numbers of the code at g may turn. -/
def KR (g : Nat) (w w' : World) : Prop := Keeps (fun k => k = g) w w' ∧ ∀ i v, (i = 0 ∨ i = 67 ∨ i = 68) → w.cell? ⟨g, i, none⟩ = some v → w'.cell? ⟨g, i, none⟩ = some v
theorem hyR (g : Nat) : Hv.Hyp2 (KR g) Grow (fun _ _ _ => True) :=
  ⟨fun w => ⟨Keeps.refl _ w, fun _ _ _ h => h⟩, fun _ _ _ h k => ⟨Keeps.trans h.1 k.1 fun _ _ h => h, fun i v hi hc => k.2 i v hi (h.2 i v hi hc)⟩, fun _ _ _ _ _ _ => trivial, Keeps.refl _, fun _ _ _ h k => Keeps.trans h k fun _ _ h => h, fun _ _ h => ⟨Keeps.mono h fun _ _ h => h.elim, fun i v _ hc => ckp hc h (fun h => h)⟩⟩
/-- The tables as far as the length l. -/
def Tabs (ls : List Nat) (l : Nat) (F C P : Nat → Nat) : Prop := ∀ k, 1 ≤ k → k ≤ l → F k = (outK ls (k - 1)).up.next ∧ P k = (outK ls (k - 1)).srt.length ∧ C k = (outK ls k).srt.length - (outK ls (k - 1)).srt.length
/-- May lengths be so? -/
def okL (most : Int) (m : Nat) (xs : List Int) : Bool := decide (1 ≤ most ∧ most ≤ 20 ∧ 1 ≤ m ∧ m ≤ 65536) && !(xs.any (oddL most.toNat))
set_option maxRecDepth 8000 in
set_option maxHeartbeats 2000000 in
theorem pNew_bad (w : World) (A : Option Addr) (m c : Nat) (xs : List Int) (hx : Nums .i64 w A m c xs) (most : Int) (loose : Bool) (hb : okL most m xs = false) (hmx : m ≤ 140737488355328) :
    Calls Try.prog 8 #[.slice A m c, .int .i64 most, .bool loose] w fun e w' => e = .returned (.tuple #[.pointer none, .int .i64 2]) ∧ Grow w w' := by
  have HG0 : Hid (Grow w (w.alloc (.cells #[.int .i64 most] 3))) := (Keeps.refl _ w).alloc _
  by_cases h1 : most < 1
  · clear hx hb
    go_enter Try.func8, Try.ntmps8
    go_wp2_with fail
    go_ret2
    exact ⟨rfl, HG0.out⟩
  by_cases h2 : 20 < most
  · clear hx hb
    go_enter Try.func8, Try.ntmps8
    go_wp2_with fail
    go_ret2
    exact ⟨rfl, HG0.out⟩
  by_cases h3 : m < 1
  · have h3i : (m : Int) < 1 := by omega
    clear hx hb h3
    go_enter Try.func8, Try.ntmps8
    go_wp2_with fail
    go_ret2
    exact ⟨rfl, HG0.out⟩
  by_cases h4 : 65536 < m
  · have h4i : (65536 : Int) < (m : Int) := by omega
    clear hx hb h4
    go_enter Try.func8, Try.ntmps8
    go_wp2_with fail
    go_ret2
    exact ⟨rfl, HG0.out⟩
  obtain ⟨M, rfl⟩ : ∃ M : Nat, most = (M : Int) := ⟨most.toNat, by omega⟩
  have hany : xs.any (oddL M) = true := by
    unfold okL at hb
    rw [decide_eq_true (by omega)] at hb
    simpa using hb
  have HCF := Lib.hid (containsFunc_is (w.alloc (.cells #[.int .i64 (M : Nat)] 3)) A m c xs _ _ (hx.grow ((Keeps.refl _ w).alloc _)) hmx (oddL_tells _ w.heap.size M (blk_cell (heap_alloc_new w _) 0)))
  rw [hany] at HCF
  clear hx hb hany
  go_enter Try.func8, Try.ntmps8
  go_wp2_with fail
  refine HCF.out.mono ?_
  rintro e w1 ⟨rfl, rfl⟩
  go_wp2_with fail
  go_ret2
  exact ⟨rfl, HG0.out⟩
/-- What lengths that may be come to. -/
theorem okL_facts {most : Int} {m : Nat} {xs : List Int} (h : okL most m xs = true) (hl : xs.length = m) : ∃ M : Nat, most = (M : Int) ∧ 1 ≤ M ∧ M ≤ 20 ∧ 1 ≤ m ∧ m ≤ 65536 ∧ xs.any (oddL M) = false ∧ ∀ i, 0 ≤ xs.getD i 0 ∧ xs.getD i 0 ≤ M := by
  unfold okL at h
  simp only [Bool.and_eq_true, decide_eq_true_eq, Bool.not_eq_true'] at h
  obtain ⟨⟨h1, h2, h3, h4⟩, h5⟩ := h
  obtain ⟨M, rfl⟩ : ∃ M : Nat, most = (M : Int) := ⟨most.toNat, by omega⟩
  rw [Int.toNat_natCast] at h5
  refine ⟨M, rfl, by omega, by omega, h3, h4, h5, fun i => ?_⟩
  rw [List.getD_eq_getElem?_getD]
  cases hq : xs[i]? with
  | none => simp
  | some y =>
    have hy := List.mem_of_getElem? hq
    have h6 : oddL M y = false := by
      cases ho : oddL M y
      · rfl
      · rw [List.any_eq_true.2 ⟨y, hy, ho⟩] at h5; cases h5
    simp only [oddL, Bool.or_eq_false_iff, decide_eq_false_iff_not] at h6
    simp
    omega
set_option maxRecDepth 8000 in
set_option maxHeartbeats 2000000 in
theorem pNew_code (w : World) (A : Option Addr) (m c : Nat) (xs : List Int) (hx : Nums .i64 w A m c xs) (most : Int) (loose : Bool) (hb : okL most m xs = true) (hf : fullK (toN xs) loose = false) :
    Calls Try.prog 8 #[.slice A m c, .int .i64 most, .bool loose] w fun e w' => e = .returned (.tuple #[.pointer none, .int .i64 13]) ∧ Grow w w' := by
  obtain ⟨M, rfl, h1, h2, h3, h4, h5, h6⟩ := okL_facts hb hx.len
  have HG0 : Hid (Grow w (w.alloc (.cells #[.int .i64 (M : Nat)] 3))) := (Keeps.refl _ w).alloc _
  have HCF := Lib.hid (containsFunc_is (w.alloc (.cells #[.int .i64 (M : Nat)] 3)) A m c xs _ _ (hx.grow ((Keeps.refl _ w).alloc _)) (by omega) (oddL_tells _ w.heap.size M (blk_cell (heap_alloc_new w _) 0)))
  rw [h5] at HCF
  have HFU := Lib.hid (full_is (w.alloc (.cells #[.int .i64 (M : Nat)] 3)) A m c xs (hx.grow ((Keeps.refl _ w).alloc _)) h4 (fun i => ⟨(h6 i).1, by have := (h6 i).2; omega⟩) loose)
  rw [hf] at HFU
  have h3i : ¬ (m : Int) < 1 := by omega
  have h4i : ¬ (65536 : Int) < (m : Int) := by omega
  have h1i : ¬ (M : Int) < 1 := by omega
  have h2i : ¬ (20 : Int) < (M : Int) := by omega
  clear hx hb h5 h6 hf h1 h2 h3 h4
  go_enter Try.func8, Try.ntmps8
  go_wp2_with fail
  refine HCF.out.mono ?_
  rintro e w1 ⟨rfl, rfl⟩
  go_wp2_with fail
  refine HFU.out.mono ?_
  rintro e w1 ⟨rfl, rfl⟩
  go_wp2_with fail
  go_ret2
  exact ⟨rfl, HG0.out⟩
/-- What New leaves. -/
def Made (w : World) (m M g : Nat) (xs : List Int) (w' : World) : Prop := ∃ (gm gw B : Nat) (srt : Value) (F C P : Nat → Nat), PN w w' gm g gw B M m srt F C P (outK (toN xs) M) ∧ Tabs (toN xs) M F C P
set_option maxRecDepth 8000 in
set_option maxHeartbeats 2000000 in
theorem pNew_is (w : World) (A : Option Addr) (m c : Nat) (xs : List Int) (hx : Nums .i64 w A m c xs) (M : Nat) (loose : Bool) (hb : okL M m xs = true) (hf : fullK (toN xs) loose = true) :
    Calls Try.prog 8 #[.slice A m c, .int .i64 M, .bool loose] w fun e w' => ∃ g, e = .returned (.tuple #[.pointer (some ⟨g, 0, none⟩), .int .i64 0]) ∧ Made w m M g xs w' := by
  obtain ⟨M', hMM', h1, h2, h3, h4, h5, h6⟩ := okL_facts hb hx.len
  obtain rfl : M = M' := by omega
  clear hMM'
  have HG0 : Hid (Grow w (w.alloc (.cells #[.int .i64 (M : Nat)] 3))) := (Keeps.refl _ w).alloc _
  have HCF := Lib.hid (containsFunc_is (w.alloc (.cells #[.int .i64 (M : Nat)] 3)) A m c xs _ _ (hx.grow ((Keeps.refl _ w).alloc _)) (by omega) (oddL_tells _ w.heap.size M (blk_cell (heap_alloc_new w _) 0)))
  rw [h5] at HCF
  have HFU := Lib.hid (full_is (w.alloc (.cells #[.int .i64 (M : Nat)] 3)) A m c xs (hx.grow ((Keeps.refl _ w).alloc _)) h4 (fun i => ⟨(h6 i).1, by have := (h6 i).2; omega⟩) loose)
  rw [hf] at HFU
  have h3i : ¬ (m : Int) < 1 := by omega
  have h4i : ¬ (65536 : Int) < (m : Int) := by omega
  have h1i : ¬ (M : Int) < 1 := by omega
  have h2i : ¬ (20 : Int) < (M : Int) := by omega
  have HX := Lib.hid hx
  have HM := Lib.hid (And.intro h1 (And.intro h2 (And.intro h3 (And.intro h4 h6))))
  clear hx hb h5 h6 hf h1 h2 h3 h4
  go_enter Try.func8, Try.ntmps8
  go_wp2_with fail
  refine HCF.out.mono ?_
  rintro e w1 ⟨rfl, rfl⟩
  go_wp2_with fail
  refine HFU.out.mono ?_
  rintro e w1 ⟨rfl, rfl⟩
  go_wp2_with fail
  refine Hv.wp_region_hav2 Grow Grow (fun _ _ _ => True) hyG4 [3] [] [(0, [0, 1]), (1, [3]), (2, [2]), (2, [4]), (2, [5]), (0, [6])] [(0, 0, [?o0, ?o1]), (1, 3, [?o3]), (2, 2, [?o2]), (2, 4, [?o4]), (2, 5, [?o5]), (0, 6, [?o6])] [?o0, ?o1, ?o2, ?o3, ?o4, ?o5, ?o6] (by kernel_rfl) (by kernel_rfl) (by kernel_rfl) ?_
  have c0 : (w.alloc (.cells #[.int .i64 (M : Nat)] 3)).drew.cell? ⟨w.heap.size, 0, none⟩ = some (.int .i64 (M : Nat)) := blk_cell (heap_alloc_new w (.cells #[.int .i64 (M : Nat)] 3)) 0
  have HG1 : Hid (Grow w (w.alloc (.cells #[.int .i64 (M : Nat)] 3)).drew) := HG0.out.drew
  generalize (w.alloc (.cells #[.int .i64 (M : Nat)] 3)).drew = wd at *
  have HC0 := Lib.hid c0
  refine Hv.seg_calm ?_
  go_wp2_with fail
  refine Hv.seg_held (by kernel_rfl) (.int .i64 (M : Nat)) (fun w7 hk7 => ?_) ?_
  · have c7 := ckp HC0.out hk7 (fun h => h)
    go_simp
  refine Hv.seg_call (fun w2 q2 => ?_)
  refine wpList_makeG rfl (.tmp 43) (.tmp 43) 50 73 rfl Try.underlying50 Try.infoWd m rfl rfl (by have := HM.out.2.2.2.1; omega) (by have := HM.out.2.2.2.1; unfold maxLen; omega) ?_
  have HW2 := Lib.hid (WordsAt.made w2 m 73)
  have HG2 : Hid (Grow w (w2.alloc (.cells (madeCells #[.int .u32 0, .int .i64 0] (m * 2)) 73))) := (Grow.trans _ _ _ HG1.out q2).alloc _
  have hr9 : Grow w2 (w2.alloc (.cells (madeCells #[.int .u32 0, .int .i64 0] (m * 2)) 73)) := (Keeps.refl _ w2).alloc _
  show wpList _ _ _ _ _ (w2.alloc (.cells (madeCells #[.int .u32 0, .int .i64 0] (m * 2)) 73))
  obtain ⟨gw, hgw⟩ : ∃ gw, gw = w2.heap.size := ⟨_, rfl⟩
  rw [← hgw] at HW2 ⊢
  have HCM3 : Hid ((w2.alloc (.cells (madeCells #[.int .u32 0, .int .i64 0] (m * 2)) 73)).cell? ⟨w.heap.size, 0, none⟩ = some (.int .i64 (M : Nat))) := ckp (ckp HC0.out q2 (fun h => h)) hr9 (fun h => h)
  have HGW : Hid (w.heap.size < gw) := by have h1 := World.block_lt_of_cell? wd _ HC0.out; have h2 := q2.size; show _ < _; simp only at h1; omega
  generalize w2.alloc (.cells (madeCells #[.int .u32 0, .int .i64 0] (m * 2)) 73) = w3 at *
  clear hgw q2
  go_wp2_with fail
  refine ⟨hr9, ?_⟩
  clear hr9
  refine Hv.seg_call (fun w4 q4 => ?_)
  have HW4 := Lib.hid (HW2.out.keep q4 (fun h => h))
  have HG4 : Hid (Grow w w4) := Grow.trans _ _ _ HG2.out q4
  have HCM4 : Hid (w4.cell? ⟨w.heap.size, 0, none⟩ = some (.int .i64 (M : Nat))) := ckp HCM3.out q4 (fun h => h)
  clear q4 HW2 HG2
  refine wpList_val rfl (.agg (codeZ (.slice (some ⟨gw, 0, none⟩) m m) M)) (by go_simp; rfl) ?_
  refine ⟨Keeps.refl _ _, ?_⟩
  refine Hv.seg_call (fun w5 q5 => ?_)
  have HW5 := Lib.hid (HW4.out.keep q5 (fun h => h))
  have HG5 : Hid (Grow w w5) := Grow.trans _ _ _ HG4.out q5
  have HCM5 : Hid (w5.cell? ⟨w.heap.size, 0, none⟩ = some (.int .i64 (M : Nat))) := ckp HCM4.out q5 (fun h => h)
  clear q5 HW4 HG4
  go_wp2_with fail
  have hr9 : Grow w5 (w5.alloc (.cells (codeZ (.slice (some ⟨gw, 0, none⟩) m m) M) 54)) := (Keeps.refl _ w5).alloc _
  have HP6 : Hid (PN w (w5.alloc (.cells (codeZ (.slice (some ⟨gw, 0, none⟩) m m) M) 54)) w.heap.size w5.heap.size gw (w5.heap.size + 1) M m (.slice none 0 0) (fun _ => 0) (fun _ => 0) (fun _ => 0) (outK (toN xs) 0)) := by
    refine ⟨⟨_, heap_alloc_new _ _, codeZ_cs _ _⟩, ?_, own_nil _ _ _, ckp HCM5.out hr9 (fun h => h), Grow.trans _ _ _ HG5.out hr9, Nat.le_refl _, HGW.out, HW5.out.lt, by omega, by simp⟩
    show WordsAt _ _ _ (List.replicate (toN xs).length (0, 0))
    rw [toN_len, HX.out.len]
    exact HW5.out.keep hr9 (fun h => h)
  refine ⟨hr9, ?_⟩
  obtain ⟨g, hg⟩ : ∃ g, g = w5.heap.size := ⟨_, rfl⟩
  rw [← hg] at HP6 ⊢
  generalize w5.alloc (.cells (codeZ (.slice (some ⟨gw, 0, none⟩) m m) M) 54) = w6 at *
  clear hr9 HW5 HG5 hg HC0 HG0 HG1 HGW HCM5 c0
  refine Hv.seg_calm ?_
  go_wp2_with fail
  refine Hv.seg_end ⟨by kernel_rfl, ?_⟩
  go_wp2_with fail
  have hMi : (M : Int) ≤ 20 := by have := HM.out.2.1; omega
  have hmi : (m : Int) ≤ 65536 := by have := HM.out.2.2.2.1; omega
  go_loopw [10, 11] (fun vn vl wr => ∃ (lk : Nat) (srt : Value) (F C P : Nat → Nat), 1 ≤ lk ∧ lk ≤ M + 1 ∧ vn = .int .u32 ((outK (toN xs) (lk - 1)).next : Nat) ∧ vl = .int .i64 lk ∧ Hid (PN w wr w.heap.size g gw (g + 1) M m srt F C P (outK (toN xs) (lk - 1))) ∧ Hid (Tabs (toN xs) (lk - 1) F C P)) (fun _ vl _ => M + 1 - (intOf vl).toNat)
  case atStart => exact ⟨1, _, _, _, _, by omega, by omega, rfl, rfl, HP6.out, fun k h1 h2 => by omega⟩
  case round =>
    clear HP6
    obtain ⟨lk, srt, F, C, P, hl0, hl, rfl, rfl, HP, HT⟩ := hrel
    have hcm := HP.out.mst
    by_cases hlM : lk ≤ M
    · have hli : (lk : Int) ≤ (M : Int) := by omega
      obtain ⟨l, hlk⟩ : ∃ l, lk = l + 1 := ⟨lk - 1, by omega⟩
      have hl1 : lk - 1 = l := by omega
      rw [hl1] at HP HT ⊢
      obtain ⟨st, hst⟩ : ∃ st, st = outK (toN xs) l := ⟨_, rfl⟩
      have hok := outK_ok (toN xs) l (by have := HM.out.2.1; omega)
      have hsl := (outK_facts (toN xs) l).2
      rw [← hst] at HP hok hsl ⊢
      have hsl2 : st.srt.length ≤ 20 * 65536 := by
        rw [toN_len, HX.out.len] at hsl
        have h1 : l * m ≤ 20 * 65536 := Nat.mul_le_mul (by have := HM.out.2.1; omega) HM.out.2.2.2.1
        omega
      obtain ⟨nx2, hnx2⟩ : ∃ nx2, nx2 = st.up.next := ⟨_, rfl⟩
      have hnb := hok.next
      have en : (st.next : Int) * 2 % 4294967296 = (nx2 : Int) := by rw [hnx2]; show _ = ((st.next * 2 % 4294967296 : Nat) : Int); omega
      have hn2 : nx2 < 4294967296 := by rw [hnx2]; exact (up_ok hok).next
      have HSTL := Lib.hid (And.intro hst (And.intro hlk (And.intro hnx2 (And.intro hn2 hsl2))))
      obtain ⟨As, cs, rfl⟩ := rowf HP.out.row
      obtain ⟨sl, hsle⟩ : ∃ sl, sl = st.srt.length := ⟨_, rfl⟩
      have hslb : (sl : Int) ≤ 1310720 := by omega
      have HSL := Lib.hid hsle
      rw [← hsle] at HP
      have hlk22 : (lk : Int) < 22 := by have := HM.out.2.1; omega
      have hlk22n : lk < 22 := by omega
      generalize hnxo : st.next = nxo at *
      have hnbi : (nxo : Int) < 4294967296 := by omega
      have HNXO := Lib.hid hnxo
      clear hst hlk hnx2 hn2 hsl2 hsl hok hnb hsle hnxo hl1
      go_wp2_with fail
      refine Hv.wp_region_hav2 (KR g) Grow (fun _ _ _ => True) (hyR g) [8, 12, 16] [1017] [(0, [0, 1, 2, 3, 4, 5, 6, 7, 10, 11, 14, 15]), (1, [8]), (0, [9]), (1, [12]), (2, [13]), (1, [16]), (4, [17])] [(0, 0, [?p0, ?p1, ?p2, ?p3, ?p4, ?p5, ?p6, ?p7, ?p10, ?p11, ?p14, ?p15]), (1, 8, [?p8]), (0, 9, [?p9]), (1, 12, [?p12]), (2, 13, [?p13]), (1, 16, [?p16]), (4, 17, [?p17])] [?p0, ?p1, ?p2, ?p3, ?p4, ?p5, ?p6, ?p7, ?p8, ?p9, ?p10, ?p11, ?p12, ?p13, ?p14, ?p15, ?p16, ?p17] (by kernel_rfl) (by kernel_rfl) (by kernel_rfl) ?_
      have HPd := Lib.hid (HP.out.grown (Keeps.refl _ wr).drew)
      clear HP hcm
      generalize wr.drew = wd at *
      have HC7 : Hid (∀ w7, KR g wd w7 → w7.cell? ⟨g, 67, none⟩ = some (.slice As sl cs)) := fun w7 h7 => h7.2 67 _ (.inr (.inl rfl)) HPd.out.code.sorted
      refine Hv.seg_calm ?_
      go_wp2_with fail
      refine Hv.seg_held (by kernel_rfl) (.slice As sl cs) (fun w7 hk7 => ?_) ?_
      · have c7 := HC7.out w7 hk7
        go_simp
      refine Hv.seg_calm ?_
      go_wp2_with fail
      refine Hv.seg_held (by kernel_rfl) (.pointer (some ⟨g, 1 + lk, none⟩)) (fun w7 hk7 => ?_) ?_
      · go_simp
      refine Hv.seg_call (fun w2 q2 => ?_)
      have HP2 := Lib.hid (HPd.out.grown q2)
      have fz := HP2.out.code.frozen (1 + lk)
      have cz := HP2.out.code.first lk hlk22n
      clear q2
      go_wp2_with fail
      have hkr : KR g w2 (w2.setCell ⟨g, 1 + lk, none⟩ (.int .u32 (nx2 : Nat))) := ⟨keep1 _ _ _ _, fun i v hi hc => by rw [cell_other HP2.out.code _ (by omega)]; exact hc⟩
      have HPa := Lib.hid (HP2.out.codeSet (keep1 w2 g (1 + lk) (.int .u32 (nx2 : Nat))) (HP2.out.code.setF lk hlk22n nx2))
      refine ⟨hkr, ?_⟩
      clear hkr fz cz HP2 HPd HC7
      generalize w2.setCell ⟨g, 1 + lk, none⟩ (.int .u32 (nx2 : Nat)) = wa at *
      refine Hv.seg_held (by kernel_rfl) (.pointer (some ⟨g, 45 + lk, none⟩)) (fun w7 hk7 => ?_) ?_
      · go_simp
      have fz := HPa.out.code.frozen (45 + lk)
      have cz := HPa.out.code.place lk hlk22n
      refine Hv.seg_last ?_
      go_wp2_with fail
      refine Hv.seg_end ⟨by kernel_rfl, ?_⟩
      have HPb := Lib.hid (((HPa.out.codeSet (keep1 wa g (45 + lk) (.int .i64 (sl : Nat))) (HPa.out.code.setP lk hlk22n sl))).next nx2)
      clear fz cz HPa
      generalize wa.setCell ⟨g, 45 + lk, none⟩ (.int .i64 (sl : Nat)) = wb at *
      have HUP : Hid ({ st with next := nx2 } = st.up) := by have h1 := HSTL.out.2.2.1; show _ = _; rw [h1]; rfl
      go_wp2_with fail
      go_loopw [10, 73] (fun vn vi wr => ∃ (k : Nat) (srt : Value) (s1 : Cn), k ≤ m ∧ vn = .int .u32 (s1.next : Nat) ∧ vi = .int .i64 k ∧ Hid (PN w wr w.heap.size g gw (g + 1) M m srt (fup F lk nx2) C (fup P lk sl) s1) ∧ Hid (s1 = inK (toN xs) lk k st.up)) (fun _ vi _ => m - (intOf vi).toNat)
      case atStart => exact ⟨0, _, { st with next := nx2 }, by omega, rfl, rfl, HPb.out, HUP.out⟩
      case round =>
        clear HPb
        obtain ⟨k, srt2, s1, hk, rfl, rfl, HP, HS1⟩ := hrel
        have hok1 : s1.Ok := by
          rw [HS1.out]
          have h1 := HSTL.out
          have h2 := HM.out
          exact inK_ok _ _ _ (up_ok (h1.1 ▸ outK_ok (toN xs) l (by omega))) (by omega) (by omega) k
        have hs1l : s1.srt.length ≤ sl + k := by
          rw [HS1.out, HSL.out]
          exact (inK_facts (toN xs) lk st.up k).2
        have hw1l : s1.ws.length = m := by
          rw [HS1.out, (inK_facts (toN xs) lk st.up k).1]
          show st.ws.length = m
          rw [HSTL.out.1, (outK_facts (toN xs) l).1, toN_len, HX.out.len]
        obtain ⟨nx, hnx⟩ : ∃ nx, nx = s1.next := ⟨_, rfl⟩
        have hnb := hok1.next
        rw [← hnx] at hnb ⊢
        have HNX := Lib.hid hnx
        have HW1 := Lib.hid (And.intro hw1l (And.intro hs1l hnb))
        clear hok1 hs1l hw1l hnx hnb
        by_cases hkm : k < m
        · have hxn := (HX.out.grow HP.out.grow)
          obtain ⟨b, o, rfl, hc⟩ := hxn.at_ (by omega)
          have hcell := hc k hkm
          have hx6 := HM.out.2.2.2.2 k
          have hxg := toN_get xs k hx6.1
          obtain ⟨x, hxx⟩ : ∃ x, x = (toN xs).getD k 0 := ⟨_, rfl⟩
          rw [← hxx] at hxg
          rw [← hxg] at hcell
          have HXX := Lib.hid hxx
          have hki : (k : Int) < (m : Int) := by omega
          clear hxn hc hx6 hxg hxx
          by_cases hxl : x = lk
          · have HXL := Lib.hid hxl
            have hxb : ((x : Int) == (lk : Int)) = true := by rw [hxl]; simp
            clear hxl
            obtain ⟨A2, c2, rfl⟩ := rowf HP.out.row
            obtain ⟨sl2, hsl2⟩ : ∃ sl2, sl2 = s1.srt.length := ⟨_, rfl⟩
            have HSL2 := Lib.hid hsl2
            rw [← hsl2] at HP
            clear hsl2
            have d0 := HP.out.code.words
            have hnb := HW1.out.2.2
            obtain ⟨pr, hpr⟩ : ∃ pr, s1.ws[k]? = some pr := ⟨s1.ws[k]'(by rw [HW1.out.1]; exact hkm), List.getElem?_eq_getElem _⟩
            obtain ⟨z0, z1⟩ := HP.out.wds.cell0 k pr hpr
            have fz0 := HP.out.wds.frozen (k * 2)
            have fz1 := HP.out.wds.frozen (k * 2 + 1)
            go_upto_region 17 with fail
            go_upto_region 18 with fail
            have HPw : Hid (PN w ((wr.setCell ⟨gw, k * 2, none⟩ (.int .u32 (nx : Nat))).setCell ⟨gw, k * 2 + 1, none⟩ (.int .i64 (lk : Nat))) w.heap.size g gw (g + 1) M m (.slice A2 sl2 c2) (fup F lk nx2) C (fup P lk sl) ⟨nx, s1.ws.set k (nx, lk), s1.srt⟩) :=
              HP.out.wdsSet (Keeps.trans (keep1 _ _ _ _) (keep1 _ _ _ _) fun _ _ h => h) nx _ (HP.out.wds.set k (by rw [HW1.out.1]; exact hkm) nx lk)
            clear HP d0 z0 z1 fz0 fz1
            generalize ((wr.setCell ⟨gw, k * 2, none⟩ (.int .u32 (nx : Nat))).setCell ⟨gw, k * 2 + 1, none⟩ (.int .i64 (lk : Nat))) = wc at *
            have hrow : wc.ownsRow (g + 1) 3 1 (.slice A2 sl2 c2) sl2 (s1.srt.map fun s => .int .i64 (s : Nat)) := by have h := HPw.out.row; rw [HSL2.out]; rw [HSL2.out] at h; exact h
            have HROW := Lib.hid hrow
            have d67 := HPw.out.code.sorted
            have hsl2b : sl2 ≤ 1400000 := by have h1 := HW1.out.2.1; have h2 := HM.out.2.2.2.1; rw [HSL2.out]; omega
            clear hrow
            go_wp2_with (at_builtin; refine wpList_app1 rfl (.tmp 94) (.tmp 96) 22 3 rfl Try.underlying22 Try.infoI4 rfl (g + 1) _ sl2 _ rfl HROW.out HPw.out.hB rfl rfl (by unfold maxLen; omega) (by omega) ?_)
            intro gl cap w5 ho5 hk5 _
            have hc5 := HPw.out.code.keep hk5 (fun h => by have h1 := own_ge HROW.out g h; omega)
            have f67 := hc5.frozen 67
            have c67 := hc5.sorted
            have HQ : Hid (PN w (w5.setCell ⟨g, 67, none⟩ (.slice (some ⟨gl, 0, none⟩) (sl2 + 1) cap)) w.heap.size g gw (g + 1) M m (.slice (some ⟨gl, 0, none⟩) (sl2 + 1) cap) (fup F lk nx2) C (fup P lk sl) ⟨nx, s1.ws.set k (nx, lk), s1.srt ++ [k]⟩) :=
              HPw.out.srtSet hk5 (s1.srt ++ [k]) (by rw [List.length_append, ← HSL2.out, List.map_append]; exact ho5)
            obtain ⟨nx3, hnx3⟩ : ∃ nx3, nx3 = (nx + 1) % 4294967296 := ⟨_, rfl⟩
            have en3 : ((nx : Int) + 1) % 4294967296 = (nx3 : Int) := by omega
            have HQ3 := Lib.hid (HQ.out.next nx3)
            have HN : Hid ((⟨nx3, s1.ws.set k (nx, lk), s1.srt ++ [k]⟩ : Cn) = inK (toN xs) lk (k + 1) st.up) := by
              show _ = stp lk (inK (toN xs) lk k st.up) k ((toN xs).getD k 0)
              rw [← HS1.out, ← HXX.out, stp, if_pos HXL.out, ← HNX.out, ← hnx3]
            have HNX3 := Lib.hid hnx3
            clear ho5 hk5 hc5 HQ HPw HROW d67 hnx3
            go_wp2_with fail
            go_roundw
            case rel => exact ⟨k + 1, _, _, by omega, congrArg (Value.int .u32) en3, by go_num, HQ3.out, HN.out⟩
            case measure => simp [intOf]; omega
          · have hxb : ((x : Int) == (lk : Int)) = false := by rw [beq_eq_false_iff_ne]; omega
            have HN : Hid (s1 = inK (toN xs) lk (k + 1) st.up) := by
              show _ = stp lk (inK (toN xs) lk k st.up) k ((toN xs).getD k 0)
              rw [← HS1.out, ← HXX.out, stp, if_neg hxl]
            clear hxl
            go_wp2_with fail
            go_roundw
            case rel => exact ⟨k + 1, srt2, s1, by omega, by rw [HNX.out], by go_num, HP.out, HN.out⟩
            case measure => simp [intOf]; omega
        · obtain rfl : k = m := by omega
          obtain ⟨A2, c2, rfl⟩ := rowf HP.out.row
          obtain ⟨sl2, hsl2⟩ : ∃ sl2, sl2 = s1.srt.length := ⟨_, rfl⟩
          have HSL2 := Lib.hid hsl2
          rw [← hsl2] at HP
          clear hsl2
          have hge : sl ≤ sl2 := by rw [HSL.out, HSL2.out, HS1.out]; exact inK_ge _ _ st.up _
          have hs2b : sl2 ≤ 1400000 := by have h1 := HW1.out.2.1; have h2 := HM.out.2.2.2.1; rw [HSL2.out]; omega
          obtain ⟨ct, hct⟩ : ∃ ct, ct = sl2 - sl := ⟨_, rfl⟩
          have ect : (sl2 : Int) - (sl : Int) = (ct : Int) := by omega
          have hs2i : (sl2 : Int) ≤ 1400000 := by omega
          have HCT := Lib.hid (And.intro hct hge)
          clear hct hge hs2b
          go_wp2_with fail
          refine Hv.wp_region_hav2 Grow Grow (fun _ _ _ => True) hyG4 [5, 12, 11, 16] [1017] [(0, [0, 1, 2, 3, 4, 7, 8, 9, 10, 14, 15]), (1, [5]), (0, [6]), (1, [11]), (1, [12]), (0, [13]), (1, [16]), (4, [17])] [(0, 0, [?q0, ?q1, ?q2, ?q3, ?q4, ?q7, ?q8, ?q9, ?q10, ?q14, ?q15]), (1, 5, [?q5]), (0, 6, [?q6]), (1, 11, [?q11]), (1, 12, [?q12]), (0, 13, [?q13]), (1, 16, [?q16]), (4, 17, [?q17])] [?q0, ?q1, ?q2, ?q3, ?q4, ?q5, ?q6, ?q7, ?q8, ?q9, ?q10, ?q11, ?q12, ?q13, ?q14, ?q15, ?q16, ?q17] (by kernel_rfl) (by kernel_rfl) (by kernel_rfl) ?_
          have HPd := Lib.hid (HP.out.grown (Keeps.refl _ wr).drew)
          clear HP
          generalize wr.drew = wd at *
          have HC7 : Hid (∀ w7, Grow wd w7 → w7.cell? ⟨g, 67, none⟩ = some (.slice A2 sl2 c2) ∧ w7.cell? ⟨g, 45 + lk, none⟩ = some (.int .i64 (sl : Nat))) := fun w7 h7 => by
            have h8 := (HPd.out.grown h7).code
            have h9 := h8.place lk hlk22n
            rw [fup_same] at h9
            exact ⟨h8.sorted, h9⟩
          refine Hv.seg_calm ?_
          go_wp2_with fail
          refine Hv.seg_held (by kernel_rfl) (.slice A2 sl2 c2) (fun w7 hk7 => ?_) ?_
          · have c7 := (HC7.out w7 hk7).1
            go_simp
          refine Hv.seg_calm ?_
          go_wp2_with fail
          refine Hv.seg_held (by kernel_rfl) (.pointer (some ⟨g, 45 + lk, none⟩)) (fun w7 hk7 => ?_) ?_
          · go_simp
          refine Hv.seg_held (by kernel_rfl) (.int .i64 (sl : Nat)) (fun w7 hk7 => ?_) ?_
          · have c7 := (HC7.out w7 hk7).2
            go_simp
          refine Hv.seg_calm ?_
          go_wp2_with fail
          refine Hv.seg_held (by kernel_rfl) (.pointer (some ⟨g, 23 + lk, none⟩)) (fun w7 hk7 => ?_) ?_
          · go_simp
          have fz := HPd.out.code.frozen (23 + lk)
          have cz := HPd.out.code.count lk hlk22n
          refine Hv.seg_last ?_
          go_wp2_with fail
          refine Hv.seg_end ⟨by kernel_rfl, ?_⟩
          have HPz := Lib.hid (HPd.out.codeSet (keep1 wd g (23 + lk) (.int .i64 (ct : Nat))) (HPd.out.code.setC lk hlk22n ct))
          clear fz cz HPd HC7
          generalize wd.setCell ⟨g, 23 + lk, none⟩ (.int .i64 (ct : Nat)) = wz at *
          have HO : Hid (s1 = outK (toN xs) (l + 1)) := by
            show _ = inK (toN xs) (l + 1) (toN xs).length (outK (toN xs) l).up
            rw [HS1.out, HSTL.out.1, HSTL.out.2.1, toN_len, HX.out.len]
          have HT2 : Hid (Tabs (toN xs) (l + 1) (fup F lk nx2) (fup C lk ct) (fup P lk sl)) := by
            intro j hj1 hj2
            by_cases hj : j = lk
            · subst hj
              rw [fup_same, fup_same, fup_same]
              have e1 := HSTL.out.2.1
              have e2 : j - 1 = l := by omega
              rw [e2, ← HSTL.out.1]
              refine ⟨HSTL.out.2.2.1, HSL.out, ?_⟩
              rw [HCT.out.1, HSL2.out, HSL.out, HO.out, e1]
            · rw [fup_ne _ _ hj, fup_ne _ _ hj, fup_ne _ _ hj]
              have e1 := HSTL.out.2.1
              exact HT.out j hj1 (by omega)
          have HLK : Hid (lk + 1 - 1 = l + 1) := by have e1 := HSTL.out.2.1; show _ = _; omega
          go_wp2_with fail
          go_roundw
          case rel => exact ⟨lk + 1, .slice A2 sl2 c2, fup F lk nx2, fup C lk ct, fup P lk sl, by omega, by omega, by rw [HLK.out, ← HO.out, HNX.out], by go_num, by rw [HLK.out, ← HO.out]; exact HPz.out, by rw [HLK.out]; exact HT2.out⟩
          case measure => simp [intOf]; omega
    · obtain rfl : lk = M + 1 := by omega
      have hMM : M + 1 - 1 = M := by omega
      rw [hMM] at HP HT
      have hli : ¬ ((M : Int) + 1 ≤ (M : Int)) := by omega
      clear hMM hlM hl hl0
      go_wp2_with fail
      go_ret2
      exact ⟨g, rfl, w.heap.size, gw, g + 1, srt, F, C, P, HP.out, HT.out⟩
end Go.Proofs.Ytofalbbbnhnadaa
