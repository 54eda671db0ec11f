/- lzma: a byte's props, the program's and the document's: when there are none. -/
import Derived.Test.YtoeapobpdfidkaaNums
import Derived.Test.YtoeapobpdfidkaaHold
import Derived.Test.YtoeapobpdfidkaaHav
import Derived.Laws.ResultCell
namespace Go.Proofs.Ytoeapobpdfidkaa
open Go.RowKit
set_option linter.unusedVariables false
set_option linter.unusedSimpArgs false

/-- A byte that is some props'. -/
def okP (k : Nat) : Bool := decide (k / 45 ≤ 4) && decide (k % 9 + k / 9 % 5 ≤ 4)
set_option maxRecDepth 4000 in
theorem pValid_is (w : World) (a b c : Nat) (ha : a ≤ 8) (hb : b ≤ 8) (hc : c ≤ 8) :
    Calls Try.prog 15 #[.agg #[.int .i64 (a : Nat), .int .i64 (b : Nat), .int .i64 (c : Nat)]] w fun e w' => e = .returned (.bool (decide (a ≤ 4 ∧ b ≤ 4 ∧ c ≤ 4 ∧ a + b ≤ 4))) ∧ Grow w w' := by
  have hai : (a : Int) ≤ 8 := by omega
  have hbi : (b : Int) ≤ 8 := by omega
  have hci : (c : Int) ≤ 8 := by omega
  have ha0 : (0 : Int) ≤ (a : Int) := by omega
  have hb0 : (0 : Int) ≤ (b : Int) := by omega
  have hc0 : (0 : Int) ≤ (c : Int) := by omega
  obtain ⟨R, hR⟩ : ∃ R, R = decide (a ≤ 4 ∧ b ≤ 4 ∧ c ≤ 4 ∧ a + b ≤ 4) := ⟨_, rfl⟩
  rw [← hR]
  have HR := Lib.hid hR
  clear hR
  go_enter Try.func15, Try.ntmps15
  go_upto_region 1 with fail
  have hga := heap_alloc_new w (.cells #[.int .i64 (a : Nat), .int .i64 (b : Nat), .int .i64 (c : Nat)] 27)
  have HG : Hid (Grow w (w.alloc (.cells #[.int .i64 (a : Nat), .int .i64 (b : Nat), .int .i64 (c : Nat)] 27))) := (Keeps.refl _ w).alloc _
  generalize w.alloc (.cells #[.int .i64 (a : Nat), .int .i64 (b : Nat), .int .i64 (c : Nat)] 27) = w1 at *
  generalize w.heap.size = g at *
  have e0 := blk_cell hga 0
  have e1 := blk_cell hga 1
  have e2 := blk_cell hga 2
  simp at e0 e1 e2
  go_wp2_with fail
  all_goals
    go_ret
    refine ⟨?_, HG.out⟩
    refine congrArg (fun b => Ending.returned (Value.bool b)) ?_
    rw [HR.out]
    first
      | exact (decide_eq_false (by omega)).symm
      | exact (decide_eq_true (by omega)).symm
      | exact decide_eq_decide.2 (by omega)
set_option maxRecDepth 4000 in
theorem pOf_is (w : World) (k : Nat) (hk : k < 256) :
    Calls Try.prog 13 #[.int .u8 (k : Nat)] w fun e w' => ∃ (x y z : Nat) (er : Nat), e = .returned (.tuple #[.agg #[.int .i64 x, .int .i64 y, .int .i64 z], .int .i64 er]) ∧ (er = if okP k then 0 else 11) ∧ Grow w w' := by
  obtain ⟨a, ha⟩ : ∃ a, a = k % 9 := ⟨_, rfl⟩
  obtain ⟨q, hq⟩ : ∃ q, q = k / 9 := ⟨_, rfl⟩
  obtain ⟨b, hb⟩ : ∃ b, b = q % 5 := ⟨_, rfl⟩
  obtain ⟨c, hc⟩ : ∃ c, c = k / 45 := ⟨_, rfl⟩
  have e1 : (k : Int) % 9 = (a : Int) := by omega
  have e2 : (k : Int) / 9 = (q : Int) := by omega
  have e3 : (q : Int) % 5 = (b : Int) := by omega
  have e4 : (k : Int) / 45 = (c : Int) := by omega
  have h1 : (a : Int) ≤ 8 := by omega
  have h2 : (q : Int) ≤ 30 := by omega
  have h3 : (b : Int) ≤ 8 := by omega
  have h4 : (c : Int) ≤ 8 := by omega
  have hki : (k : Int) < 256 := by omega
  obtain ⟨R, hR⟩ : ∃ R, R = okP k := ⟨_, rfl⟩
  have hR2 : R = decide (a ≤ 4 ∧ b ≤ 4 ∧ c ≤ 4 ∧ a + b ≤ 4) := by
    rw [hR]
    unfold okP
    rw [← hc, ← ha, ← hq, ← hb, ← Bool.decide_and]
    exact decide_eq_decide.2 (by omega)
  have HV := Lib.hid (fun w => pValid_is w a b c (by omega) (by omega) (by omega))
  rw [← hR]
  rw [← hR2] at HV
  clear ha hq hb hc hR hR2 hk
  go_enter Try.func13, Try.ntmps13
  go_wp2_with fail
  have hb1 : ((w.alloc (.cells #[.int .i64 0, .int .i64 0, .int .i64 0] 27)).alloc (.cells #[.int .i64 (a : Nat), .int .i64 (b : Nat), .int .i64 (c : Nat)] 27)).heap[w.heap.size]? = some (.cells #[.int .i64 0, .int .i64 0, .int .i64 0] 27 (0, 0)) := blk_alloc (heap_alloc_new w _) _
  have hb2 : ((w.alloc (.cells #[.int .i64 0, .int .i64 0, .int .i64 0] 27)).alloc (.cells #[.int .i64 (a : Nat), .int .i64 (b : Nat), .int .i64 (c : Nat)] 27)).heap[w.heap.size + 1]? = some (.cells #[.int .i64 (a : Nat), .int .i64 (b : Nat), .int .i64 (c : Nat)] 27 (0, 0)) := by
    have h9 := heap_alloc_new (w.alloc (.cells #[.int .i64 0, .int .i64 0, .int .i64 0] 27)) (.cells #[.int .i64 (a : Nat), .int .i64 (b : Nat), .int .i64 (c : Nat)] 27)
    simpa using h9
  have hg : Grow w ((w.alloc (.cells #[.int .i64 0, .int .i64 0, .int .i64 0] 27)).alloc (.cells #[.int .i64 (a : Nat), .int .i64 (b : Nat), .int .i64 (c : Nat)] 27)) := ((Keeps.refl _ w).alloc _).alloc _
  generalize (w.alloc (.cells #[.int .i64 0, .int .i64 0, .int .i64 0] 27)).alloc (.cells #[.int .i64 (a : Nat), .int .i64 (b : Nat), .int .i64 (c : Nat)] 27) = w1 at *
  obtain ⟨g1, hg1⟩ : ∃ g1, g1 = w.heap.size := ⟨_, rfl⟩
  rw [← hg1] at hb1 hb2 ⊢
  have HG1 := Lib.hid (And.intro hg1 hg)
  have HB := Lib.hid (And.intro hb1 hb2)
  clear hg1 hg hb1 hb2
  refine (HV.out w1).mono ?_
  rintro x w2 ⟨rfl, hg2⟩
  have hb1 := block_keep HB.out.1 hg2 (fun h => h)
  have hb2 := block_keep HB.out.2 hg2 (fun h => h)
  have HG2 : Hid (Grow w w2) := Grow.trans _ _ _ HG1.out.2 hg2
  have c0 := blk_cell hb2 0
  have c1 := blk_cell hb2 1
  have c2 := blk_cell hb2 2
  have z0 := blk_cell hb1 0
  have z1 := blk_cell hb1 1
  have z2 := blk_cell hb1 2
  have f0 := blk_frozen hb1 0
  have f1 := blk_frozen hb1 1
  have f2 := blk_frozen hb1 2
  simp at c0 c1 c2 z0 z1 z2
  clear hg2 HV
  cases R
  · go_wp2_with fail
    have hb9 := blk_set (blk_set (blk_set hb1 0 (.int .i64 0)) 1 (.int .i64 0)) 2 (.int .i64 0)
    have hk9 : Grow w (((w2.setCell ⟨g1, 0, none⟩ (.int .i64 0)).setCell ⟨g1, 1, none⟩ (.int .i64 0)).setCell ⟨g1, 2, none⟩ (.int .i64 0)) := ((HG2.out.setCell (p := ⟨g1, 0, none⟩) (fun h9 => by have := HG1.out.1; simp only at h9; omega) _).setCell (p := ⟨g1, 1, none⟩) (fun h9 => by have := HG1.out.1; simp only at h9; omega) _).setCell (p := ⟨g1, 2, none⟩) (fun h9 => by have := HG1.out.1; simp only at h9; omega) _
    generalize ((w2.setCell ⟨g1, 0, none⟩ (.int .i64 0)).setCell ⟨g1, 1, none⟩ (.int .i64 0)).setCell ⟨g1, 2, none⟩ (.int .i64 0) = w9 at *
    have y0 := blk_cell hb9 0
    have y1 := blk_cell hb9 1
    have y2 := blk_cell hb9 2
    simp at y0 y1 y2
    have hld : (loadVar 27 ⟨g1, 0, none⟩).run Try.prog w9 = .ok (.agg #[(.int .i64 0), (.int .i64 0), (.int .i64 0)]) w9 := by go_simp
    refine bodyPost_ret (v := .tuple #[.agg #[.int .i64 0, .int .i64 0, .int .i64 0], .int .i64 11]) ?_ rfl ⟨0, 0, 0, 11, rfl, rfl, hk9⟩
    rw [results_cell_tmp rfl]
    simp [asAddr, Result.andThen, hld]
  · go_wp2_with fail
    have hb9 := blk_set (blk_set (blk_set hb1 0 (.int .i64 (a : Nat))) 1 (.int .i64 (b : Nat))) 2 (.int .i64 (c : Nat))
    have hk9 : Grow w (((w2.setCell ⟨g1, 0, none⟩ (.int .i64 (a : Nat))).setCell ⟨g1, 1, none⟩ (.int .i64 (b : Nat))).setCell ⟨g1, 2, none⟩ (.int .i64 (c : Nat))) := ((HG2.out.setCell (p := ⟨g1, 0, none⟩) (fun h9 => by have := HG1.out.1; simp only at h9; omega) _).setCell (p := ⟨g1, 1, none⟩) (fun h9 => by have := HG1.out.1; simp only at h9; omega) _).setCell (p := ⟨g1, 2, none⟩) (fun h9 => by have := HG1.out.1; simp only at h9; omega) _
    generalize ((w2.setCell ⟨g1, 0, none⟩ (.int .i64 (a : Nat))).setCell ⟨g1, 1, none⟩ (.int .i64 (b : Nat))).setCell ⟨g1, 2, none⟩ (.int .i64 (c : Nat)) = w9 at *
    have y0 := blk_cell hb9 0
    have y1 := blk_cell hb9 1
    have y2 := blk_cell hb9 2
    simp at y0 y1 y2
    have hld : (loadVar 27 ⟨g1, 0, none⟩).run Try.prog w9 = .ok (.agg #[(.int .i64 (a : Nat)), (.int .i64 (b : Nat)), (.int .i64 (c : Nat))]) w9 := by go_simp
    refine bodyPost_ret (v := .tuple #[.agg #[.int .i64 (a : Nat), .int .i64 (b : Nat), .int .i64 (c : Nat)], .int .i64 0]) ?_ rfl ⟨a, b, c, 0, rfl, rfl, hk9⟩
    rw [results_cell_tmp rfl]
    simp [asAddr, Result.andThen, hld]
set_option maxRecDepth 4000 in
theorem rValid_is (w : World) (a b c : Nat) (ha : a ≤ 4) (hb : b ≤ 4) (hc : c ≤ 4) :
    Calls Try.prog 16 #[.int .i64 (a : Nat), .int .i64 (b : Nat), .int .i64 (c : Nat)] w fun e w' => e = .returned (.bool (decide (a + b ≤ 4))) ∧ w = w' := by
  have hai : (a : Int) ≤ 4 := by omega
  have hbi : (b : Int) ≤ 4 := by omega
  have hci : (c : Int) ≤ 4 := by omega
  have ha0 : (0 : Int) ≤ (a : Int) := by omega
  have hb0 : (0 : Int) ≤ (b : Int) := by omega
  have hc0 : (0 : Int) ≤ (c : Int) := by omega
  by_cases hab : a + b ≤ 4
  · have h1 : (a : Int) + (b : Int) ≤ 4 := by omega
    rw [decide_eq_true hab]
    clear hab
    go_enter Try.func16, Try.ntmps16
    go_wp2_with fail
    go_ret
    exact ⟨rfl, rfl⟩
  · have h1 : ¬ (a : Int) + (b : Int) ≤ 4 := by omega
    rw [decide_eq_false hab]
    clear hab
    go_enter Try.func16, Try.ntmps16
    go_wp2_with fail
    go_ret
    exact ⟨rfl, rfl⟩
theorem rByte_is (w : World) (a b c : Nat) (ha : a ≤ 4) (hb : b ≤ 4) (hc : c ≤ 4) :
    Calls Try.prog 18 #[.int .i64 (a : Nat), .int .i64 (b : Nat), .int .i64 (c : Nat)] w fun e w' => e = .returned (.int .i64 (((c * 5 + b) * 9 + a : Nat) : Int)) ∧ w = w' := by
  obtain ⟨d, hd⟩ : ∃ d, d = c * 5 := ⟨_, rfl⟩
  obtain ⟨e, he⟩ : ∃ e, e = d + b := ⟨_, rfl⟩
  obtain ⟨f, hf⟩ : ∃ f, f = e * 9 := ⟨_, rfl⟩
  obtain ⟨r, hr⟩ : ∃ r, r = f + a := ⟨_, rfl⟩
  have h1 : (c : Int) * 5 = (d : Int) := by omega
  have h2 : (d : Int) + (b : Int) = (e : Int) := by omega
  have h3 : (e : Int) * 9 = (f : Int) := by omega
  have h4 : (f : Int) + (a : Int) = (r : Int) := by omega
  have b1 : (d : Int) ≤ 300 := by omega
  have b2 : (e : Int) ≤ 300 := by omega
  have b3 : (f : Int) ≤ 300 := by omega
  have b4 : (r : Int) ≤ 300 := by omega
  rw [show (c * 5 + b) * 9 + a = r by omega]
  clear hd he hf hr ha hb hc
  go_enter Try.func18, Try.ntmps18
  go_wp2_with fail
  go_ret
  exact ⟨rfl, rfl⟩
theorem results_tmp4 {fn : Func} {a b c d : Tmp} (h : fn.results = #[.tmp a, .tmp b, .tmp c, .tmp d]) (tmps : Array Value) (P : Program) (w : World) :
    (results fn tmps).run P w = .ok (.tuple #[tmps.getD a undef, tmps.getD b undef, tmps.getD c undef, tmps.getD d undef]) w := by
  simp [results, h]
/-- Props that have the byte. -/
def mtch (k p l c : Nat) : Prop := c + l ≤ 4 ∧ (p * 5 + l) * 9 + c = k
def noneB (k p l c : Nat) : Prop := ∀ p' l' c', p' ≤ 4 → l' ≤ 4 → c' ≤ 4 → (p' < p ∨ p' = p ∧ (l' < l ∨ l' = l ∧ c' < c)) → ¬ mtch k p' l' c'
theorem okP_no {k : Nat} (h : noneB k 5 0 0) : okP k = false := by
  unfold okP
  rw [← Bool.decide_and]
  refine decide_eq_false fun h9 => ?_
  have h1 := h (k / 45) (k / 9 % 5) (k % 9) (by omega) (by omega) (by omega) (.inl (by omega))
  exact h1 ⟨by omega, by omega⟩
theorem okP_yes {k p l c : Nat} (h : mtch k p l c) (hp : p ≤ 4) (hl : l ≤ 4) (hc : c ≤ 4) : okP k = true := by
  obtain ⟨h1, h2⟩ := h
  unfold okP
  rw [← Bool.decide_and]
  exact decide_eq_true (by omega)
theorem noneB.step {k p l c : Nat} (h : noneB k p l c) (hn : ¬ mtch k p l c) : noneB k p l (c + 1) := fun p' l' c' h1 h2 h3 h4 => by
  by_cases h9 : p' = p ∧ l' = l ∧ c' = c
  · obtain ⟨rfl, rfl, rfl⟩ := h9; exact hn
  · exact h p' l' c' h1 h2 h3 (by omega)
theorem noneB.row {k p l : Nat} (h : noneB k p l 5) : noneB k p (l + 1) 0 := fun p' l' c' h1 h2 h3 h4 => h p' l' c' h1 h2 h3 (by omega)
theorem noneB.page {k p : Nat} (h : noneB k p 5 0) : noneB k (p + 1) 0 0 := fun p' l' c' h1 h2 h3 h4 => h p' l' c' h1 h2 h3 (by omega)
set_option maxRecDepth 4000 in
set_option maxHeartbeats 4000000 in
theorem rOf_is (w : World) (k : Nat) (hk : k < 256) :
    Calls Try.prog 14 #[.int .i64 (k : Nat)] w fun e w' => ∃ (x y z : Nat) (er : Nat), e = .returned (.tuple #[.int .i64 x, .int .i64 y, .int .i64 z, .int .i64 er]) ∧ (er = if okP k then 0 else 11) ∧ w = w' := by
  obtain ⟨R, hR⟩ : ∃ R, R = okP k := ⟨_, rfl⟩
  rw [← hR]
  have HR := Lib.hid hR
  have hki : (k : Int) < 256 := by omega
  clear hR hk
  go_enter Try.func14, Try.ntmps14
  go_wp2_with fail
  go_loopw [6, 7, 8] (fun vp _ _ wr => ∃ (p : Nat), p ≤ 5 ∧ vp = .int .i64 p ∧ w = wr ∧ Hid (noneB k p 0 0)) (fun vp _ _ _ => 5 - (intOf vp).toNat)
  case atStart => exact ⟨0, by omega, rfl, rfl, fun p' l' c' h1 h2 h3 h4 => by omega⟩
  case round =>
    obtain ⟨p, hp5, rfl, rfl, HN⟩ := hrel
    by_cases hp : p ≤ 4
    · have hpi : (p : Int) ≤ 4 := by omega
      clear hp5
      go_wp2_with fail
      go_loopw [7, 8] (fun vl _ wr => ∃ (l : Nat), l ≤ 5 ∧ vl = .int .i64 l ∧ w = wr ∧ Hid (noneB k p l 0)) (fun vl _ _ => 5 - (intOf vl).toNat)
      case atStart => exact ⟨0, by omega, rfl, rfl, HN.out⟩
      case round =>
        clear HN
        obtain ⟨l, hl5, rfl, rfl, HN⟩ := hrel
        by_cases hl : l ≤ 4
        · have hli : (l : Int) ≤ 4 := by omega
          clear hl5
          go_wp2_with fail
          go_loopw [8] (fun vc wr => ∃ (c : Nat), c ≤ 5 ∧ vc = .int .i64 c ∧ w = wr ∧ Hid (noneB k p l c)) (fun vc _ => 5 - (intOf vc).toNat)
          case atStart => exact ⟨0, by omega, rfl, rfl, HN.out⟩
          case round =>
            clear HN
            obtain ⟨c, hc5, rfl, rfl, HN⟩ := hrel
            by_cases hc : c ≤ 4
            · have hci : (c : Int) ≤ 4 := by omega
              have HV := Lib.hid (rValid_is w c l p hc hl hp)
              have HY := Lib.hid (rByte_is w c l p hc hl hp)
              have HC := Lib.hid (And.intro hp (And.intro hl hc))
              have hp' := hp
              by_cases hs : c + l ≤ 4
              · rw [decide_eq_true hs] at HV
                have HS := Lib.hid hs
                by_cases hm : (p * 5 + l) * 9 + c = k
                · obtain rfl : R = true := by rw [HR.out]; exact okP_yes ⟨hs, hm⟩ hp hl hc
                  rw [hm] at HY
                  clear hs hm hc hl hp hc5
                  go_wp2_with fail
                  refine HV.out.mono ?_
                  rintro x w2 ⟨rfl, rfl⟩
                  go_wp2_with fail
                  refine HY.out.mono ?_
                  rintro x w2 ⟨rfl, rfl⟩
                  go_wp2_with fail
                  exact bodyPost_ret (results_tmp4 (a := 2) (b := 3) (c := 4) (d := 5) rfl _ _ _) rfl ⟨c, l, p, 0, rfl, rfl, rfl⟩
                · have HO := Lib.hid (HN.out.step (fun h9 => hm h9.2))
                  obtain ⟨r, hr⟩ : ∃ r, r = (p * 5 + l) * 9 + c := ⟨_, rfl⟩
                  rw [← hr] at HY hm
                  have hrb : ((r : Int) == (k : Int)) = false := by rw [beq_eq_false_iff_ne]; omega
                  clear hr hs hm hc hl hp hc5
                  go_wp2_with fail
                  refine HV.out.mono ?_
                  rintro x w2 ⟨rfl, rfl⟩
                  go_wp2_with fail
                  refine HY.out.mono ?_
                  rintro x w2 ⟨rfl, rfl⟩
                  go_wp2_with fail
                  go_roundw
                  case rel => exact ⟨c + 1, by have := HC.out; omega, by go_num, trivial, HO.out⟩
                  case measure => have := HC.out; simp [intOf]; omega
              · rw [decide_eq_false hs] at HV
                have HO := Lib.hid (HN.out.step (fun h9 => hs h9.1))
                clear hs hc hl hp hc5
                go_wp2_with fail
                refine HV.out.mono ?_
                rintro x w2 ⟨rfl, rfl⟩
                go_wp2_with fail
                go_roundw
                case rel => exact ⟨c + 1, by have := HC.out; omega, by go_num, trivial, HO.out⟩
                case measure => have := HC.out; simp [intOf]; omega
            · obtain rfl : c = 5 := by omega
              have HO := Lib.hid HN.out.row
              clear hc hc5
              go_wp2_with fail
              go_roundw
              case rel => exact ⟨l + 1, by omega, by go_num, trivial, HO.out⟩
              case measure => simp [intOf]; omega
        · obtain rfl : l = 5 := by omega
          have HO := Lib.hid HN.out.page
          clear hl hl5
          go_wp2_with fail
          go_roundw
          case rel => exact ⟨p + 1, by omega, by go_num, trivial, HO.out⟩
          case measure => simp [intOf]; omega
    · obtain rfl : p = 5 := by omega
      obtain rfl : R = false := by rw [HR.out]; exact okP_no HN.out
      clear hp hp5
      go_wp2_with fail
      exact bodyPost_ret (results_tmp4 (a := 2) (b := 3) (c := 4) (d := 5) rfl _ _ _) rfl ⟨0, 0, 0, 11, rfl, rfl, rfl⟩
end Go.Proofs.Ytoeapobpdfidkaa
