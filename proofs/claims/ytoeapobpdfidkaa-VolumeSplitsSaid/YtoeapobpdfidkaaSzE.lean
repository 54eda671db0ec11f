/- lzma2: a chunk, the document's. -/
import Derived.Test.YtoeapobpdfidkaaSzD
namespace Go.Proofs.Ytoeapobpdfidkaa
open Go.RowKit
set_option linter.unusedVariables false
set_option linter.unusedSimpArgs false

theorem results_cell_tmp2 {fn : Func} {p u v : Tmp} {ty : TypeId} (h : fn.results = #[.cell p ty, .tmp u, .tmp v]) (tmps : Array Value) (P : Program) (w : World) :
    (results fn tmps).run P w =
      ((asAddr (tmps.getD p undef)).run P w).andThen fun a w₁ => ((loadVar ty a).run P w₁).andThen fun x w₂ => .ok (.tuple #[x, tmps.getD u undef, tmps.getD v undef]) w₂ := by
  simp only [results, h]
  simp [Sem.run_bind, Result.andThen]
theorem nums_lt {k : IntKind} {w : World} {A : Option Addr} {n c : Nat} {xs : List Int} (h : Nums k w A n c xs) : ∀ b, 0 < n → A = some b → b.block < w.heap.size := fun b hn hA => by
  obtain ⟨b1, o, e, hc⟩ := h.at_ hn
  rw [e] at hA
  injection hA with hA
  subst hA
  exact World.block_lt_of_cell? w _ (hc 0 hn)
def RNext (w : World) (r : Chk) (e : Ending) (w' : World) : Prop :=
  ∃ (k' N' nx' x y z : Nat) (Ab : Option Addr) (nb cb : Nat), e = .returned (.tuple #[.agg #[.int .i64 (k' : Nat), .int .i64 (N' : Nat), .int .i64 (x : Nat), .int .i64 (y : Nat), .int .i64 (z : Nat), .slice Ab nb cb], .int .i64 (nx' : Nat), .int .i64 (r.er : Nat)]) ∧ Grow w w' ∧ (r.er = 0 → k' = r.k ∧ N' = r.N ∧ nx' = r.nx)
set_option maxRecDepth 8000 in
set_option maxHeartbeats 20000000 in
theorem rChunk_is (w : World) (n c a : Nat) (A : Option Addr) (xs : List Int) (f p : Bool) (h : Nums .u8 w A n c xs) (hat : a ≤ n) (hn : n ≤ 1048576) :
    Calls Try.prog 50 #[.slice A n c, .int .i64 (a : Nat), .bool f, .bool p, .int .i64 1099511627776] w fun e w' => RNext w (chunkP xs n a f p) e w' := by
  obtain ⟨r, hr⟩ : ∃ r, r = chunkP xs n a f p := ⟨_, rfl⟩
  have HRR := Lib.hid hr
  rw [← hr]
  obtain ⟨POST, hPOST⟩ : ∃ POST : Ending → World → Prop, POST = fun e w' => RNext w r e w' := ⟨_, rfl⟩
  have HPO := Lib.hid hPOST
  show Calls _ _ _ _ fun e w' => (fun e w' => RNext w r e w') e w'
  rw [← hPOST]
  have hlt := nums_lt h
  have HN0 := Lib.hid h
  have HLT0 := Lib.hid hlt
  have HNB := Lib.hid (fun j => (bytN_is h j).2)
  have HLE := Lib.hid (And.intro hat hn)
  have hai : (a : Int) ≤ 1048576 := by omega
  have hni : (n : Int) ≤ 1048576 := by omega
  clear hr hPOST h hlt
  go_enter Try.func50, Try.ntmps50
  go_upto_region 1 with fail
  have hga := heap_alloc_new w (.cells #[Value.int .i64 0, Value.int .i64 0, Value.int .i64 0, Value.int .i64 0, Value.int .i64 0, Value.slice none 0 0] 92)
  have HK : Hid (Grow w (w.alloc (.cells #[Value.int .i64 0, Value.int .i64 0, Value.int .i64 0, Value.int .i64 0, Value.int .i64 0, Value.slice none 0 0] 92))) := (Keeps.refl _ w).alloc _
  have HB := Lib.hid hga
  clear hga
  generalize w.alloc (.cells #[Value.int .i64 0, Value.int .i64 0, Value.int .i64 0, Value.int .i64 0, Value.int .i64 0, Value.slice none 0 0] 92) = w1 at *
  obtain ⟨gR, hgR⟩ : ∃ gR, gR = w.heap.size := ⟨_, rfl⟩
  rw [← hgR] at HB HLT0 ⊢
  have HGR : Hid (gR = w.heap.size) := hgR
  have HLT := HLT0
  have HN := Lib.hid (HN0.out.keep HK.out (fun _ _ _ h9 => h9))
  clear hgR HLT0 HN0
  by_cases hna : n ≤ a
  · have hr := HRR.out
    unfold chunkP at hr
    rw [if_pos hna] at hr
    have HR := Lib.hid hr
    have hq : decide ((n : Int) ≤ (a : Int)) = true := decide_eq_true (by omega)
    clear hr
    have e0 := blk_cell HB.out 0
    have g0 := blk_frozen HB.out 0
    have e1 := blk_cell HB.out 1
    have g1 := blk_frozen HB.out 1
    have e2 := blk_cell HB.out 2
    have g2 := blk_frozen HB.out 2
    have e3 := blk_cell HB.out 3
    have g3 := blk_frozen HB.out 3
    have e4 := blk_cell HB.out 4
    have g4 := blk_frozen HB.out 4
    have e5 := blk_cell HB.out 5
    have g5 := blk_frozen HB.out 5
    simp at e0 e1 e2 e3 e4 e5
    go_wp2_with fail
    have hb9 := blk6 HB.out (Value.int .i64 0) (Value.int .i64 0) (Value.int .i64 0) (Value.int .i64 0) (Value.int .i64 0) (Value.slice none 0 0)
    have hk8 : Grow w _ := keep6 HK.out (g := gR) (fun h9 => by have := HGR.out; omega) (Value.int .i64 0) (Value.int .i64 0) (Value.int .i64 0) (Value.int .i64 0) (Value.int .i64 0) (Value.slice none 0 0)
    clear e0 e1 e2 e3 e4 e5 g0 g1 g2 g3 g4 g5
    generalize ((((((w1.setCell ⟨gR, 0, none⟩ (Value.int .i64 0)).setCell ⟨gR, 1, none⟩ (Value.int .i64 0)).setCell ⟨gR, 2, none⟩ (Value.int .i64 0)).setCell ⟨gR, 3, none⟩ (Value.int .i64 0)).setCell ⟨gR, 4, none⟩ (Value.int .i64 0)).setCell ⟨gR, 5, none⟩ (Value.slice none 0 0)) = w9 at *
    have y0 := blk_cell hb9 0
    have y1 := blk_cell hb9 1
    have y2 := blk_cell hb9 2
    have y3 := blk_cell hb9 3
    have y4 := blk_cell hb9 4
    have y5 := blk_cell hb9 5
    simp at y0 y1 y2 y3 y4 y5
    have hld : (loadVar 92 ⟨gR, 0, none⟩).run Try.prog w9 = .ok (.agg #[Value.int .i64 0, Value.int .i64 0, Value.int .i64 0, Value.int .i64 0, Value.int .i64 0, Value.slice none 0 0]) w9 := by go_simp
    have HLD := Lib.hid hld
    clear hld y0 y1 y2 y3 y4 y5
    refine bodyPost_ret (v := .tuple #[.agg #[Value.int .i64 0, Value.int .i64 0, Value.int .i64 0, Value.int .i64 0, Value.int .i64 0, Value.slice none 0 0], .int .i64 (0 : Nat), .int .i64 (10 : Nat)]) ?_ rfl ?_
    · rw [results_cell_tmp2 rfl]
      have hld := HLD.out
      simp [asAddr, Result.andThen, hld]
    · show POST _ _
      rw [HPO.out]
      exact ⟨0, 0, 0, 0, 0, 0, none, 0, 0, by rw [HR.out] <;> rfl, hk8, by rw [HR.out]; intro h9; cases h9⟩
  · have hq : decide ((n : Int) ≤ (a : Int)) = false := decide_eq_false (by omega)
    obtain ⟨k, hk⟩ : ∃ k, k = bytN xs a := ⟨_, rfl⟩
    have hkb : k < 256 := by rw [hk]; exact HNB.out a
    obtain ⟨bb, o, rfl, hc⟩ := HN.out.at_ (by omega)
    have hcl := hc a (by omega)
    rw [(bytN_is HN.out a).1, ← hk] at hcl
    have HCA := Lib.hid hc
    have hr := HRR.out
    unfold chunkP at hr
    rw [if_neg hna, ← hk] at hr
    replace HRR := Lib.hid hr
    obtain ⟨a1, ha1⟩ : ∃ a1, a1 = a + 1 := ⟨_, rfl⟩
    have hai1 : (a : Int) + 1 = (a1 : Int) := by omega
    have HA : Hid (a1 = a + 1 ∧ a < n) := ⟨ha1, by omega⟩
    have hlt9 : (a : Int) < (n : Int) := by omega
    clear hr hk hc ha1
    go_upto_region 5 with fail
    have hga := heap_alloc_new w1 (.cells #[Value.int .i64 (k : Nat), Value.int .i64 0, Value.int .i64 0, Value.int .i64 0, Value.int .i64 0, Value.slice none 0 0] 92)
    have hk9 : Grow w1 (w1.alloc (.cells #[Value.int .i64 (k : Nat), Value.int .i64 0, Value.int .i64 0, Value.int .i64 0, Value.int .i64 0, Value.slice none 0 0] 92)) := (Keeps.refl _ w1).alloc _
    have HK2 : Hid (Grow w (w1.alloc (.cells #[Value.int .i64 (k : Nat), Value.int .i64 0, Value.int .i64 0, Value.int .i64 0, Value.int .i64 0, Value.slice none 0 0] 92))) := HK.out.alloc _
    have HC := Lib.hid hga
    have hcl2 := ckp hcl hk9 (fun h9 => h9)
    have HB2 := Lib.hid (block_keep HB.out hk9 (fun h9 => h9))
    have HN2 := Lib.hid (HN.out.keep hk9 (fun _ _ _ h9 => h9))
    have hgl := blk_lt HB.out
    clear hga HK HB HN hcl HCA hk9
    generalize w1.alloc (.cells #[Value.int .i64 (k : Nat), Value.int .i64 0, Value.int .i64 0, Value.int .i64 0, Value.int .i64 0, Value.slice none 0 0] 92) = w2 at *
    obtain ⟨gC, hgC⟩ : ∃ gC, gC = w1.heap.size := ⟨_, rfl⟩
    rw [← hgC] at HC hgl ⊢
    have HGC : Hid (gR < gC) := hgl
    have HK := HK2
    have HB := HB2
    have HN := HN2
    have hcl := hcl2
    clear HK2 HB2 HN2 hcl2 hgl hgC
    obtain ⟨od, hod⟩ : ∃ od, od = oddK k f p := ⟨_, rfl⟩
    have HO := Lib.hid hod
    have hr := HRR.out
    rw [← hod] at hr
    replace HRR := Lib.hid hr
    clear hod hr hq hlt9 hai1
    go_cut [65] from 31 to 64 (fun c wx => c = .bool od ∧ wx = w2)
    case first =>
      have d0 := blk_cell HC.out 0
      have f0 := blk_frozen HC.out 0
      have d1 := blk_cell HC.out 1
      have f1 := blk_frozen HC.out 1
      have d2 := blk_cell HC.out 2
      have f2 := blk_frozen HC.out 2
      have d3 := blk_cell HC.out 3
      have f3 := blk_frozen HC.out 3
      have d4 := blk_cell HC.out 4
      have f4 := blk_frozen HC.out 4
      have d5 := blk_cell HC.out 5
      have f5 := blk_frozen HC.out 5
      simp at d0 d1 d2 d3 d4 d5
      rcases rangesK k hkb with hr | hr | hr | hr | hr | hr
      · have q0 : decide ((3 : Int) ≤ (k : Int) : Prop) = false := decide_eq_false (by omega)
        have q1 : decide ((k : Int) < 128 : Prop) = true := decide_eq_true (by omega)
        have q2 : decide ((1 : Int) < (k : Int) : Prop) = false := decide_eq_false (by omega)
        have q3 : decide ((k : Int) < 224 : Prop) = true := decide_eq_true (by omega)
        have q4 : decide ((128 : Int) ≤ (k : Int) : Prop) = false := decide_eq_false (by omega)
        have q5 : decide ((k : Int) < 192 : Prop) = true := decide_eq_true (by omega)
        cases f <;> cases p
        · obtain rfl : od = false := by rw [HO.out]; unfold oddK; simp; try omega
          clear HO hr hkb
          go_wp2_with fail
          go_meet
          exact ⟨rfl, rfl⟩
        · obtain rfl : od = false := by rw [HO.out]; unfold oddK; simp; try omega
          clear HO hr hkb
          go_wp2_with fail
          go_meet
          exact ⟨rfl, rfl⟩
        · obtain rfl : od = false := by rw [HO.out]; unfold oddK; simp; try omega
          clear HO hr hkb
          go_wp2_with fail
          go_meet
          exact ⟨rfl, rfl⟩
        · obtain rfl : od = false := by rw [HO.out]; unfold oddK; simp; try omega
          clear HO hr hkb
          go_wp2_with fail
          go_meet
          exact ⟨rfl, rfl⟩
      · have q0 : decide ((3 : Int) ≤ (k : Int) : Prop) = false := decide_eq_false (by omega)
        have q1 : decide ((k : Int) < 128 : Prop) = true := decide_eq_true (by omega)
        have q2 : decide ((1 : Int) < (k : Int) : Prop) = true := decide_eq_true (by omega)
        have q3 : decide ((k : Int) < 224 : Prop) = true := decide_eq_true (by omega)
        have q4 : decide ((128 : Int) ≤ (k : Int) : Prop) = false := decide_eq_false (by omega)
        have q5 : decide ((k : Int) < 192 : Prop) = true := decide_eq_true (by omega)
        cases f <;> cases p
        · obtain rfl : od = false := by rw [HO.out]; unfold oddK; simp; try omega
          clear HO hr hkb
          go_wp2_with fail
          go_meet
          exact ⟨rfl, rfl⟩
        · obtain rfl : od = false := by rw [HO.out]; unfold oddK; simp; try omega
          clear HO hr hkb
          go_wp2_with fail
          go_meet
          exact ⟨rfl, rfl⟩
        · obtain rfl : od = true := by rw [HO.out]; unfold oddK; simp; try omega
          clear HO hr hkb
          go_wp2_with fail
          go_meet
          exact ⟨rfl, rfl⟩
        · obtain rfl : od = true := by rw [HO.out]; unfold oddK; simp; try omega
          clear HO hr hkb
          go_wp2_with fail
          go_meet
          exact ⟨rfl, rfl⟩
      · have q0 : decide ((3 : Int) ≤ (k : Int) : Prop) = true := decide_eq_true (by omega)
        have q1 : decide ((k : Int) < 128 : Prop) = true := decide_eq_true (by omega)
        have q2 : decide ((1 : Int) < (k : Int) : Prop) = true := decide_eq_true (by omega)
        have q3 : decide ((k : Int) < 224 : Prop) = true := decide_eq_true (by omega)
        have q4 : decide ((128 : Int) ≤ (k : Int) : Prop) = false := decide_eq_false (by omega)
        have q5 : decide ((k : Int) < 192 : Prop) = true := decide_eq_true (by omega)
        cases f <;> cases p
        · obtain rfl : od = true := by rw [HO.out]; unfold oddK; simp; try omega
          clear HO hr hkb
          go_wp2_with fail
          go_meet
          exact ⟨rfl, rfl⟩
        · obtain rfl : od = true := by rw [HO.out]; unfold oddK; simp; try omega
          clear HO hr hkb
          go_wp2_with fail
          go_meet
          exact ⟨rfl, rfl⟩
        · obtain rfl : od = true := by rw [HO.out]; unfold oddK; simp; try omega
          clear HO hr hkb
          go_wp2_with fail
          go_meet
          exact ⟨rfl, rfl⟩
        · obtain rfl : od = true := by rw [HO.out]; unfold oddK; simp; try omega
          clear HO hr hkb
          go_wp2_with fail
          go_meet
          exact ⟨rfl, rfl⟩
      · have q0 : decide ((3 : Int) ≤ (k : Int) : Prop) = true := decide_eq_true (by omega)
        have q1 : decide ((k : Int) < 128 : Prop) = false := decide_eq_false (by omega)
        have q2 : decide ((1 : Int) < (k : Int) : Prop) = true := decide_eq_true (by omega)
        have q3 : decide ((k : Int) < 224 : Prop) = true := decide_eq_true (by omega)
        have q4 : decide ((128 : Int) ≤ (k : Int) : Prop) = true := decide_eq_true (by omega)
        have q5 : decide ((k : Int) < 192 : Prop) = true := decide_eq_true (by omega)
        cases f <;> cases p
        · obtain rfl : od = true := by rw [HO.out]; unfold oddK; simp; try omega
          clear HO hr hkb
          go_wp2_with fail
          go_meet
          exact ⟨rfl, rfl⟩
        · obtain rfl : od = false := by rw [HO.out]; unfold oddK; simp; try omega
          clear HO hr hkb
          go_wp2_with fail
          go_meet
          exact ⟨rfl, rfl⟩
        · obtain rfl : od = true := by rw [HO.out]; unfold oddK; simp; try omega
          clear HO hr hkb
          go_wp2_with fail
          go_meet
          exact ⟨rfl, rfl⟩
        · obtain rfl : od = true := by rw [HO.out]; unfold oddK; simp; try omega
          clear HO hr hkb
          go_wp2_with fail
          go_meet
          exact ⟨rfl, rfl⟩
      · have q0 : decide ((3 : Int) ≤ (k : Int) : Prop) = true := decide_eq_true (by omega)
        have q1 : decide ((k : Int) < 128 : Prop) = false := decide_eq_false (by omega)
        have q2 : decide ((1 : Int) < (k : Int) : Prop) = true := decide_eq_true (by omega)
        have q3 : decide ((k : Int) < 224 : Prop) = true := decide_eq_true (by omega)
        have q4 : decide ((128 : Int) ≤ (k : Int) : Prop) = true := decide_eq_true (by omega)
        have q5 : decide ((k : Int) < 192 : Prop) = false := decide_eq_false (by omega)
        cases f <;> cases p
        · obtain rfl : od = false := by rw [HO.out]; unfold oddK; simp; try omega
          clear HO hr hkb
          go_wp2_with fail
          go_meet
          exact ⟨rfl, rfl⟩
        · obtain rfl : od = false := by rw [HO.out]; unfold oddK; simp; try omega
          clear HO hr hkb
          go_wp2_with fail
          go_meet
          exact ⟨rfl, rfl⟩
        · obtain rfl : od = true := by rw [HO.out]; unfold oddK; simp; try omega
          clear HO hr hkb
          go_wp2_with fail
          go_meet
          exact ⟨rfl, rfl⟩
        · obtain rfl : od = true := by rw [HO.out]; unfold oddK; simp; try omega
          clear HO hr hkb
          go_wp2_with fail
          go_meet
          exact ⟨rfl, rfl⟩
      · have q0 : decide ((3 : Int) ≤ (k : Int) : Prop) = true := decide_eq_true (by omega)
        have q1 : decide ((k : Int) < 128 : Prop) = false := decide_eq_false (by omega)
        have q2 : decide ((1 : Int) < (k : Int) : Prop) = true := decide_eq_true (by omega)
        have q3 : decide ((k : Int) < 224 : Prop) = false := decide_eq_false (by omega)
        have q4 : decide ((128 : Int) ≤ (k : Int) : Prop) = true := decide_eq_true (by omega)
        have q5 : decide ((k : Int) < 192 : Prop) = false := decide_eq_false (by omega)
        cases f <;> cases p
        · obtain rfl : od = false := by rw [HO.out]; unfold oddK; simp; try omega
          clear HO hr hkb
          go_wp2_with fail
          go_meet
          exact ⟨rfl, rfl⟩
        · obtain rfl : od = false := by rw [HO.out]; unfold oddK; simp; try omega
          clear HO hr hkb
          go_wp2_with fail
          go_meet
          exact ⟨rfl, rfl⟩
        · obtain rfl : od = false := by rw [HO.out]; unfold oddK; simp; try omega
          clear HO hr hkb
          go_wp2_with fail
          go_meet
          exact ⟨rfl, rfl⟩
        · obtain rfl : od = false := by rw [HO.out]; unfold oddK; simp; try omega
          clear HO hr hkb
          go_wp2_with fail
          go_meet
          exact ⟨rfl, rfl⟩
    case rest =>
      obtain ⟨rfl, rfl⟩ := hcut
      cases od
      · have hr := HRR.out
        rw [if_neg (by decide)] at hr
        replace HRR := Lib.hid hr
        clear hr
        by_cases hk0 : k = 0
        · have hr := HRR.out
          rw [if_pos hk0] at hr
          have HR := Lib.hid hr
          have HK0 := Lib.hid hk0
          have hkz : decide ((k : Int) = 0) = true := decide_eq_true (by omega)
          have hkz2 : ((k : Int) == 0) = true := by simp; omega
          clear hr hk0 hkb
          have d0 := blk_cell HC.out 0
          have f0 := blk_frozen HC.out 0
          have d1 := blk_cell HC.out 1
          have f1 := blk_frozen HC.out 1
          have d2 := blk_cell HC.out 2
          have f2 := blk_frozen HC.out 2
          have d3 := blk_cell HC.out 3
          have f3 := blk_frozen HC.out 3
          have d4 := blk_cell HC.out 4
          have f4 := blk_frozen HC.out 4
          have d5 := blk_cell HC.out 5
          have f5 := blk_frozen HC.out 5
          simp at d0 d1 d2 d3 d4 d5
          have e0 := blk_cell HB.out 0
          have g0 := blk_frozen HB.out 0
          have e1 := blk_cell HB.out 1
          have g1 := blk_frozen HB.out 1
          have e2 := blk_cell HB.out 2
          have g2 := blk_frozen HB.out 2
          have e3 := blk_cell HB.out 3
          have g3 := blk_frozen HB.out 3
          have e4 := blk_cell HB.out 4
          have g4 := blk_frozen HB.out 4
          have e5 := blk_cell HB.out 5
          have g5 := blk_frozen HB.out 5
          simp at e0 e1 e2 e3 e4 e5
          go_wp2_with fail
          have hb9 := blk6 HB.out (Value.int .i64 (k : Nat)) (Value.int .i64 0) (Value.int .i64 0) (Value.int .i64 0) (Value.int .i64 0) (Value.slice none 0 0)
          have hk8 : Grow w _ := keep6 HK.out (g := gR) (fun h9 => by have := HGR.out; omega) (Value.int .i64 (k : Nat)) (Value.int .i64 0) (Value.int .i64 0) (Value.int .i64 0) (Value.int .i64 0) (Value.slice none 0 0)
          clear d0 d1 d2 d3 d4 d5 f0 f1 f2 f3 f4 f5
          clear e0 e1 e2 e3 e4 e5 g0 g1 g2 g3 g4 g5
          generalize ((((((wc.setCell ⟨gR, 0, none⟩ (Value.int .i64 (k : Nat))).setCell ⟨gR, 1, none⟩ (Value.int .i64 0)).setCell ⟨gR, 2, none⟩ (Value.int .i64 0)).setCell ⟨gR, 3, none⟩ (Value.int .i64 0)).setCell ⟨gR, 4, none⟩ (Value.int .i64 0)).setCell ⟨gR, 5, none⟩ (Value.slice none 0 0)) = w9 at *
          have y0 := blk_cell hb9 0
          have y1 := blk_cell hb9 1
          have y2 := blk_cell hb9 2
          have y3 := blk_cell hb9 3
          have y4 := blk_cell hb9 4
          have y5 := blk_cell hb9 5
          simp at y0 y1 y2 y3 y4 y5
          have hld : (loadVar 92 ⟨gR, 0, none⟩).run Try.prog w9 = .ok (.agg #[Value.int .i64 (k : Nat), Value.int .i64 0, Value.int .i64 0, Value.int .i64 0, Value.int .i64 0, Value.slice none 0 0]) w9 := by go_simp
          have HLD := Lib.hid hld
          clear hld y0 y1 y2 y3 y4 y5
          refine bodyPost_ret (v := .tuple #[.agg #[Value.int .i64 (k : Nat), Value.int .i64 0, Value.int .i64 0, Value.int .i64 0, Value.int .i64 0, Value.slice none 0 0], .int .i64 (a1 : Nat), .int .i64 (0 : Nat)]) ?_ rfl ?_
          · rw [results_cell_tmp2 rfl]
            have hld := HLD.out
            simp [asAddr, Result.andThen, hld]
          · show POST _ _
            rw [HPO.out]
            exact ⟨k, 0, a1, 0, 0, 0, none, 0, 0, by rw [HR.out] <;> rfl, hk8, by rw [HR.out]; intro _; exact ⟨HK0.out, rfl, HA.out.1⟩⟩
        · have hr := HRR.out
          rw [if_neg hk0] at hr
          replace HRR := Lib.hid hr
          have HK0 := Lib.hid hk0
          have hkz : decide ((k : Int) = 0) = false := decide_eq_false (by omega)
          have hkz2 : ((k : Int) == 0) = false := by simp; omega
          have HKB := Lib.hid hkb
          clear hr hk0 hkb hcl
          have d0 := blk_cell HC.out 0
          have f0 := blk_frozen HC.out 0
          have d1 := blk_cell HC.out 1
          have f1 := blk_frozen HC.out 1
          have d2 := blk_cell HC.out 2
          have f2 := blk_frozen HC.out 2
          have d3 := blk_cell HC.out 3
          have f3 := blk_frozen HC.out 3
          have d4 := blk_cell HC.out 4
          have f4 := blk_frozen HC.out 4
          have d5 := blk_cell HC.out 5
          have f5 := blk_frozen HC.out 5
          simp at d0 d1 d2 d3 d4 d5
          go_wp2_with fail
          clear d0 d1 d2 d3 d4 d5 f0 f1 f2 f3 f4 f5
          refine (rRead2_is wc _ n c a1 xs HN.out (by have := HA.out; omega) HLE.out.2).mono ?_
          rintro x w3 ⟨v0, a2, er, rfl, hv0, hg3, h3⟩
          have hb9 := block_keep HC.out hg3 (fun h9 => h9)
          have hb8 := block_keep HB.out hg3 (fun h9 => h9)
          have hk8 : Grow w w3 := Grow.trans _ _ _ HK.out hg3
          clear HC HK HB
          have HC := Lib.hid hb9
          have HB := Lib.hid hb8
          have HK := Lib.hid hk8
          replace HN := Lib.hid (HN.out.keep hg3 (fun _ _ _ h9 => h9))
          clear hb9 hb8 hk8 hg3
          rcases h3 with ⟨rfl, h3⟩ | ⟨rfl, h3, ha2, hv⟩
          · have hr := HRR.out
            rw [if_pos (by have := HA.out; omega)] at hr
            have HR := Lib.hid hr
            clear hr h3 hv0
            have d0 := blk_cell HC.out 0
            have f0 := blk_frozen HC.out 0
            have d1 := blk_cell HC.out 1
            have f1 := blk_frozen HC.out 1
            have d2 := blk_cell HC.out 2
            have f2 := blk_frozen HC.out 2
            have d3 := blk_cell HC.out 3
            have f3 := blk_frozen HC.out 3
            have d4 := blk_cell HC.out 4
            have f4 := blk_frozen HC.out 4
            have d5 := blk_cell HC.out 5
            have f5 := blk_frozen HC.out 5
            simp at d0 d1 d2 d3 d4 d5
            have e0 := blk_cell HB.out 0
            have g0 := blk_frozen HB.out 0
            have e1 := blk_cell HB.out 1
            have g1 := blk_frozen HB.out 1
            have e2 := blk_cell HB.out 2
            have g2 := blk_frozen HB.out 2
            have e3 := blk_cell HB.out 3
            have g3 := blk_frozen HB.out 3
            have e4 := blk_cell HB.out 4
            have g4 := blk_frozen HB.out 4
            have e5 := blk_cell HB.out 5
            have g5 := blk_frozen HB.out 5
            simp at e0 e1 e2 e3 e4 e5
            go_wp2_with fail
            have hb9 := blk6 HB.out (Value.int .i64 0) (Value.int .i64 0) (Value.int .i64 0) (Value.int .i64 0) (Value.int .i64 0) (Value.slice none 0 0)
            have hk8 : Grow w _ := keep6 HK.out (g := gR) (fun h9 => by have := HGR.out; omega) (Value.int .i64 0) (Value.int .i64 0) (Value.int .i64 0) (Value.int .i64 0) (Value.int .i64 0) (Value.slice none 0 0)
            clear d0 d1 d2 d3 d4 d5 f0 f1 f2 f3 f4 f5
            clear e0 e1 e2 e3 e4 e5 g0 g1 g2 g3 g4 g5
            generalize ((((((w3.setCell ⟨gR, 0, none⟩ (Value.int .i64 0)).setCell ⟨gR, 1, none⟩ (Value.int .i64 0)).setCell ⟨gR, 2, none⟩ (Value.int .i64 0)).setCell ⟨gR, 3, none⟩ (Value.int .i64 0)).setCell ⟨gR, 4, none⟩ (Value.int .i64 0)).setCell ⟨gR, 5, none⟩ (Value.slice none 0 0)) = w9 at *
            have y0 := blk_cell hb9 0
            have y1 := blk_cell hb9 1
            have y2 := blk_cell hb9 2
            have y3 := blk_cell hb9 3
            have y4 := blk_cell hb9 4
            have y5 := blk_cell hb9 5
            simp at y0 y1 y2 y3 y4 y5
            have hld : (loadVar 92 ⟨gR, 0, none⟩).run Try.prog w9 = .ok (.agg #[Value.int .i64 0, Value.int .i64 0, Value.int .i64 0, Value.int .i64 0, Value.int .i64 0, Value.slice none 0 0]) w9 := by go_simp
            have HLD := Lib.hid hld
            clear hld y0 y1 y2 y3 y4 y5
            refine bodyPost_ret (v := .tuple #[.agg #[Value.int .i64 0, Value.int .i64 0, Value.int .i64 0, Value.int .i64 0, Value.int .i64 0, Value.slice none 0 0], .int .i64 (0 : Nat), .int .i64 (10 : Nat)]) ?_ rfl ?_
            · rw [results_cell_tmp2 rfl]
              have hld := HLD.out
              simp [asAddr, Result.andThen, hld]
            · show POST _ _
              rw [HPO.out]
              exact ⟨0, 0, 0, 0, 0, 0, none, 0, 0, by rw [HR.out] <;> rfl, hk8, by rw [HR.out]; intro h9; cases h9⟩
          · have HA2 : Hid (a2 = a + 3 ∧ a + 3 ≤ n) := by have := HA.out; exact ⟨by omega, by omega⟩
            obtain ⟨v, hve⟩ : ∃ v, v = v0 + 1 := ⟨_, rfl⟩
            have hvi : (v0 : Int) + 1 = (v : Int) := by omega
            have hv0i : (v0 : Int) ≤ 65535 := by omega
            have HV : Hid (v ≤ 65536 ∧ v = n2 xs (a + 1)) := ⟨by omega, by rw [hve, hv, HA.out.1]⟩
            have hr := HRR.out
            rw [if_neg (by have := HA2.out; omega), ← HV.out.2, ← HA2.out.1] at hr
            replace HRR := Lib.hid hr
            clear hr h3 ha2 hv hve hv0
            have d0 := blk_cell HC.out 0
            have f0 := blk_frozen HC.out 0
            have d1 := blk_cell HC.out 1
            have f1 := blk_frozen HC.out 1
            have d2 := blk_cell HC.out 2
            have f2 := blk_frozen HC.out 2
            have d3 := blk_cell HC.out 3
            have f3 := blk_frozen HC.out 3
            have d4 := blk_cell HC.out 4
            have f4 := blk_frozen HC.out 4
            have d5 := blk_cell HC.out 5
            have f5 := blk_frozen HC.out 5
            simp at d0 d1 d2 d3 d4 d5
            go_upto_region 14 with fail
            have hb9 := (blk_set HC.out 1 (Value.int .i64 (v : Nat)))
            simp at hb9
            have hk9 : Keeps (fun k => k = gC) w3 (w3.setCell ⟨gC, 1, none⟩ (Value.int .i64 (v : Nat))) := ((Keeps.refl (fun k => k = gC) w3).setCell (p := ⟨gC, 1, none⟩) (fun _ => rfl) (Value.int .i64 (v : Nat)))
            have hk8 : Grow w (w3.setCell ⟨gC, 1, none⟩ (Value.int .i64 (v : Nat))) := (HK.out.setCell (p := ⟨gC, 1, none⟩) (fun h9 => by have := HGC.out; have := HGR.out; simp only at h9; omega) (Value.int .i64 (v : Nat)))
            have hb8 := block_keep HB.out hk9 (fun h9 => by have h9 : gR = gC := h9; have := HGC.out; omega)
            clear d0 d1 d2 d3 d4 d5 f0 f1 f2 f3 f4 f5
            clear HC HK HB
            generalize (w3.setCell ⟨gC, 1, none⟩ (Value.int .i64 (v : Nat))) = w4 at *
            have HC : Hid (w4.heap[gC]? = some (.cells #[Value.int .i64 (k : Nat), Value.int .i64 (v : Nat), Value.int .i64 0, Value.int .i64 0, Value.int .i64 0, Value.slice none 0 0] 92 (0, 0))) := hb9
            have HB := Lib.hid hb8
            have HK := Lib.hid hk8
            replace HN := Lib.hid (HN.out.keep hk9 (fun b o hA h9 => by have h9 : b = gC := h9; have := HLT.out _ (by have := HA.out; omega) hA; have := HGC.out; have := HGR.out; simp only at *; omega))
            clear hb9 hk9 hk8 hb8
            have HVI : Hid ((v : Int) ≤ 65536) := by have := HV.out; show _ ≤ _; omega
            clear hvi hv0i
            have d0 := blk_cell HC.out 0
            have f0 := blk_frozen HC.out 0
            have d1 := blk_cell HC.out 1
            have f1 := blk_frozen HC.out 1
            have d2 := blk_cell HC.out 2
            have f2 := blk_frozen HC.out 2
            have d3 := blk_cell HC.out 3
            have f3 := blk_frozen HC.out 3
            have d4 := blk_cell HC.out 4
            have f4 := blk_frozen HC.out 4
            have d5 := blk_cell HC.out 5
            have f5 := blk_frozen HC.out 5
            simp at d0 d1 d2 d3 d4 d5
            by_cases hk1 : k < 128
            · have q1 : decide ((128 : Int) ≤ (k : Int)) = false := decide_eq_false (by omega)
              have q2 : decide ((192 : Int) ≤ (k : Int)) = false := decide_eq_false (by omega)
              have hroom : decide ((1099511627776 : Int) < (v : Int)) = false := decide_eq_false (by have := HVI.out; omega)
              have hr := HRR.out
              rw [if_pos hk1] at hr
              replace HRR := Lib.hid hr
              clear hr hk1
              obtain ⟨dd, hdd⟩ : ∃ dd, dd = n - a2 := ⟨_, rfl⟩
              have hddi : (n : Int) - (a2 : Int) = (dd : Int) := by have := HA2.out; omega
              have hddb : (dd : Int) ≤ 1048576 := by have := HLE.out; omega
              have hm8 := HV.out.1
              have hmi : (v : Int) ≤ 65536 := by omega
              by_cases hb : n < a2 + v
              · have hq9 : decide ((dd : Int) < (v : Int)) = true := decide_eq_true (by omega)
                have hq8 : decide (dd < v) = true := decide_eq_true (by omega)
                have hr := HRR.out
                rw [if_pos hb] at hr
                have HR := Lib.hid hr
                clear hr hb hm8 hdd
                have d0 := blk_cell HC.out 0
                have f0 := blk_frozen HC.out 0
                have d1 := blk_cell HC.out 1
                have f1 := blk_frozen HC.out 1
                have d2 := blk_cell HC.out 2
                have f2 := blk_frozen HC.out 2
                have d3 := blk_cell HC.out 3
                have f3 := blk_frozen HC.out 3
                have d4 := blk_cell HC.out 4
                have f4 := blk_frozen HC.out 4
                have d5 := blk_cell HC.out 5
                have f5 := blk_frozen HC.out 5
                simp at d0 d1 d2 d3 d4 d5
                have e0 := blk_cell HB.out 0
                have g0 := blk_frozen HB.out 0
                have e1 := blk_cell HB.out 1
                have g1 := blk_frozen HB.out 1
                have e2 := blk_cell HB.out 2
                have g2 := blk_frozen HB.out 2
                have e3 := blk_cell HB.out 3
                have g3 := blk_frozen HB.out 3
                have e4 := blk_cell HB.out 4
                have g4 := blk_frozen HB.out 4
                have e5 := blk_cell HB.out 5
                have g5 := blk_frozen HB.out 5
                simp at e0 e1 e2 e3 e4 e5
                go_wp2_with fail
                have hb9 := blk6 HB.out (Value.int .i64 0) (Value.int .i64 0) (Value.int .i64 0) (Value.int .i64 0) (Value.int .i64 0) (Value.slice none 0 0)
                have hk8 : Grow w _ := keep6 HK.out (g := gR) (fun h9 => by have := HGR.out; omega) (Value.int .i64 0) (Value.int .i64 0) (Value.int .i64 0) (Value.int .i64 0) (Value.int .i64 0) (Value.slice none 0 0)
                clear d0 d1 d2 d3 d4 d5 f0 f1 f2 f3 f4 f5
                clear e0 e1 e2 e3 e4 e5 g0 g1 g2 g3 g4 g5
                generalize ((((((w4.setCell ⟨gR, 0, none⟩ (Value.int .i64 0)).setCell ⟨gR, 1, none⟩ (Value.int .i64 0)).setCell ⟨gR, 2, none⟩ (Value.int .i64 0)).setCell ⟨gR, 3, none⟩ (Value.int .i64 0)).setCell ⟨gR, 4, none⟩ (Value.int .i64 0)).setCell ⟨gR, 5, none⟩ (Value.slice none 0 0)) = w9 at *
                have y0 := blk_cell hb9 0
                have y1 := blk_cell hb9 1
                have y2 := blk_cell hb9 2
                have y3 := blk_cell hb9 3
                have y4 := blk_cell hb9 4
                have y5 := blk_cell hb9 5
                simp at y0 y1 y2 y3 y4 y5
                have hld : (loadVar 92 ⟨gR, 0, none⟩).run Try.prog w9 = .ok (.agg #[Value.int .i64 0, Value.int .i64 0, Value.int .i64 0, Value.int .i64 0, Value.int .i64 0, Value.slice none 0 0]) w9 := by go_simp
                have HLD := Lib.hid hld
                clear hld y0 y1 y2 y3 y4 y5
                refine bodyPost_ret (v := .tuple #[.agg #[Value.int .i64 0, Value.int .i64 0, Value.int .i64 0, Value.int .i64 0, Value.int .i64 0, Value.slice none 0 0], .int .i64 (0 : Nat), .int .i64 (10 : Nat)]) ?_ rfl ?_
                · rw [results_cell_tmp2 rfl]
                  have hld := HLD.out
                  simp [asAddr, Result.andThen, hld]
                · show POST _ _
                  rw [HPO.out]
                  exact ⟨0, 0, 0, 0, 0, 0, none, 0, 0, by rw [HR.out] <;> rfl, hk8, by rw [HR.out]; intro h9; cases h9⟩
              · have hq9 : decide ((dd : Int) < (v : Int)) = false := decide_eq_false (by omega)
                have hq8 : decide (dd < v) = false := decide_eq_false (by omega)
                have hr := HRR.out
                rw [if_neg hb] at hr
                obtain ⟨a9, ha9⟩ : ∃ a9, a9 = a2 + v := ⟨_, rfl⟩
                rw [← ha9] at hr
                have HR := Lib.hid hr
                have ha9i : (a2 : Int) + (v : Int) = (a9 : Int) := by omega
                have ha9b : (a9 : Int) ≤ 1048576 := by have := HLE.out; omega
                obtain ⟨A2, hA2⟩ : ∃ A2, A2 = Nums.off (some ⟨bb, o, none⟩) c a2 := ⟨_, rfl⟩
                have hcap := HN.out.cap
                have hsl : ∀ w : World, (Instr.slice 51 (.slice (some ⟨bb, o, none⟩) n c) (some (.int .i64 (a2 : Nat))) (some (.int .i64 (a9 : Nat))) none).run Try.prog w = .ok (.slice A2 v (c - a2)) w := fun w => by
                  have h9 := run_mid (P := Try.prog) (t := 51) Try.underlying51 rfl rfl (some ⟨bb, o, none⟩) n c a2 a9 (by omega) (by omega) w
                  rw [h9, hA2, show a9 - a2 = v by omega]
                clear hr hb hm8 hdd hA2 ha9 hcap
                have d0 := blk_cell HC.out 0
                have f0 := blk_frozen HC.out 0
                have d1 := blk_cell HC.out 1
                have f1 := blk_frozen HC.out 1
                have d2 := blk_cell HC.out 2
                have f2 := blk_frozen HC.out 2
                have d3 := blk_cell HC.out 3
                have f3 := blk_frozen HC.out 3
                have d4 := blk_cell HC.out 4
                have f4 := blk_frozen HC.out 4
                have d5 := blk_cell HC.out 5
                have f5 := blk_frozen HC.out 5
                simp at d0 d1 d2 d3 d4 d5
                go_upto_region 34 with fail
                have hb9 := (blk_set HC.out 5 (Value.slice A2 v (c - a2)))
                simp at hb9
                have hk9 : Keeps (fun k => k = gC) w4 (w4.setCell ⟨gC, 5, none⟩ (Value.slice A2 v (c - a2))) := ((Keeps.refl (fun k => k = gC) w4).setCell (p := ⟨gC, 5, none⟩) (fun _ => rfl) (Value.slice A2 v (c - a2)))
                have hk8 : Grow w (w4.setCell ⟨gC, 5, none⟩ (Value.slice A2 v (c - a2))) := (HK.out.setCell (p := ⟨gC, 5, none⟩) (fun h9 => by have := HGC.out; have := HGR.out; simp only at h9; omega) (Value.slice A2 v (c - a2)))
                have hb8 := block_keep HB.out hk9 (fun h9 => by have h9 : gR = gC := h9; have := HGC.out; omega)
                clear d0 d1 d2 d3 d4 d5 f0 f1 f2 f3 f4 f5
                clear HC HK HB
                generalize (w4.setCell ⟨gC, 5, none⟩ (Value.slice A2 v (c - a2))) = wt at *
                have HC : Hid (wt.heap[gC]? = some (.cells #[Value.int .i64 (k : Nat), Value.int .i64 (v : Nat), Value.int .i64 0, Value.int .i64 0, Value.int .i64 0, Value.slice A2 v (c - a2)] 92 (0, 0))) := hb9
                have HB := Lib.hid hb8
                have HK := Lib.hid hk8
                replace HN := Lib.hid (HN.out.keep hk9 (fun b o hA h9 => by have h9 : b = gC := h9; have := HLT.out _ (by have := HA.out; omega) hA; have := HGC.out; have := HGR.out; simp only at *; omega))
                clear hb9 hk9 hk8 hb8
                have d0 := blk_cell HC.out 0
                have f0 := blk_frozen HC.out 0
                have d1 := blk_cell HC.out 1
                have f1 := blk_frozen HC.out 1
                have d2 := blk_cell HC.out 2
                have f2 := blk_frozen HC.out 2
                have d3 := blk_cell HC.out 3
                have f3 := blk_frozen HC.out 3
                have d4 := blk_cell HC.out 4
                have f4 := blk_frozen HC.out 4
                have d5 := blk_cell HC.out 5
                have f5 := blk_frozen HC.out 5
                simp at d0 d1 d2 d3 d4 d5
                have e0 := blk_cell HB.out 0
                have g0 := blk_frozen HB.out 0
                have e1 := blk_cell HB.out 1
                have g1 := blk_frozen HB.out 1
                have e2 := blk_cell HB.out 2
                have g2 := blk_frozen HB.out 2
                have e3 := blk_cell HB.out 3
                have g3 := blk_frozen HB.out 3
                have e4 := blk_cell HB.out 4
                have g4 := blk_frozen HB.out 4
                have e5 := blk_cell HB.out 5
                have g5 := blk_frozen HB.out 5
                simp at e0 e1 e2 e3 e4 e5
                go_wp2_with fail
                have hb9 := blk6 HB.out (Value.int .i64 (k : Nat)) (Value.int .i64 (v : Nat)) (Value.int .i64 0) (Value.int .i64 0) (Value.int .i64 0) (Value.slice A2 v (c - a2))
                have hk8 : Grow w _ := keep6 HK.out (g := gR) (fun h9 => by have := HGR.out; omega) (Value.int .i64 (k : Nat)) (Value.int .i64 (v : Nat)) (Value.int .i64 0) (Value.int .i64 0) (Value.int .i64 0) (Value.slice A2 v (c - a2))
                clear d0 d1 d2 d3 d4 d5 f0 f1 f2 f3 f4 f5
                clear e0 e1 e2 e3 e4 e5 g0 g1 g2 g3 g4 g5
                generalize ((((((wt.setCell ⟨gR, 0, none⟩ (Value.int .i64 (k : Nat))).setCell ⟨gR, 1, none⟩ (Value.int .i64 (v : Nat))).setCell ⟨gR, 2, none⟩ (Value.int .i64 0)).setCell ⟨gR, 3, none⟩ (Value.int .i64 0)).setCell ⟨gR, 4, none⟩ (Value.int .i64 0)).setCell ⟨gR, 5, none⟩ (Value.slice A2 v (c - a2))) = w9 at *
                have y0 := blk_cell hb9 0
                have y1 := blk_cell hb9 1
                have y2 := blk_cell hb9 2
                have y3 := blk_cell hb9 3
                have y4 := blk_cell hb9 4
                have y5 := blk_cell hb9 5
                simp at y0 y1 y2 y3 y4 y5
                have hld : (loadVar 92 ⟨gR, 0, none⟩).run Try.prog w9 = .ok (.agg #[Value.int .i64 (k : Nat), Value.int .i64 (v : Nat), Value.int .i64 0, Value.int .i64 0, Value.int .i64 0, Value.slice A2 v (c - a2)]) w9 := by go_simp
                have HLD := Lib.hid hld
                clear hld y0 y1 y2 y3 y4 y5
                refine bodyPost_ret (v := .tuple #[.agg #[Value.int .i64 (k : Nat), Value.int .i64 (v : Nat), Value.int .i64 0, Value.int .i64 0, Value.int .i64 0, Value.slice A2 v (c - a2)], .int .i64 (a9 : Nat), .int .i64 (0 : Nat)]) ?_ rfl ?_
                · rw [results_cell_tmp2 rfl]
                  have hld := HLD.out
                  simp [asAddr, Result.andThen, hld]
                · show POST _ _
                  rw [HPO.out]
                  exact ⟨k, v, a9, 0, 0, 0, A2, v, (c - a2), by rw [HR.out] <;> rfl, hk8, by rw [HR.out]; intro _; exact ⟨rfl, rfl, rfl⟩⟩
            · have q1 : decide ((128 : Int) ≤ (k : Int)) = true := decide_eq_true (by omega)
              have hr := HRR.out
              rw [if_neg hk1] at hr
              replace HRR := Lib.hid hr
              obtain ⟨t, ht⟩ : ∃ t, t = k % 32 := ⟨_, rfl⟩
              have hti : (k : Int) % 32 = (t : Int) := by omega
              have htb : (t : Int) ≤ 31 := by omega
              have HT := Lib.hid ht
              have hvi9 := HVI.out
              clear ht hr hk1
              go_upto_region 17 with fail
              obtain ⟨N, hN⟩ : ∃ N, N = v + t * 65536 := ⟨_, rfl⟩
              have hNi : (v : Int) + (t : Int) * 65536 = (N : Int) := by omega
              rw [hNi]
              have hNE : N = v + k % 32 * 65536 := by rw [hN, HT.out]
              have hr := HRR.out
              rw [← hNE] at hr
              replace HRR := Lib.hid hr
              have HNB2 : Hid (N ≤ 2097152) := by show _ ≤ _; omega
              clear hN hNi hNE hr hti htb hvi9
              have hb9 := (blk_set HC.out 1 (Value.int .i64 (N : Nat)))
              simp at hb9
              have hk9 : Keeps (fun k => k = gC) w4 (w4.setCell ⟨gC, 1, none⟩ (Value.int .i64 (N : Nat))) := ((Keeps.refl (fun k => k = gC) w4).setCell (p := ⟨gC, 1, none⟩) (fun _ => rfl) (Value.int .i64 (N : Nat)))
              have hk8 : Grow w (w4.setCell ⟨gC, 1, none⟩ (Value.int .i64 (N : Nat))) := (HK.out.setCell (p := ⟨gC, 1, none⟩) (fun h9 => by have := HGC.out; have := HGR.out; simp only at h9; omega) (Value.int .i64 (N : Nat)))
              have hb8 := block_keep HB.out hk9 (fun h9 => by have h9 : gR = gC := h9; have := HGC.out; omega)
              clear d0 d1 d2 d3 d4 d5 f0 f1 f2 f3 f4 f5
              clear HC HK HB
              generalize (w4.setCell ⟨gC, 1, none⟩ (Value.int .i64 (N : Nat))) = w5 at *
              have HC : Hid (w5.heap[gC]? = some (.cells #[Value.int .i64 (k : Nat), Value.int .i64 (N : Nat), Value.int .i64 0, Value.int .i64 0, Value.int .i64 0, Value.slice none 0 0] 92 (0, 0))) := hb9
              have HB := Lib.hid hb8
              have HK := Lib.hid hk8
              replace HN := Lib.hid (HN.out.keep hk9 (fun b o hA h9 => by have h9 : b = gC := h9; have := HLT.out _ (by have := HA.out; omega) hA; have := HGC.out; have := HGR.out; simp only at *; omega))
              clear hb9 hk9 hk8 hb8
              go_wp2_with fail
              refine (rRead2_is w5 _ n c a2 xs HN.out (by have := HA2.out; omega) HLE.out.2).mono ?_
              rintro x w6 ⟨m0, a3, er, rfl, hm0, hg6, h6⟩
              have hb9 := block_keep HC.out hg6 (fun h9 => h9)
              have hb8 := block_keep HB.out hg6 (fun h9 => h9)
              have hk8 : Grow w w6 := Grow.trans _ _ _ HK.out hg6
              clear HC HK HB
              have HC := Lib.hid hb9
              have HB := Lib.hid hb8
              have HK := Lib.hid hk8
              replace HN := Lib.hid (HN.out.keep hg6 (fun _ _ _ h9 => h9))
              clear hb9 hb8 hk8 hg6
              rcases h6 with ⟨rfl, h6⟩ | ⟨rfl, h6, ha3, hm⟩
              · have hr := HRR.out
                rw [if_pos (by have := HA2.out; omega)] at hr
                have HR := Lib.hid hr
                clear hr h6 hm0
                have d0 := blk_cell HC.out 0
                have f0 := blk_frozen HC.out 0
                have d1 := blk_cell HC.out 1
                have f1 := blk_frozen HC.out 1
                have d2 := blk_cell HC.out 2
                have f2 := blk_frozen HC.out 2
                have d3 := blk_cell HC.out 3
                have f3 := blk_frozen HC.out 3
                have d4 := blk_cell HC.out 4
                have f4 := blk_frozen HC.out 4
                have d5 := blk_cell HC.out 5
                have f5 := blk_frozen HC.out 5
                simp at d0 d1 d2 d3 d4 d5
                have e0 := blk_cell HB.out 0
                have g0 := blk_frozen HB.out 0
                have e1 := blk_cell HB.out 1
                have g1 := blk_frozen HB.out 1
                have e2 := blk_cell HB.out 2
                have g2 := blk_frozen HB.out 2
                have e3 := blk_cell HB.out 3
                have g3 := blk_frozen HB.out 3
                have e4 := blk_cell HB.out 4
                have g4 := blk_frozen HB.out 4
                have e5 := blk_cell HB.out 5
                have g5 := blk_frozen HB.out 5
                simp at e0 e1 e2 e3 e4 e5
                go_wp2_with fail
                have hb9 := blk6 HB.out (Value.int .i64 0) (Value.int .i64 0) (Value.int .i64 0) (Value.int .i64 0) (Value.int .i64 0) (Value.slice none 0 0)
                have hk8 : Grow w _ := keep6 HK.out (g := gR) (fun h9 => by have := HGR.out; omega) (Value.int .i64 0) (Value.int .i64 0) (Value.int .i64 0) (Value.int .i64 0) (Value.int .i64 0) (Value.slice none 0 0)
                clear d0 d1 d2 d3 d4 d5 f0 f1 f2 f3 f4 f5
                clear e0 e1 e2 e3 e4 e5 g0 g1 g2 g3 g4 g5
                generalize ((((((w6.setCell ⟨gR, 0, none⟩ (Value.int .i64 0)).setCell ⟨gR, 1, none⟩ (Value.int .i64 0)).setCell ⟨gR, 2, none⟩ (Value.int .i64 0)).setCell ⟨gR, 3, none⟩ (Value.int .i64 0)).setCell ⟨gR, 4, none⟩ (Value.int .i64 0)).setCell ⟨gR, 5, none⟩ (Value.slice none 0 0)) = w9 at *
                have y0 := blk_cell hb9 0
                have y1 := blk_cell hb9 1
                have y2 := blk_cell hb9 2
                have y3 := blk_cell hb9 3
                have y4 := blk_cell hb9 4
                have y5 := blk_cell hb9 5
                simp at y0 y1 y2 y3 y4 y5
                have hld : (loadVar 92 ⟨gR, 0, none⟩).run Try.prog w9 = .ok (.agg #[Value.int .i64 0, Value.int .i64 0, Value.int .i64 0, Value.int .i64 0, Value.int .i64 0, Value.slice none 0 0]) w9 := by go_simp
                have HLD := Lib.hid hld
                clear hld y0 y1 y2 y3 y4 y5
                refine bodyPost_ret (v := .tuple #[.agg #[Value.int .i64 0, Value.int .i64 0, Value.int .i64 0, Value.int .i64 0, Value.int .i64 0, Value.slice none 0 0], .int .i64 (0 : Nat), .int .i64 (10 : Nat)]) ?_ rfl ?_
                · rw [results_cell_tmp2 rfl]
                  have hld := HLD.out
                  simp [asAddr, Result.andThen, hld]
                · show POST _ _
                  rw [HPO.out]
                  exact ⟨0, 0, 0, 0, 0, 0, none, 0, 0, by rw [HR.out] <;> rfl, hk8, by rw [HR.out]; intro h9; cases h9⟩
              · have HA3 : Hid (a3 = a + 5 ∧ a + 5 ≤ n) := by have := HA2.out; exact ⟨by omega, by omega⟩
                obtain ⟨m, hme⟩ : ∃ m, m = m0 + 1 := ⟨_, rfl⟩
                have hmi0 : (m0 : Int) + 1 = (m : Int) := by omega
                have hm0i : (m0 : Int) ≤ 65535 := by omega
                have HM : Hid (m ≤ 65536 ∧ m = n2 xs a2) := ⟨by omega, by rw [hme, hm]⟩
                have hr := HRR.out
                rw [if_neg (by have := HA3.out; omega), ← HM.out.2, ← HA3.out.1] at hr
                replace HRR := Lib.hid hr
                have hroom : decide ((1099511627776 : Int) < (N : Int)) = false := decide_eq_false (by have := HNB2.out; omega)
                have hai3 : (a3 : Int) ≤ 1048576 := by have := HA3.out; have := HLE.out; omega
                clear hr h6 ha3 hm hme hm0
                have d0 := blk_cell HC.out 0
                have f0 := blk_frozen HC.out 0
                have d1 := blk_cell HC.out 1
                have f1 := blk_frozen HC.out 1
                have d2 := blk_cell HC.out 2
                have f2 := blk_frozen HC.out 2
                have d3 := blk_cell HC.out 3
                have f3 := blk_frozen HC.out 3
                have d4 := blk_cell HC.out 4
                have f4 := blk_frozen HC.out 4
                have d5 := blk_cell HC.out 5
                have f5 := blk_frozen HC.out 5
                simp at d0 d1 d2 d3 d4 d5
                by_cases hk2 : k < 192
                · have q2 : decide ((192 : Int) ≤ (k : Int)) = false := decide_eq_false (by omega)
                  have hr := HRR.out
                  rw [if_pos hk2] at hr
                  replace HRR := Lib.hid hr
                  clear hr hk2
                  go_upto_region 24 with fail
                  clear hroom
                  obtain ⟨dd, hdd⟩ : ∃ dd, dd = n - a3 := ⟨_, rfl⟩
                  have hddi : (n : Int) - (a3 : Int) = (dd : Int) := by have := HA3.out; omega
                  have hddb : (dd : Int) ≤ 1048576 := by have := HLE.out; omega
                  have hm8 := HM.out.1
                  have hmi : (m : Int) ≤ 65536 := by omega
                  by_cases hb : n < a3 + m
                  · have hq9 : decide ((dd : Int) < (m : Int)) = true := decide_eq_true (by omega)
                    have hq8 : decide (dd < m) = true := decide_eq_true (by omega)
                    have hr := HRR.out
                    rw [if_pos hb] at hr
                    have HR := Lib.hid hr
                    clear hr hb hm8 hdd
                    have d0 := blk_cell HC.out 0
                    have f0 := blk_frozen HC.out 0
                    have d1 := blk_cell HC.out 1
                    have f1 := blk_frozen HC.out 1
                    have d2 := blk_cell HC.out 2
                    have f2 := blk_frozen HC.out 2
                    have d3 := blk_cell HC.out 3
                    have f3 := blk_frozen HC.out 3
                    have d4 := blk_cell HC.out 4
                    have f4 := blk_frozen HC.out 4
                    have d5 := blk_cell HC.out 5
                    have f5 := blk_frozen HC.out 5
                    simp at d0 d1 d2 d3 d4 d5
                    have e0 := blk_cell HB.out 0
                    have g0 := blk_frozen HB.out 0
                    have e1 := blk_cell HB.out 1
                    have g1 := blk_frozen HB.out 1
                    have e2 := blk_cell HB.out 2
                    have g2 := blk_frozen HB.out 2
                    have e3 := blk_cell HB.out 3
                    have g3 := blk_frozen HB.out 3
                    have e4 := blk_cell HB.out 4
                    have g4 := blk_frozen HB.out 4
                    have e5 := blk_cell HB.out 5
                    have g5 := blk_frozen HB.out 5
                    simp at e0 e1 e2 e3 e4 e5
                    go_wp2_with fail
                    have hb9 := blk6 HB.out (Value.int .i64 0) (Value.int .i64 0) (Value.int .i64 0) (Value.int .i64 0) (Value.int .i64 0) (Value.slice none 0 0)
                    have hk8 : Grow w _ := keep6 HK.out (g := gR) (fun h9 => by have := HGR.out; omega) (Value.int .i64 0) (Value.int .i64 0) (Value.int .i64 0) (Value.int .i64 0) (Value.int .i64 0) (Value.slice none 0 0)
                    clear d0 d1 d2 d3 d4 d5 f0 f1 f2 f3 f4 f5
                    clear e0 e1 e2 e3 e4 e5 g0 g1 g2 g3 g4 g5
                    generalize ((((((w6.setCell ⟨gR, 0, none⟩ (Value.int .i64 0)).setCell ⟨gR, 1, none⟩ (Value.int .i64 0)).setCell ⟨gR, 2, none⟩ (Value.int .i64 0)).setCell ⟨gR, 3, none⟩ (Value.int .i64 0)).setCell ⟨gR, 4, none⟩ (Value.int .i64 0)).setCell ⟨gR, 5, none⟩ (Value.slice none 0 0)) = w9 at *
                    have y0 := blk_cell hb9 0
                    have y1 := blk_cell hb9 1
                    have y2 := blk_cell hb9 2
                    have y3 := blk_cell hb9 3
                    have y4 := blk_cell hb9 4
                    have y5 := blk_cell hb9 5
                    simp at y0 y1 y2 y3 y4 y5
                    have hld : (loadVar 92 ⟨gR, 0, none⟩).run Try.prog w9 = .ok (.agg #[Value.int .i64 0, Value.int .i64 0, Value.int .i64 0, Value.int .i64 0, Value.int .i64 0, Value.slice none 0 0]) w9 := by go_simp
                    have HLD := Lib.hid hld
                    clear hld y0 y1 y2 y3 y4 y5
                    refine bodyPost_ret (v := .tuple #[.agg #[Value.int .i64 0, Value.int .i64 0, Value.int .i64 0, Value.int .i64 0, Value.int .i64 0, Value.slice none 0 0], .int .i64 (0 : Nat), .int .i64 (10 : Nat)]) ?_ rfl ?_
                    · rw [results_cell_tmp2 rfl]
                      have hld := HLD.out
                      simp [asAddr, Result.andThen, hld]
                    · show POST _ _
                      rw [HPO.out]
                      exact ⟨0, 0, 0, 0, 0, 0, none, 0, 0, by rw [HR.out] <;> rfl, hk8, by rw [HR.out]; intro h9; cases h9⟩
                  · have hq9 : decide ((dd : Int) < (m : Int)) = false := decide_eq_false (by omega)
                    have hq8 : decide (dd < m) = false := decide_eq_false (by omega)
                    have hr := HRR.out
                    rw [if_neg hb] at hr
                    obtain ⟨a9, ha9⟩ : ∃ a9, a9 = a3 + m := ⟨_, rfl⟩
                    rw [← ha9] at hr
                    have HR := Lib.hid hr
                    have ha9i : (a3 : Int) + (m : Int) = (a9 : Int) := by omega
                    have ha9b : (a9 : Int) ≤ 1048576 := by have := HLE.out; omega
                    obtain ⟨A2, hA2⟩ : ∃ A2, A2 = Nums.off (some ⟨bb, o, none⟩) c a3 := ⟨_, rfl⟩
                    have hcap := HN.out.cap
                    have hsl : ∀ w : World, (Instr.slice 51 (.slice (some ⟨bb, o, none⟩) n c) (some (.int .i64 (a3 : Nat))) (some (.int .i64 (a9 : Nat))) none).run Try.prog w = .ok (.slice A2 m (c - a3)) w := fun w => by
                      have h9 := run_mid (P := Try.prog) (t := 51) Try.underlying51 rfl rfl (some ⟨bb, o, none⟩) n c a3 a9 (by omega) (by omega) w
                      rw [h9, hA2, show a9 - a3 = m by omega]
                    clear hr hb hm8 hdd hA2 ha9 hcap
                    have d0 := blk_cell HC.out 0
                    have f0 := blk_frozen HC.out 0
                    have d1 := blk_cell HC.out 1
                    have f1 := blk_frozen HC.out 1
                    have d2 := blk_cell HC.out 2
                    have f2 := blk_frozen HC.out 2
                    have d3 := blk_cell HC.out 3
                    have f3 := blk_frozen HC.out 3
                    have d4 := blk_cell HC.out 4
                    have f4 := blk_frozen HC.out 4
                    have d5 := blk_cell HC.out 5
                    have f5 := blk_frozen HC.out 5
                    simp at d0 d1 d2 d3 d4 d5
                    go_upto_region 34 with fail
                    have hb9 := (blk_set HC.out 5 (Value.slice A2 m (c - a3)))
                    simp at hb9
                    have hk9 : Keeps (fun k => k = gC) w6 (w6.setCell ⟨gC, 5, none⟩ (Value.slice A2 m (c - a3))) := ((Keeps.refl (fun k => k = gC) w6).setCell (p := ⟨gC, 5, none⟩) (fun _ => rfl) (Value.slice A2 m (c - a3)))
                    have hk8 : Grow w (w6.setCell ⟨gC, 5, none⟩ (Value.slice A2 m (c - a3))) := (HK.out.setCell (p := ⟨gC, 5, none⟩) (fun h9 => by have := HGC.out; have := HGR.out; simp only at h9; omega) (Value.slice A2 m (c - a3)))
                    have hb8 := block_keep HB.out hk9 (fun h9 => by have h9 : gR = gC := h9; have := HGC.out; omega)
                    clear d0 d1 d2 d3 d4 d5 f0 f1 f2 f3 f4 f5
                    clear HC HK HB
                    generalize (w6.setCell ⟨gC, 5, none⟩ (Value.slice A2 m (c - a3))) = wt at *
                    have HC : Hid (wt.heap[gC]? = some (.cells #[Value.int .i64 (k : Nat), Value.int .i64 (N : Nat), Value.int .i64 0, Value.int .i64 0, Value.int .i64 0, Value.slice A2 m (c - a3)] 92 (0, 0))) := hb9
                    have HB := Lib.hid hb8
                    have HK := Lib.hid hk8
                    replace HN := Lib.hid (HN.out.keep hk9 (fun b o hA h9 => by have h9 : b = gC := h9; have := HLT.out _ (by have := HA.out; omega) hA; have := HGC.out; have := HGR.out; simp only at *; omega))
                    clear hb9 hk9 hk8 hb8
                    have d0 := blk_cell HC.out 0
                    have f0 := blk_frozen HC.out 0
                    have d1 := blk_cell HC.out 1
                    have f1 := blk_frozen HC.out 1
                    have d2 := blk_cell HC.out 2
                    have f2 := blk_frozen HC.out 2
                    have d3 := blk_cell HC.out 3
                    have f3 := blk_frozen HC.out 3
                    have d4 := blk_cell HC.out 4
                    have f4 := blk_frozen HC.out 4
                    have d5 := blk_cell HC.out 5
                    have f5 := blk_frozen HC.out 5
                    simp at d0 d1 d2 d3 d4 d5
                    have e0 := blk_cell HB.out 0
                    have g0 := blk_frozen HB.out 0
                    have e1 := blk_cell HB.out 1
                    have g1 := blk_frozen HB.out 1
                    have e2 := blk_cell HB.out 2
                    have g2 := blk_frozen HB.out 2
                    have e3 := blk_cell HB.out 3
                    have g3 := blk_frozen HB.out 3
                    have e4 := blk_cell HB.out 4
                    have g4 := blk_frozen HB.out 4
                    have e5 := blk_cell HB.out 5
                    have g5 := blk_frozen HB.out 5
                    simp at e0 e1 e2 e3 e4 e5
                    go_wp2_with fail
                    have hb9 := blk6 HB.out (Value.int .i64 (k : Nat)) (Value.int .i64 (N : Nat)) (Value.int .i64 0) (Value.int .i64 0) (Value.int .i64 0) (Value.slice A2 m (c - a3))
                    have hk8 : Grow w _ := keep6 HK.out (g := gR) (fun h9 => by have := HGR.out; omega) (Value.int .i64 (k : Nat)) (Value.int .i64 (N : Nat)) (Value.int .i64 0) (Value.int .i64 0) (Value.int .i64 0) (Value.slice A2 m (c - a3))
                    clear d0 d1 d2 d3 d4 d5 f0 f1 f2 f3 f4 f5
                    clear e0 e1 e2 e3 e4 e5 g0 g1 g2 g3 g4 g5
                    generalize ((((((wt.setCell ⟨gR, 0, none⟩ (Value.int .i64 (k : Nat))).setCell ⟨gR, 1, none⟩ (Value.int .i64 (N : Nat))).setCell ⟨gR, 2, none⟩ (Value.int .i64 0)).setCell ⟨gR, 3, none⟩ (Value.int .i64 0)).setCell ⟨gR, 4, none⟩ (Value.int .i64 0)).setCell ⟨gR, 5, none⟩ (Value.slice A2 m (c - a3))) = w9 at *
                    have y0 := blk_cell hb9 0
                    have y1 := blk_cell hb9 1
                    have y2 := blk_cell hb9 2
                    have y3 := blk_cell hb9 3
                    have y4 := blk_cell hb9 4
                    have y5 := blk_cell hb9 5
                    simp at y0 y1 y2 y3 y4 y5
                    have hld : (loadVar 92 ⟨gR, 0, none⟩).run Try.prog w9 = .ok (.agg #[Value.int .i64 (k : Nat), Value.int .i64 (N : Nat), Value.int .i64 0, Value.int .i64 0, Value.int .i64 0, Value.slice A2 m (c - a3)]) w9 := by go_simp
                    have HLD := Lib.hid hld
                    clear hld y0 y1 y2 y3 y4 y5
                    refine bodyPost_ret (v := .tuple #[.agg #[Value.int .i64 (k : Nat), Value.int .i64 (N : Nat), Value.int .i64 0, Value.int .i64 0, Value.int .i64 0, Value.slice A2 m (c - a3)], .int .i64 (a9 : Nat), .int .i64 (0 : Nat)]) ?_ rfl ?_
                    · rw [results_cell_tmp2 rfl]
                      have hld := HLD.out
                      simp [asAddr, Result.andThen, hld]
                    · show POST _ _
                      rw [HPO.out]
                      exact ⟨k, N, a9, 0, 0, 0, A2, m, (c - a3), by rw [HR.out] <;> rfl, hk8, by rw [HR.out]; intro _; exact ⟨rfl, rfl, rfl⟩⟩
                · have q2 : decide ((192 : Int) ≤ (k : Int)) = true := decide_eq_true (by omega)
                  have hr := HRR.out
                  rw [if_neg hk2] at hr
                  replace HRR := Lib.hid hr
                  clear hr hk2
                  go_upto_region 24 with fail
                  clear hroom
                  by_cases hn5 : n ≤ a3
                  · have hr := HRR.out
                    rw [if_pos hn5] at hr
                    have HR := Lib.hid hr
                    have q5 : decide ((n : Int) ≤ (a3 : Int)) = true := decide_eq_true (by omega)
                    have q6 : decide (n ≤ a3) = true := decide_eq_true (by omega)
                    clear hr hn5
                    have e0 := blk_cell HB.out 0
                    have g0 := blk_frozen HB.out 0
                    have e1 := blk_cell HB.out 1
                    have g1 := blk_frozen HB.out 1
                    have e2 := blk_cell HB.out 2
                    have g2 := blk_frozen HB.out 2
                    have e3 := blk_cell HB.out 3
                    have g3 := blk_frozen HB.out 3
                    have e4 := blk_cell HB.out 4
                    have g4 := blk_frozen HB.out 4
                    have e5 := blk_cell HB.out 5
                    have g5 := blk_frozen HB.out 5
                    simp at e0 e1 e2 e3 e4 e5
                    go_wp2_with fail
                    have hb9 := blk6 HB.out (Value.int .i64 0) (Value.int .i64 0) (Value.int .i64 0) (Value.int .i64 0) (Value.int .i64 0) (Value.slice none 0 0)
                    have hk8 : Grow w _ := keep6 HK.out (g := gR) (fun h9 => by have := HGR.out; omega) (Value.int .i64 0) (Value.int .i64 0) (Value.int .i64 0) (Value.int .i64 0) (Value.int .i64 0) (Value.slice none 0 0)
                    clear d0 d1 d2 d3 d4 d5 f0 f1 f2 f3 f4 f5
                    clear e0 e1 e2 e3 e4 e5 g0 g1 g2 g3 g4 g5
                    generalize ((((((w6.setCell ⟨gR, 0, none⟩ (Value.int .i64 0)).setCell ⟨gR, 1, none⟩ (Value.int .i64 0)).setCell ⟨gR, 2, none⟩ (Value.int .i64 0)).setCell ⟨gR, 3, none⟩ (Value.int .i64 0)).setCell ⟨gR, 4, none⟩ (Value.int .i64 0)).setCell ⟨gR, 5, none⟩ (Value.slice none 0 0)) = w9 at *
                    have y0 := blk_cell hb9 0
                    have y1 := blk_cell hb9 1
                    have y2 := blk_cell hb9 2
                    have y3 := blk_cell hb9 3
                    have y4 := blk_cell hb9 4
                    have y5 := blk_cell hb9 5
                    simp at y0 y1 y2 y3 y4 y5
                    have hld : (loadVar 92 ⟨gR, 0, none⟩).run Try.prog w9 = .ok (.agg #[Value.int .i64 0, Value.int .i64 0, Value.int .i64 0, Value.int .i64 0, Value.int .i64 0, Value.slice none 0 0]) w9 := by go_simp
                    have HLD := Lib.hid hld
                    clear hld y0 y1 y2 y3 y4 y5
                    refine bodyPost_ret (v := .tuple #[.agg #[Value.int .i64 0, Value.int .i64 0, Value.int .i64 0, Value.int .i64 0, Value.int .i64 0, Value.slice none 0 0], .int .i64 (0 : Nat), .int .i64 (10 : Nat)]) ?_ rfl ?_
                    · rw [results_cell_tmp2 rfl]
                      have hld := HLD.out
                      simp [asAddr, Result.andThen, hld]
                    · show POST _ _
                      rw [HPO.out]
                      exact ⟨0, 0, 0, 0, 0, 0, none, 0, 0, by rw [HR.out] <;> rfl, hk8, by rw [HR.out]; intro h9; cases h9⟩
                  · have q5 : decide ((n : Int) ≤ (a3 : Int)) = false := decide_eq_false (by omega)
                    have q6 : decide (n ≤ a3) = false := decide_eq_false (by omega)
                    have h35 : (a3 : Int) < (n : Int) := by omega
                    obtain ⟨kp, hkp⟩ : ∃ kp, kp = bytN xs a3 := ⟨_, rfl⟩
                    have hkpb : kp < 256 := by rw [hkp]; exact HNB.out a3
                    have hcl : w6.cell? ⟨bb, o + a3, none⟩ = some (.int .u8 (xs.getD a3 0)) := by obtain ⟨b9, o9, e9, hc9⟩ := HN.out.at_ (by omega); cases e9; exact hc9 a3 (by omega)
                    rw [(bytN_is HN.out a3).1, ← hkp] at hcl
                    have HKP := Lib.hid (rOf_is w6 kp hkpb)
                    have hr := HRR.out
                    rw [if_neg hn5, ← hkp] at hr
                    replace HRR := Lib.hid hr
                    have HN5 : Hid (a3 < n) := by show _ < _; omega
                    clear hr hn5 hkp
                    go_wp2_with fail
                    clear hkpb
                    refine HKP.out.mono ?_
                    rintro x w9 ⟨xa, ya, za, er, rfl, her, rfl⟩
                    cases hok : okP kp
                    · rw [hok] at her
                      replace her : er = 11 := by rw [her]; rfl
                      subst her
                      have hr := HRR.out
                      rw [if_pos hok] at hr
                      have HR := Lib.hid hr
                      clear hr hok hcl
                      go_upto_region 28 with fail
                      have hb9 := (blk_set (blk_set (blk_set HC.out 2 (Value.int .i64 (xa : Nat))) 3 (Value.int .i64 (ya : Nat))) 4 (Value.int .i64 (za : Nat)))
                      simp at hb9
                      have hk9 : Keeps (fun k => k = gC) w6 (((w6.setCell ⟨gC, 2, none⟩ (Value.int .i64 (xa : Nat))).setCell ⟨gC, 3, none⟩ (Value.int .i64 (ya : Nat))).setCell ⟨gC, 4, none⟩ (Value.int .i64 (za : Nat))) := ((((Keeps.refl (fun k => k = gC) w6).setCell (p := ⟨gC, 2, none⟩) (fun _ => rfl) (Value.int .i64 (xa : Nat))).setCell (p := ⟨gC, 3, none⟩) (fun _ => rfl) (Value.int .i64 (ya : Nat))).setCell (p := ⟨gC, 4, none⟩) (fun _ => rfl) (Value.int .i64 (za : Nat)))
                      have hk8 : Grow w (((w6.setCell ⟨gC, 2, none⟩ (Value.int .i64 (xa : Nat))).setCell ⟨gC, 3, none⟩ (Value.int .i64 (ya : Nat))).setCell ⟨gC, 4, none⟩ (Value.int .i64 (za : Nat))) := (((HK.out.setCell (p := ⟨gC, 2, none⟩) (fun h9 => by have := HGC.out; have := HGR.out; simp only at h9; omega) (Value.int .i64 (xa : Nat))).setCell (p := ⟨gC, 3, none⟩) (fun h9 => by have := HGC.out; have := HGR.out; simp only at h9; omega) (Value.int .i64 (ya : Nat))).setCell (p := ⟨gC, 4, none⟩) (fun h9 => by have := HGC.out; have := HGR.out; simp only at h9; omega) (Value.int .i64 (za : Nat)))
                      have hb8 := block_keep HB.out hk9 (fun h9 => by have h9 : gR = gC := h9; have := HGC.out; omega)
                      clear d0 d1 d2 d3 d4 d5 f0 f1 f2 f3 f4 f5
                      clear HC HK HB
                      generalize (((w6.setCell ⟨gC, 2, none⟩ (Value.int .i64 (xa : Nat))).setCell ⟨gC, 3, none⟩ (Value.int .i64 (ya : Nat))).setCell ⟨gC, 4, none⟩ (Value.int .i64 (za : Nat))) = w7 at *
                      have HC : Hid (w7.heap[gC]? = some (.cells #[Value.int .i64 (k : Nat), Value.int .i64 (N : Nat), Value.int .i64 (xa : Nat), Value.int .i64 (ya : Nat), Value.int .i64 (za : Nat), Value.slice none 0 0] 92 (0, 0))) := hb9
                      have HB := Lib.hid hb8
                      have HK := Lib.hid hk8
                      replace HN := Lib.hid (HN.out.keep hk9 (fun b o hA h9 => by have h9 : b = gC := h9; have := HLT.out _ (by have := HA.out; omega) hA; have := HGC.out; have := HGR.out; simp only at *; omega))
                      clear hb9 hk9 hk8 hb8
                      have e0 := blk_cell HB.out 0
                      have g0 := blk_frozen HB.out 0
                      have e1 := blk_cell HB.out 1
                      have g1 := blk_frozen HB.out 1
                      have e2 := blk_cell HB.out 2
                      have g2 := blk_frozen HB.out 2
                      have e3 := blk_cell HB.out 3
                      have g3 := blk_frozen HB.out 3
                      have e4 := blk_cell HB.out 4
                      have g4 := blk_frozen HB.out 4
                      have e5 := blk_cell HB.out 5
                      have g5 := blk_frozen HB.out 5
                      simp at e0 e1 e2 e3 e4 e5
                      go_wp2_with fail
                      have hb9 := blk6 HB.out (Value.int .i64 0) (Value.int .i64 0) (Value.int .i64 0) (Value.int .i64 0) (Value.int .i64 0) (Value.slice none 0 0)
                      have hk8 : Grow w _ := keep6 HK.out (g := gR) (fun h9 => by have := HGR.out; omega) (Value.int .i64 0) (Value.int .i64 0) (Value.int .i64 0) (Value.int .i64 0) (Value.int .i64 0) (Value.slice none 0 0)
                      clear e0 e1 e2 e3 e4 e5 g0 g1 g2 g3 g4 g5
                      generalize ((((((w7.setCell ⟨gR, 0, none⟩ (Value.int .i64 0)).setCell ⟨gR, 1, none⟩ (Value.int .i64 0)).setCell ⟨gR, 2, none⟩ (Value.int .i64 0)).setCell ⟨gR, 3, none⟩ (Value.int .i64 0)).setCell ⟨gR, 4, none⟩ (Value.int .i64 0)).setCell ⟨gR, 5, none⟩ (Value.slice none 0 0)) = w9 at *
                      have y0 := blk_cell hb9 0
                      have y1 := blk_cell hb9 1
                      have y2 := blk_cell hb9 2
                      have y3 := blk_cell hb9 3
                      have y4 := blk_cell hb9 4
                      have y5 := blk_cell hb9 5
                      simp at y0 y1 y2 y3 y4 y5
                      have hld : (loadVar 92 ⟨gR, 0, none⟩).run Try.prog w9 = .ok (.agg #[Value.int .i64 0, Value.int .i64 0, Value.int .i64 0, Value.int .i64 0, Value.int .i64 0, Value.slice none 0 0]) w9 := by go_simp
                      have HLD := Lib.hid hld
                      clear hld y0 y1 y2 y3 y4 y5
                      refine bodyPost_ret (v := .tuple #[.agg #[Value.int .i64 0, Value.int .i64 0, Value.int .i64 0, Value.int .i64 0, Value.int .i64 0, Value.slice none 0 0], .int .i64 (0 : Nat), .int .i64 (11 : Nat)]) ?_ rfl ?_
                      · rw [results_cell_tmp2 rfl]
                        have hld := HLD.out
                        simp [asAddr, Result.andThen, hld]
                      · show POST _ _
                        rw [HPO.out]
                        exact ⟨0, 0, 0, 0, 0, 0, none, 0, 0, by rw [HR.out] <;> rfl, hk8, by rw [HR.out]; intro h9; cases h9⟩
                    · rw [hok] at her
                      replace her : er = 0 := by rw [her]; rfl
                      subst her
                      have hr := HRR.out
                      rw [if_neg (by rw [hok]; decide)] at hr
                      obtain ⟨a4, ha4⟩ : ∃ a4, a4 = a3 + 1 := ⟨_, rfl⟩
                      have hai4 : (a3 : Int) + 1 = (a4 : Int) := by omega
                      have HA4 : Hid (a4 = a + 6 ∧ a + 6 ≤ n) := by have := HA3.out; have := HN5.out; exact ⟨by omega, by omega⟩
                      rw [← HA4.out.1] at hr
                      replace HRR := Lib.hid hr
                      clear hr hok hcl ha4 h35 q5 q6
                      go_upto_region 28 with fail
                      have hb9 := (blk_set (blk_set (blk_set HC.out 2 (Value.int .i64 (xa : Nat))) 3 (Value.int .i64 (ya : Nat))) 4 (Value.int .i64 (za : Nat)))
                      simp at hb9
                      have hk9 : Keeps (fun k => k = gC) w6 (((w6.setCell ⟨gC, 2, none⟩ (Value.int .i64 (xa : Nat))).setCell ⟨gC, 3, none⟩ (Value.int .i64 (ya : Nat))).setCell ⟨gC, 4, none⟩ (Value.int .i64 (za : Nat))) := ((((Keeps.refl (fun k => k = gC) w6).setCell (p := ⟨gC, 2, none⟩) (fun _ => rfl) (Value.int .i64 (xa : Nat))).setCell (p := ⟨gC, 3, none⟩) (fun _ => rfl) (Value.int .i64 (ya : Nat))).setCell (p := ⟨gC, 4, none⟩) (fun _ => rfl) (Value.int .i64 (za : Nat)))
                      have hk8 : Grow w (((w6.setCell ⟨gC, 2, none⟩ (Value.int .i64 (xa : Nat))).setCell ⟨gC, 3, none⟩ (Value.int .i64 (ya : Nat))).setCell ⟨gC, 4, none⟩ (Value.int .i64 (za : Nat))) := (((HK.out.setCell (p := ⟨gC, 2, none⟩) (fun h9 => by have := HGC.out; have := HGR.out; simp only at h9; omega) (Value.int .i64 (xa : Nat))).setCell (p := ⟨gC, 3, none⟩) (fun h9 => by have := HGC.out; have := HGR.out; simp only at h9; omega) (Value.int .i64 (ya : Nat))).setCell (p := ⟨gC, 4, none⟩) (fun h9 => by have := HGC.out; have := HGR.out; simp only at h9; omega) (Value.int .i64 (za : Nat)))
                      have hb8 := block_keep HB.out hk9 (fun h9 => by have h9 : gR = gC := h9; have := HGC.out; omega)
                      clear d0 d1 d2 d3 d4 d5 f0 f1 f2 f3 f4 f5
                      clear HC HK HB
                      generalize (((w6.setCell ⟨gC, 2, none⟩ (Value.int .i64 (xa : Nat))).setCell ⟨gC, 3, none⟩ (Value.int .i64 (ya : Nat))).setCell ⟨gC, 4, none⟩ (Value.int .i64 (za : Nat))) = w7 at *
                      have HC : Hid (w7.heap[gC]? = some (.cells #[Value.int .i64 (k : Nat), Value.int .i64 (N : Nat), Value.int .i64 (xa : Nat), Value.int .i64 (ya : Nat), Value.int .i64 (za : Nat), Value.slice none 0 0] 92 (0, 0))) := hb9
                      have HB := Lib.hid hb8
                      have HK := Lib.hid hk8
                      replace HN := Lib.hid (HN.out.keep hk9 (fun b o hA h9 => by have h9 : b = gC := h9; have := HLT.out _ (by have := HA.out; omega) hA; have := HGC.out; have := HGR.out; simp only at *; omega))
                      clear hb9 hk9 hk8 hb8
                      go_upto_region 31 with fail
                      clear hai4 hai3
                      have d0 := blk_cell HC.out 0
                      have f0 := blk_frozen HC.out 0
                      have d1 := blk_cell HC.out 1
                      have f1 := blk_frozen HC.out 1
                      have d2 := blk_cell HC.out 2
                      have f2 := blk_frozen HC.out 2
                      have d3 := blk_cell HC.out 3
                      have f3 := blk_frozen HC.out 3
                      have d4 := blk_cell HC.out 4
                      have f4 := blk_frozen HC.out 4
                      have d5 := blk_cell HC.out 5
                      have f5 := blk_frozen HC.out 5
                      simp at d0 d1 d2 d3 d4 d5
                      obtain ⟨dd, hdd⟩ : ∃ dd, dd = n - a4 := ⟨_, rfl⟩
                      have hddi : (n : Int) - (a4 : Int) = (dd : Int) := by have := HA4.out; omega
                      have hddb : (dd : Int) ≤ 1048576 := by have := HLE.out; omega
                      have hm8 := HM.out.1
                      have hmi : (m : Int) ≤ 65536 := by omega
                      by_cases hb : n < a4 + m
                      · have hq9 : decide ((dd : Int) < (m : Int)) = true := decide_eq_true (by omega)
                        have hq8 : decide (dd < m) = true := decide_eq_true (by omega)
                        have hr := HRR.out
                        rw [if_pos hb] at hr
                        have HR := Lib.hid hr
                        clear hr hb hm8 hdd
                        have d0 := blk_cell HC.out 0
                        have f0 := blk_frozen HC.out 0
                        have d1 := blk_cell HC.out 1
                        have f1 := blk_frozen HC.out 1
                        have d2 := blk_cell HC.out 2
                        have f2 := blk_frozen HC.out 2
                        have d3 := blk_cell HC.out 3
                        have f3 := blk_frozen HC.out 3
                        have d4 := blk_cell HC.out 4
                        have f4 := blk_frozen HC.out 4
                        have d5 := blk_cell HC.out 5
                        have f5 := blk_frozen HC.out 5
                        simp at d0 d1 d2 d3 d4 d5
                        have e0 := blk_cell HB.out 0
                        have g0 := blk_frozen HB.out 0
                        have e1 := blk_cell HB.out 1
                        have g1 := blk_frozen HB.out 1
                        have e2 := blk_cell HB.out 2
                        have g2 := blk_frozen HB.out 2
                        have e3 := blk_cell HB.out 3
                        have g3 := blk_frozen HB.out 3
                        have e4 := blk_cell HB.out 4
                        have g4 := blk_frozen HB.out 4
                        have e5 := blk_cell HB.out 5
                        have g5 := blk_frozen HB.out 5
                        simp at e0 e1 e2 e3 e4 e5
                        go_wp2_with fail
                        have hb9 := blk6 HB.out (Value.int .i64 0) (Value.int .i64 0) (Value.int .i64 0) (Value.int .i64 0) (Value.int .i64 0) (Value.slice none 0 0)
                        have hk8 : Grow w _ := keep6 HK.out (g := gR) (fun h9 => by have := HGR.out; omega) (Value.int .i64 0) (Value.int .i64 0) (Value.int .i64 0) (Value.int .i64 0) (Value.int .i64 0) (Value.slice none 0 0)
                        clear d0 d1 d2 d3 d4 d5 f0 f1 f2 f3 f4 f5
                        clear e0 e1 e2 e3 e4 e5 g0 g1 g2 g3 g4 g5
                        generalize ((((((w7.setCell ⟨gR, 0, none⟩ (Value.int .i64 0)).setCell ⟨gR, 1, none⟩ (Value.int .i64 0)).setCell ⟨gR, 2, none⟩ (Value.int .i64 0)).setCell ⟨gR, 3, none⟩ (Value.int .i64 0)).setCell ⟨gR, 4, none⟩ (Value.int .i64 0)).setCell ⟨gR, 5, none⟩ (Value.slice none 0 0)) = w9 at *
                        have y0 := blk_cell hb9 0
                        have y1 := blk_cell hb9 1
                        have y2 := blk_cell hb9 2
                        have y3 := blk_cell hb9 3
                        have y4 := blk_cell hb9 4
                        have y5 := blk_cell hb9 5
                        simp at y0 y1 y2 y3 y4 y5
                        have hld : (loadVar 92 ⟨gR, 0, none⟩).run Try.prog w9 = .ok (.agg #[Value.int .i64 0, Value.int .i64 0, Value.int .i64 0, Value.int .i64 0, Value.int .i64 0, Value.slice none 0 0]) w9 := by go_simp
                        have HLD := Lib.hid hld
                        clear hld y0 y1 y2 y3 y4 y5
                        refine bodyPost_ret (v := .tuple #[.agg #[Value.int .i64 0, Value.int .i64 0, Value.int .i64 0, Value.int .i64 0, Value.int .i64 0, Value.slice none 0 0], .int .i64 (0 : Nat), .int .i64 (10 : Nat)]) ?_ rfl ?_
                        · rw [results_cell_tmp2 rfl]
                          have hld := HLD.out
                          simp [asAddr, Result.andThen, hld]
                        · show POST _ _
                          rw [HPO.out]
                          exact ⟨0, 0, 0, 0, 0, 0, none, 0, 0, by rw [HR.out] <;> rfl, hk8, by rw [HR.out]; intro h9; cases h9⟩
                      · have hq9 : decide ((dd : Int) < (m : Int)) = false := decide_eq_false (by omega)
                        have hq8 : decide (dd < m) = false := decide_eq_false (by omega)
                        have hr := HRR.out
                        rw [if_neg hb] at hr
                        obtain ⟨a9, ha9⟩ : ∃ a9, a9 = a4 + m := ⟨_, rfl⟩
                        rw [← ha9] at hr
                        have HR := Lib.hid hr
                        have ha9i : (a4 : Int) + (m : Int) = (a9 : Int) := by omega
                        have ha9b : (a9 : Int) ≤ 1048576 := by have := HLE.out; omega
                        obtain ⟨A2, hA2⟩ : ∃ A2, A2 = Nums.off (some ⟨bb, o, none⟩) c a4 := ⟨_, rfl⟩
                        have hcap := HN.out.cap
                        have hsl : ∀ w : World, (Instr.slice 51 (.slice (some ⟨bb, o, none⟩) n c) (some (.int .i64 (a4 : Nat))) (some (.int .i64 (a9 : Nat))) none).run Try.prog w = .ok (.slice A2 m (c - a4)) w := fun w => by
                          have h9 := run_mid (P := Try.prog) (t := 51) Try.underlying51 rfl rfl (some ⟨bb, o, none⟩) n c a4 a9 (by omega) (by omega) w
                          rw [h9, hA2, show a9 - a4 = m by omega]
                        clear hr hb hm8 hdd hA2 ha9 hcap
                        have d0 := blk_cell HC.out 0
                        have f0 := blk_frozen HC.out 0
                        have d1 := blk_cell HC.out 1
                        have f1 := blk_frozen HC.out 1
                        have d2 := blk_cell HC.out 2
                        have f2 := blk_frozen HC.out 2
                        have d3 := blk_cell HC.out 3
                        have f3 := blk_frozen HC.out 3
                        have d4 := blk_cell HC.out 4
                        have f4 := blk_frozen HC.out 4
                        have d5 := blk_cell HC.out 5
                        have f5 := blk_frozen HC.out 5
                        simp at d0 d1 d2 d3 d4 d5
                        go_upto_region 34 with fail
                        have hb9 := (blk_set HC.out 5 (Value.slice A2 m (c - a4)))
                        simp at hb9
                        have hk9 : Keeps (fun k => k = gC) w7 (w7.setCell ⟨gC, 5, none⟩ (Value.slice A2 m (c - a4))) := ((Keeps.refl (fun k => k = gC) w7).setCell (p := ⟨gC, 5, none⟩) (fun _ => rfl) (Value.slice A2 m (c - a4)))
                        have hk8 : Grow w (w7.setCell ⟨gC, 5, none⟩ (Value.slice A2 m (c - a4))) := (HK.out.setCell (p := ⟨gC, 5, none⟩) (fun h9 => by have := HGC.out; have := HGR.out; simp only at h9; omega) (Value.slice A2 m (c - a4)))
                        have hb8 := block_keep HB.out hk9 (fun h9 => by have h9 : gR = gC := h9; have := HGC.out; omega)
                        clear d0 d1 d2 d3 d4 d5 f0 f1 f2 f3 f4 f5
                        clear HC HK HB
                        generalize (w7.setCell ⟨gC, 5, none⟩ (Value.slice A2 m (c - a4))) = wt at *
                        have HC : Hid (wt.heap[gC]? = some (.cells #[Value.int .i64 (k : Nat), Value.int .i64 (N : Nat), Value.int .i64 (xa : Nat), Value.int .i64 (ya : Nat), Value.int .i64 (za : Nat), Value.slice A2 m (c - a4)] 92 (0, 0))) := hb9
                        have HB := Lib.hid hb8
                        have HK := Lib.hid hk8
                        replace HN := Lib.hid (HN.out.keep hk9 (fun b o hA h9 => by have h9 : b = gC := h9; have := HLT.out _ (by have := HA.out; omega) hA; have := HGC.out; have := HGR.out; simp only at *; omega))
                        clear hb9 hk9 hk8 hb8
                        have d0 := blk_cell HC.out 0
                        have f0 := blk_frozen HC.out 0
                        have d1 := blk_cell HC.out 1
                        have f1 := blk_frozen HC.out 1
                        have d2 := blk_cell HC.out 2
                        have f2 := blk_frozen HC.out 2
                        have d3 := blk_cell HC.out 3
                        have f3 := blk_frozen HC.out 3
                        have d4 := blk_cell HC.out 4
                        have f4 := blk_frozen HC.out 4
                        have d5 := blk_cell HC.out 5
                        have f5 := blk_frozen HC.out 5
                        simp at d0 d1 d2 d3 d4 d5
                        have e0 := blk_cell HB.out 0
                        have g0 := blk_frozen HB.out 0
                        have e1 := blk_cell HB.out 1
                        have g1 := blk_frozen HB.out 1
                        have e2 := blk_cell HB.out 2
                        have g2 := blk_frozen HB.out 2
                        have e3 := blk_cell HB.out 3
                        have g3 := blk_frozen HB.out 3
                        have e4 := blk_cell HB.out 4
                        have g4 := blk_frozen HB.out 4
                        have e5 := blk_cell HB.out 5
                        have g5 := blk_frozen HB.out 5
                        simp at e0 e1 e2 e3 e4 e5
                        go_wp2_with fail
                        have hb9 := blk6 HB.out (Value.int .i64 (k : Nat)) (Value.int .i64 (N : Nat)) (Value.int .i64 (xa : Nat)) (Value.int .i64 (ya : Nat)) (Value.int .i64 (za : Nat)) (Value.slice A2 m (c - a4))
                        have hk8 : Grow w _ := keep6 HK.out (g := gR) (fun h9 => by have := HGR.out; omega) (Value.int .i64 (k : Nat)) (Value.int .i64 (N : Nat)) (Value.int .i64 (xa : Nat)) (Value.int .i64 (ya : Nat)) (Value.int .i64 (za : Nat)) (Value.slice A2 m (c - a4))
                        clear d0 d1 d2 d3 d4 d5 f0 f1 f2 f3 f4 f5
                        clear e0 e1 e2 e3 e4 e5 g0 g1 g2 g3 g4 g5
                        generalize ((((((wt.setCell ⟨gR, 0, none⟩ (Value.int .i64 (k : Nat))).setCell ⟨gR, 1, none⟩ (Value.int .i64 (N : Nat))).setCell ⟨gR, 2, none⟩ (Value.int .i64 (xa : Nat))).setCell ⟨gR, 3, none⟩ (Value.int .i64 (ya : Nat))).setCell ⟨gR, 4, none⟩ (Value.int .i64 (za : Nat))).setCell ⟨gR, 5, none⟩ (Value.slice A2 m (c - a4))) = w9 at *
                        have y0 := blk_cell hb9 0
                        have y1 := blk_cell hb9 1
                        have y2 := blk_cell hb9 2
                        have y3 := blk_cell hb9 3
                        have y4 := blk_cell hb9 4
                        have y5 := blk_cell hb9 5
                        simp at y0 y1 y2 y3 y4 y5
                        have hld : (loadVar 92 ⟨gR, 0, none⟩).run Try.prog w9 = .ok (.agg #[Value.int .i64 (k : Nat), Value.int .i64 (N : Nat), Value.int .i64 (xa : Nat), Value.int .i64 (ya : Nat), Value.int .i64 (za : Nat), Value.slice A2 m (c - a4)]) w9 := by go_simp
                        have HLD := Lib.hid hld
                        clear hld y0 y1 y2 y3 y4 y5
                        refine bodyPost_ret (v := .tuple #[.agg #[Value.int .i64 (k : Nat), Value.int .i64 (N : Nat), Value.int .i64 (xa : Nat), Value.int .i64 (ya : Nat), Value.int .i64 (za : Nat), Value.slice A2 m (c - a4)], .int .i64 (a9 : Nat), .int .i64 (0 : Nat)]) ?_ rfl ?_
                        · rw [results_cell_tmp2 rfl]
                          have hld := HLD.out
                          simp [asAddr, Result.andThen, hld]
                        · show POST _ _
                          rw [HPO.out]
                          exact ⟨k, N, a9, xa, ya, za, A2, m, (c - a4), by rw [HR.out] <;> rfl, hk8, by rw [HR.out]; intro _; exact ⟨rfl, rfl, rfl⟩⟩
      · have hr := HRR.out
        rw [if_pos rfl] at hr
        have HR := Lib.hid hr
        clear hr hkb
        have d0 := blk_cell HC.out 0
        have f0 := blk_frozen HC.out 0
        have d1 := blk_cell HC.out 1
        have f1 := blk_frozen HC.out 1
        have d2 := blk_cell HC.out 2
        have f2 := blk_frozen HC.out 2
        have d3 := blk_cell HC.out 3
        have f3 := blk_frozen HC.out 3
        have d4 := blk_cell HC.out 4
        have f4 := blk_frozen HC.out 4
        have d5 := blk_cell HC.out 5
        have f5 := blk_frozen HC.out 5
        simp at d0 d1 d2 d3 d4 d5
        have e0 := blk_cell HB.out 0
        have g0 := blk_frozen HB.out 0
        have e1 := blk_cell HB.out 1
        have g1 := blk_frozen HB.out 1
        have e2 := blk_cell HB.out 2
        have g2 := blk_frozen HB.out 2
        have e3 := blk_cell HB.out 3
        have g3 := blk_frozen HB.out 3
        have e4 := blk_cell HB.out 4
        have g4 := blk_frozen HB.out 4
        have e5 := blk_cell HB.out 5
        have g5 := blk_frozen HB.out 5
        simp at e0 e1 e2 e3 e4 e5
        go_wp2_with fail
        have hb9 := blk6 HB.out (Value.int .i64 0) (Value.int .i64 0) (Value.int .i64 0) (Value.int .i64 0) (Value.int .i64 0) (Value.slice none 0 0)
        have hk8 : Grow w _ := keep6 HK.out (g := gR) (fun h9 => by have := HGR.out; omega) (Value.int .i64 0) (Value.int .i64 0) (Value.int .i64 0) (Value.int .i64 0) (Value.int .i64 0) (Value.slice none 0 0)
        clear d0 d1 d2 d3 d4 d5 f0 f1 f2 f3 f4 f5
        clear e0 e1 e2 e3 e4 e5 g0 g1 g2 g3 g4 g5
        generalize ((((((wc.setCell ⟨gR, 0, none⟩ (Value.int .i64 0)).setCell ⟨gR, 1, none⟩ (Value.int .i64 0)).setCell ⟨gR, 2, none⟩ (Value.int .i64 0)).setCell ⟨gR, 3, none⟩ (Value.int .i64 0)).setCell ⟨gR, 4, none⟩ (Value.int .i64 0)).setCell ⟨gR, 5, none⟩ (Value.slice none 0 0)) = w9 at *
        have y0 := blk_cell hb9 0
        have y1 := blk_cell hb9 1
        have y2 := blk_cell hb9 2
        have y3 := blk_cell hb9 3
        have y4 := blk_cell hb9 4
        have y5 := blk_cell hb9 5
        simp at y0 y1 y2 y3 y4 y5
        have hld : (loadVar 92 ⟨gR, 0, none⟩).run Try.prog w9 = .ok (.agg #[Value.int .i64 0, Value.int .i64 0, Value.int .i64 0, Value.int .i64 0, Value.int .i64 0, Value.slice none 0 0]) w9 := by go_simp
        have HLD := Lib.hid hld
        clear hld y0 y1 y2 y3 y4 y5
        refine bodyPost_ret (v := .tuple #[.agg #[Value.int .i64 0, Value.int .i64 0, Value.int .i64 0, Value.int .i64 0, Value.int .i64 0, Value.slice none 0 0], .int .i64 (0 : Nat), .int .i64 (11 : Nat)]) ?_ rfl ?_
        · rw [results_cell_tmp2 rfl]
          have hld := HLD.out
          simp [asAddr, Result.andThen, hld]
        · show POST _ _
          rw [HPO.out]
          exact ⟨0, 0, 0, 0, 0, 0, none, 0, 0, by rw [HR.out] <;> rfl, hk8, by rw [HR.out]; intro h9; cases h9⟩

end Go.Proofs.Ytoeapobpdfidkaa
