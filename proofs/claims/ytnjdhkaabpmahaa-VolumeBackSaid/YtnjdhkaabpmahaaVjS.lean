/- volume, the document: shares. -/
import Derived.Test.YtnjdhkaabpmahaaVjI
import Derived.Test.YtnjdhkaabpmahaaVjE
namespace Go.Proofs.Ytnjdhkaabpmahaa
open Go.RowKit
set_option linter.unusedVariables false
set_option linter.unusedSimpArgs false

theorem results_ttct {fn : Func} {p q u v : Tmp} {ty : TypeId} (h : fn.results = #[.tmp p, .tmp q, .cell u ty, .tmp v]) (tmps : Array Value) (P : Program) (w : World) :
    (results fn tmps).run P w = (do let a ← (asAddr (tmps.getD u undef)); let x ← loadVar ty a; return (.tuple #[tmps.getD p undef, tmps.getD q undef, x, tmps.getD v undef]) : Sem Value).run P w := by
  simp [results, h]
/-- A block whose cells a function tells. -/
def FunAt (w : World) (g t C : Nat) (F : Nat → Value) : Prop := w.heap[g]? = some (.cells ((Array.range C).map F) t (0, 0))
theorem FunAt.keep {S : Nat → Prop} {w w' : World} {g t C : Nat} {F : Nat → Value} (h : FunAt w g t C F) (k : Keeps S w w') (hg : ¬ S g) : FunAt w' g t C F := block_keep h k hg
theorem FunAt.cell {w : World} {g t C : Nat} {F : Nat → Value} (h : FunAt w g t C F) {k : Nat} (hk : k < C) : w.cell? ⟨g, k, none⟩ = some (F k) ∧ w.frozen? ⟨g, k, none⟩ = false :=
  ⟨by rw [blk_cell h]; simp [hk], blk_frozen h _⟩
theorem FunAt.set {w : World} {g t C : Nat} {F : Nat → Value} (h : FunAt w g t C F) (k : Nat) (hk : k < C) (v : Value) : FunAt (w.setCell ⟨g, k, none⟩ v) g t C (fun j => if j = k then v else F j) := by
  have h1 := blk_set h k v
  unfold FunAt
  rw [h1]
  congr 2
  refine Array.ext_getElem? fun j => ?_
  by_cases hj : j < C
  · rw [Array.getElem?_setIfInBounds]
    by_cases hjk : k = j
    · subst hjk; simp [hj]
    · rw [if_neg hjk]
      have hjk2 : ¬ j = k := fun h => hjk h.symm
      simp [hj, hjk2]
  · rw [Array.getElem?_eq_none (by simp; omega), Array.getElem?_eq_none (by simp; omega)]
theorem FunAt.of_own {w : World} {g t C : Nat} {z : Value} (h : w.ownsRow 0 t 1 (.slice (some ⟨g, 0, none⟩) C C) C (List.replicate C z)) : FunAt w g t C (fun _ => z) := by
  rcases h.2 with ⟨hv, _⟩ | ⟨g', cap, cur, hv, _, hh, _, _, hcs, htk⟩
  · cases hv
  · injection hv with e1 _ e3
    injection e1 with e1
    injection e1 with e1 _
    subst e1
    subst e3
    unfold FunAt
    rw [hh]
    congr 2
    refine Array.ext_getElem? fun j => ?_
    by_cases hj : j < C
    · have h1 := congrArg (fun l : List Value => l[j]?) htk
      simp only [List.getElem?_take] at h1
      rw [if_pos (by omega)] at h1
      rw [← Array.getElem?_toList, h1]
      simp [hj]
    · rw [Array.getElem?_eq_none (by omega), Array.getElem?_eq_none (by simp; omega)]
def SharesPost (w : World) (n : Nat) (l : List (List Int)) (e : Ending) (w' : World) : Prop :=
  Grow w w' ∧ (scanE l ≠ 0 → e = .returned (.tuple #[.slice none 0 0, .slice none 0 0, .agg #[.int .i64 0, .int .i64 0, .int .u64 0, .int .u64 0], .int .i64 (scanE l : Nat)])) ∧
  (scanE l = 0 → ∃ (go gt nu : Nat) (G : Nat → Value), e = .returned (.tuple #[.slice (some ⟨go, 0, none⟩) (cntL l) (cntL l), .slice (some ⟨gt, 0, none⟩) (cntL l) (cntL l), .agg #[.int .i64 (nu : Nat), .int .i64 (cntL l : Nat), .int .u64 (allB (l.getD 0 []) : Nat), .int .u64 (sumB (l.getD 0 []) : Nat)], .int .i64 0]) ∧
    FunAt w' go 24 (cntL l) G ∧ FunAt w' gt 4 (cntL l) (fun k => .bool (hasN l k)) ∧ ∀ j, j < n → ∃ A' c', G (numB (l.getD j [])) = .slice A' ((l.getD j []).length - 24) c' ∧ Nums .u8 w' A' ((l.getD j []).length - 24) c' ((l.getD j []).drop 24))
theorem Try.infoBoo : (Try.prog.info? 4).map (fun i => (i.zero, i.size, i.bytes)) = some (some (.bool false), 1, 1) := by kernel_rfl
theorem Try.infoSlV : (Try.prog.info? 24).map (fun i => (i.zero, i.size, i.bytes)) = some (some (.slice none 0 0), 1, 24) := by kernel_rfl
set_option maxRecDepth 8000 in
set_option maxHeartbeats 8000000 in
theorem shares_is (w : World) (A : Option Addr) (n c : Nat) (l : List (List Int)) (h : RowsR w A n c l) :
    Calls Try.prog 19 #[.slice A n c] w fun e w' => SharesPost w n l e w' := by
  obtain ⟨POST, hPOST⟩ : ∃ POST : Ending → World → Prop, POST = fun e w' => SharesPost w n l e w' := ⟨_, rfl⟩
  have HPO := Lib.hid hPOST
  show Calls _ _ _ _ fun x w' => (fun x w' => SharesPost w n l x w') x w'
  rw [← hPOST]
  have HN := Lib.hid h
  have hni : (n : Int) ≤ 1048576 := by have := h.few; omega
  obtain ⟨gr, hgr⟩ : ∃ gr, gr = w.heap.size := ⟨_, rfl⟩
  have HGR : Hid (w.heap.size ≤ gr) := by show _ ≤ _; omega
  have hb0 := heap_alloc_new w (.cells #[.int .i64 0, .int .i64 0, .int .u64 0, .int .u64 0] 56)
  have hk0 : Keeps (fun k => w.heap.size ≤ k) w (w.alloc (.cells #[.int .i64 0, .int .i64 0, .int .u64 0, .int .u64 0] 56)) := (Keeps.refl _ w).alloc _
  rw [← hgr] at hb0
  by_cases hn0 : n = 0
  · subst hn0
    have hl : l = [] := List.eq_nil_of_length_eq_zero h.len
    have HE : Hid (scanE l = 2) := by rw [hl]; exact rfl
    clear h hl hPOST
    go_enter Try.func19, Try.ntmps19
    go_upto_region 2 with fail
    rw [← hgr]
    generalize w.alloc (.cells #[.int .i64 0, .int .i64 0, .int .u64 0, .int .u64 0] 56) = w1 at *
    have HRB := Lib.hid hb0
    have HKR := Lib.hid hk0
    clear hb0 hk0 hgr
    have hb := HRB.out
    have z0 := blk_cell hb 0
    have z1 := blk_cell hb 1
    have z2 := blk_cell hb 2
    have z3 := blk_cell hb 3
    have f0 := blk_frozen hb 0
    have f1 := blk_frozen hb 1
    have f2 := blk_frozen hb 2
    have f3 := blk_frozen hb 3
    simp at z0 z1 z2 z3
    go_wp2_with fail
    have hb9 := blk_set (blk_set (blk_set (blk_set hb 0 (.int .i64 0)) 1 (.int .i64 0)) 2 (.int .u64 0)) 3 (.int .u64 0)
    have hk9 : Keeps (fun k => w.heap.size ≤ k) w (((((w1).setCell ⟨gr, 0, none⟩ (.int .i64 0)).setCell ⟨gr, 1, none⟩ (.int .i64 0)).setCell ⟨gr, 2, none⟩ (.int .u64 0)).setCell ⟨gr, 3, none⟩ (.int .u64 0)) := (((HKR.out.setCell (p := ⟨gr, 0, none⟩) (fun _ => HGR.out) _).setCell (p := ⟨gr, 1, none⟩) (fun _ => HGR.out) _).setCell (p := ⟨gr, 2, none⟩) (fun _ => HGR.out) _).setCell (p := ⟨gr, 3, none⟩) (fun _ => HGR.out) _
    generalize ((((w1).setCell ⟨gr, 0, none⟩ (.int .i64 0)).setCell ⟨gr, 1, none⟩ (.int .i64 0)).setCell ⟨gr, 2, none⟩ (.int .u64 0)).setCell ⟨gr, 3, none⟩ (.int .u64 0) = w9 at *
    clear z0 z1 z2 z3 f0 f1 f2 f3 hb
    have y0 := blk_cell hb9 0
    have y1 := blk_cell hb9 1
    have y2 := blk_cell hb9 2
    have y3 := blk_cell hb9 3
    simp at y0 y1 y2 y3
    have hld : (loadVar 56 ⟨gr, 0, none⟩).run Try.prog w9 = .ok (.agg #[.int .i64 0, .int .i64 0, .int .u64 0, .int .u64 0]) w9 := by go_simp
    refine bodyPost_ret (v := .tuple #[.slice none 0 0, .slice none 0 0, .agg #[.int .i64 0, .int .i64 0, .int .u64 0, .int .u64 0], .int .i64 (2 : Nat)]) ?_ rfl ?_
    · rw [results_ttct rfl]
      simp [asAddr, Result.andThen, hld]
    · rw [HPO.out]
      have hse : scanE l = 2 := by
        exact HE.out
      exact ⟨Keeps.trans hk9 (Keeps.refl (fun _ => False) _) (fun _ _ h => h.elim) |>.mono (fun k hk h => absurd h (by omega)), fun _ => by rw [hse], fun h => absurd (hse.symm.trans h) (by decide)⟩
  · have hn1 : ((n : Int) == 0) = false := by simp; omega
    have hn2 : ¬ (n : Int) = 0 := by omega
    have hn3 : (n == 0) = false := by simp; omega
    have HN0 : Hid (0 < n ∧ l.length = n) := ⟨by omega, h.len⟩
    obtain ⟨b, o, rfl, hc⟩ := h.at_ (by omega)
    have HC := Lib.hid hc
    clear h hPOST hc hn0
    go_enter Try.func19, Try.ntmps19
    go_upto_region 4 with fail
    obtain ⟨gf, hgf⟩ : ∃ gf, gf = (w.alloc (.cells #[.int .i64 0, .int .i64 0, .int .u64 0, .int .u64 0] 56)).heap.size := ⟨_, rfl⟩
    have hbf := heap_alloc_new (w.alloc (.cells #[.int .i64 0, .int .i64 0, .int .u64 0, .int .u64 0] 56)) (.cells #[.int .i64 0, .int .i64 0, .int .u64 0, .int .u64 0] 56)
    have hb1 := blk_alloc hb0 (.cells #[.int .i64 0, .int .i64 0, .int .u64 0, .int .u64 0] 56)
    have hk1 := hk0.alloc (.cells #[.int .i64 0, .int .i64 0, .int .u64 0, .int .u64 0] 56)
    rw [← hgf] at hbf
    have hgf2 : gf = w.heap.size + 1 := by rw [hgf]; simp
    rw [← hgr, show gr + 1 = gf by omega]
    clear hgf
    generalize (w.alloc (.cells #[.int .i64 0, .int .i64 0, .int .u64 0, .int .u64 0] 56)).alloc (.cells #[.int .i64 0, .int .i64 0, .int .u64 0, .int .u64 0] 56) = w1 at *
    have HKR1 := Lib.hid hk1
    have HB1 := Lib.hid (And.intro hb1 hbf)
    have HGE : Hid (gf = w.heap.size + 1 ∧ gr = w.heap.size) := ⟨hgf2, hgr⟩
    obtain ⟨C, hC⟩ : ∃ C, C = cntL l := ⟨_, rfl⟩
    obtain ⟨al, hal⟩ : ∃ al, al = allB (l.getD 0 []) := ⟨_, rfl⟩
    obtain ⟨su, hsu⟩ : ∃ su, su = sumB (l.getD 0 []) := ⟨_, rfl⟩
    have HCC := Lib.hid (And.intro hC (And.intro hal hsu))
    clear hk0 hk1 hb0 hb1 hbf hgf2 hgr hC hal hsu
    go_wp2_with fail
    go_loopw [7, 8, 9, 10, 11] (fun vo vt vi _ _ wr => ∃ (i : Nat), i ≤ n ∧ vi = .int .i64 (i : Nat) ∧ Hid (∀ j, j < i → stepE l j = 0) ∧ Hid (Keeps (fun k => w.heap.size ≤ k) w wr) ∧ Hid (wr.heap[gr]? = some (.cells #[.int .i64 0, .int .i64 0, .int .u64 0, .int .u64 0] 56 (0, 0))) ∧
      Hid ((i = 0 ∧ vo = .slice none 0 0 ∧ vt = .slice none 0 0 ∧ wr.heap[gf]? = some (.cells #[.int .i64 0, .int .i64 0, .int .u64 0, .int .u64 0] 56 (0, 0))) ∨
      ∃ (go gt f1 : Nat) (G : Nat → Value), 0 < i ∧ vo = .slice (some ⟨go, 0, none⟩) C C ∧ vt = .slice (some ⟨gt, 0, none⟩) C C ∧ wr.heap[gf]? = some (.cells #[.int .i64 (f1 : Nat), .int .i64 (C : Nat), .int .u64 (al : Nat), .int .u64 (su : Nat)] 56 (0, 0)) ∧
        FunAt wr go 24 C G ∧ FunAt wr gt 4 C (fun k => .bool ((l.take i).any fun y => numB y == k)) ∧ (gf < go ∧ go < gt) ∧
        ∀ j, j < i → ∃ A' c', G (numB (l.getD j [])) = .slice A' ((l.getD j []).length - 24) c' ∧ Nums .u8 w A' ((l.getD j []).length - 24) c' ((l.getD j []).drop 24))) (fun _ _ vi _ _ _ => n - (intOf vi).toNat)
    case atStart => exact ⟨0, Nat.zero_le _, rfl, fun j hj => absurd hj (Nat.not_lt_zero _), HKR1.out, HB1.out.1, .inl ⟨rfl, rfl, rfl, HB1.out.2⟩⟩
    case round =>
      obtain ⟨i, hi, rfl, HST, HKR, HRB, HREL⟩ := hrel
      by_cases hin : i < n
      · have hin' : (i : Int) < (n : Int) := by omega
        obtain ⟨A', c', h1, h2⟩ := HC.out i hin
        obtain ⟨y, hy⟩ : ∃ y, y = l.getD i [] := ⟨_, rfl⟩
        obtain ⟨m, hm⟩ : ∃ m, m = y.length := ⟨_, rfl⟩
        rw [← hy, ← hm] at h1 h2
        have HCL := Lib.hid h1
        have hcell := ckp h1 HKR.out (fun h9 => by have := World.block_lt_of_cell? w _ h1; simp only at h9 this; omega)
        have HYW := Lib.hid h2
        have HY := Lib.hid (h2.old HKR.out (fun b hb h9 => by omega))
        have HYE : Hid (y = l.getD i [] ∧ m = y.length ∧ m ≤ 140737488355328) := ⟨hy, hm, by rw [hm, hy]; exact HN.out.sm i hin⟩
        obtain ⟨E, hE⟩ : ∃ E, E = readE y := ⟨_, rfl⟩
        have HE := Lib.hid hE
        clear h1 h2 hy hm hE
        go_wp2_with fail
        refine (vrread_is wr A' m c' y HY.out HYE.out.2.2).mono ?_
        rintro x w2 ⟨a1, a2, a3, a4, rfl, hg2, hok⟩
        rw [← HE.out] at hok ⊢
        have HOK := Lib.hid hok
        have HZ2 : Hid (gf < wr.heap.size) := by
          rcases HREL.out with h | ⟨_, _, _, _, h⟩
          · exact blk_lt h.2.2.2
          · exact blk_lt h.2.2.2.1
        obtain ⟨gp, hgp⟩ : ∃ gp, gp = w2.heap.size := ⟨_, rfl⟩
        have HGP : Hid (wr.heap.size ≤ gp) := by show _ ≤ _; rw [hgp]; exact hg2.size
        have hbp := heap_alloc_new w2 (.cells #[.int .i64 (a1 : Nat), .int .i64 (a2 : Nat), .int .u64 (a3 : Nat), .int .u64 (a4 : Nat)] 56)
        have hk3 : Grow wr (w2.alloc (.cells #[.int .i64 (a1 : Nat), .int .i64 (a2 : Nat), .int .u64 (a3 : Nat), .int .u64 (a4 : Nat)] 56)) := Grow.trans _ _ _ hg2 ((Keeps.refl _ w2).alloc _)
        rw [← hgp] at hbp
        go_upto_region 10 with fail
        rw [← hgp]
        clear hcell hg2 hok hgp
        generalize w2.alloc (.cells #[.int .i64 (a1 : Nat), .int .i64 (a2 : Nat), .int .u64 (a3 : Nat), .int .u64 (a4 : Nat)] 56) = w3 at *
        have HD := Lib.hid hbp
        have hrl := HREL.out
        replace HRB := Lib.hid (block_keep HRB.out hk3 (fun h => h))
        replace HKR : Hid (Keeps (fun k => w.heap.size ≤ k) w w3) := Keeps.trans HKR.out hk3 fun _ _ h => h.elim
        by_cases hE0 : E = 0
        rotate_left
        · have e1 : ((E : Int) == 0) = false := by simp; omega
          have e2 : ¬ (E : Int) = 0 := by omega
          have e3 : ((E : Int) != 0) = true := by simp; omega
          have HE0 := Lib.hid hE0
          clear hE0 hrl hbp hk3
          go_upto_region 11 with fail
          have hb := HRB.out
          have z0 := blk_cell hb 0
          have z1 := blk_cell hb 1
          have z2 := blk_cell hb 2
          have z3 := blk_cell hb 3
          have f0 := blk_frozen hb 0
          have f1 := blk_frozen hb 1
          have f2 := blk_frozen hb 2
          have f3 := blk_frozen hb 3
          simp at z0 z1 z2 z3
          go_wp2_with fail
          have hb9 := blk_set (blk_set (blk_set (blk_set hb 0 (.int .i64 0)) 1 (.int .i64 0)) 2 (.int .u64 0)) 3 (.int .u64 0)
          have hk9 : Keeps (fun k => w.heap.size ≤ k) w (((((w3).setCell ⟨gr, 0, none⟩ (.int .i64 0)).setCell ⟨gr, 1, none⟩ (.int .i64 0)).setCell ⟨gr, 2, none⟩ (.int .u64 0)).setCell ⟨gr, 3, none⟩ (.int .u64 0)) := (((HKR.out.setCell (p := ⟨gr, 0, none⟩) (fun _ => HGR.out) _).setCell (p := ⟨gr, 1, none⟩) (fun _ => HGR.out) _).setCell (p := ⟨gr, 2, none⟩) (fun _ => HGR.out) _).setCell (p := ⟨gr, 3, none⟩) (fun _ => HGR.out) _
          generalize ((((w3).setCell ⟨gr, 0, none⟩ (.int .i64 0)).setCell ⟨gr, 1, none⟩ (.int .i64 0)).setCell ⟨gr, 2, none⟩ (.int .u64 0)).setCell ⟨gr, 3, none⟩ (.int .u64 0) = w9 at *
          clear z0 z1 z2 z3 f0 f1 f2 f3 hb
          have y0 := blk_cell hb9 0
          have y1 := blk_cell hb9 1
          have y2 := blk_cell hb9 2
          have y3 := blk_cell hb9 3
          simp at y0 y1 y2 y3
          have hld : (loadVar 56 ⟨gr, 0, none⟩).run Try.prog w9 = .ok (.agg #[.int .i64 0, .int .i64 0, .int .u64 0, .int .u64 0]) w9 := by go_simp
          refine bodyPost_ret (v := .tuple #[.slice none 0 0, .slice none 0 0, .agg #[.int .i64 0, .int .i64 0, .int .u64 0, .int .u64 0], .int .i64 (E : Nat)]) ?_ rfl ?_
          · rw [results_ttct rfl]
            simp [asAddr, Result.andThen, hld]
          · rw [HPO.out]
            have hse : scanE l = E := by
              have h9 : stepE l i = E := by
                unfold stepE
                rw [← HYE.out.1, if_pos (by rw [← HE.out]; exact HE0.out)]
                exact HE.out.symm
              rw [scanE_at (by have := HN0.out; omega) HST.out (by rw [h9]; exact HE0.out), h9]

            exact ⟨Keeps.trans hk9 (Keeps.refl (fun _ => False) _) (fun _ _ h => h.elim) |>.mono (fun k hk h => absurd h (by omega)), fun _ => by rw [hse], fun h => absurd (hse.symm.trans h) (by exact HE0.out)⟩
        · subst hE0
          obtain ⟨v1, v2, v3, v4⟩ := HOK.out rfl
          have HV : Hid (a1 = numB y ∧ a2 = cntB y ∧ a3 = allB y ∧ a4 = sumB y) := ⟨v1, v2, v3, v4⟩
          have H24 : Hid (24 ≤ m) := by have := (readE_zero HE.out.symm).1; have := HYE.out.2.1; show 24 ≤ m; omega
          have HB : Hid (a1 < a2 ∧ a2 ≤ 1024 ∧ a3 ≤ 268435456 ∧ 1 ≤ a2) := by
            have := readE_zero HE.out.symm
            exact ⟨by rw [v1, v2]; exact this.2.2.2.2.1, by rw [v2]; exact this.2.2.2.1, by rw [v3]; exact this.2.2.2.2.2, by rw [v2]; exact this.2.2.1⟩
          have hb1 : (a1 : Int) < 1024 := by have := HB.out; omega
          have hb2 : (a2 : Int) ≤ 1024 := by have := HB.out; omega
          have hb20 : (0 : Int) ≤ (a2 : Int) := by omega
          have hb3 : (a3 : Int) ≤ 268435456 := by have := HB.out; omega
          clear v1 v2 v3 v4 HOK hbp
          go_upto_region 12 with fail
          rcases hrl with ⟨hi0, hvo, hvt, hf0⟩ | ⟨go, gt, f1v, G, hi0, hvo, hvt, hf0, ho0, ht0, hgg, hall⟩
          · subst hi0
            subst hvo
            subst hvt
            have hf3 := block_keep hf0 hk3 (fun h => h)
            have HA : Hid (a2 = C ∧ a3 = al ∧ a4 = su) := by
              have hy0 := HYE.out.1
              exact ⟨by rw [HV.out.2.1, HCC.out.1, hy0]; rfl, by rw [HV.out.2.2.1, HCC.out.2.1, hy0], by rw [HV.out.2.2.2, HCC.out.2.2, hy0]⟩
            have d0 := blk_cell HD.out 0
            have d1 := blk_cell HD.out 1
            have d2 := blk_cell HD.out 2
            have d3 := blk_cell HD.out 3
            have z0 := blk_cell hf3 0
            have z1 := blk_cell hf3 1
            have z2 := blk_cell hf3 2
            have z3 := blk_cell hf3 3
            have f0 := blk_frozen hf3 0
            have f1 := blk_frozen hf3 1
            have f2 := blk_frozen hf3 2
            have f3 := blk_frozen hf3 3
            simp at d0 d1 d2 d3 z0 z1 z2 z3
            have hgpf : gf < gp := by have := HZ2.out; have := HGP.out; omega
            go_upto_region 14 with fail
            have hb9 := blk_set (blk_set (blk_set (blk_set hf3 0 (.int .i64 (a1 : Nat))) 1 (.int .i64 (a2 : Nat))) 2 (.int .u64 (a3 : Nat))) 3 (.int .u64 (a4 : Nat))
            have hk4 : Keeps (fun k => k = gf) w3 ((((w3.setCell ⟨gf, 0, none⟩ (.int .i64 (a1 : Nat))).setCell ⟨gf, 1, none⟩ (.int .i64 (a2 : Nat))).setCell ⟨gf, 2, none⟩ (.int .u64 (a3 : Nat))).setCell ⟨gf, 3, none⟩ (.int .u64 (a4 : Nat))) := Keeps.setCell (S := fun k => k = gf) (Keeps.setCell (S := fun k => k = gf) (Keeps.setCell (S := fun k => k = gf) (Keeps.setCell (S := fun k => k = gf) (Keeps.refl _ w3) (p := ⟨gf, 0, none⟩) (fun _ => rfl) _) (p := ⟨gf, 1, none⟩) (fun _ => rfl) _) (p := ⟨gf, 2, none⟩) (fun _ => rfl) _) (p := ⟨gf, 3, none⟩) (fun _ => rfl) _
            generalize (((w3.setCell ⟨gf, 0, none⟩ (.int .i64 (a1 : Nat))).setCell ⟨gf, 1, none⟩ (.int .i64 (a2 : Nat))).setCell ⟨gf, 2, none⟩ (.int .u64 (a3 : Nat))).setCell ⟨gf, 3, none⟩ (.int .u64 (a4 : Nat)) = w4 at *
            clear d0 d1 d2 d3 z0 z1 z2 z3 f0 f1 f2 f3 hf0 hf3 hk3 HREL
            have hf4 : w4.heap[gf]? = some (.cells #[.int .i64 (a1 : Nat), .int .i64 (a2 : Nat), .int .u64 (a3 : Nat), .int .u64 (a4 : Nat)] 56 (0, 0)) := by simpa using hb9
            have HF4 := Lib.hid hf4
            replace HD := Lib.hid (block_keep HD.out hk4 (fun h => by omega))
            replace HRB := Lib.hid (block_keep HRB.out hk4 (fun h => by have := HGE.out; omega))
            replace HKR : Hid (Keeps (fun k => w.heap.size ≤ k) w w4) := Keeps.trans HKR.out hk4 fun k _ h => by have h : k = gf := h; have := HGE.out; omega
            have hz4 : gp < w4.heap.size := blk_lt HD.out
            clear hb9 hk4 hf4
            have HZ4 := Lib.hid hz4
            clear hz4
            have d1 := blk_cell HD.out 1
            simp at d1
            go_wp2_with (refine wpList_make rfl (.tmp 38) (.tmp 38) 22 24 rfl Try.underlying22 Try.infoSlV rfl a2 rfl rfl (by have := HB.out; omega) (by have := HB.out; unfold maxLen; omega) ?_)
            intro w5 ho5 hg5 hs5
            obtain ⟨go, hgo⟩ : ∃ go, go = w4.heap.size := ⟨_, rfl⟩
            rw [← hgo] at ho5 ⊢
            have hO5 := FunAt.of_own ho5
            have d1b := ckp d1 hg5 (fun h => h)
            have HK45 := Lib.hid hg5
            have HS5 := Lib.hid (And.intro hgo hs5)
            clear ho5 hg5 d1 hgo hs5
            go_wp2_with (refine wpList_make rfl (.tmp 41) (.tmp 41) 42 4 rfl Try.underlying42 Try.infoBoo rfl a2 rfl rfl (by have := HB.out; omega) (by have := HB.out; unfold maxLen; omega) ?_)
            intro w6 ho6 hg6 hs6
            obtain ⟨gt, hgt⟩ : ∃ gt, gt = w5.heap.size := ⟨_, rfl⟩
            rw [← hgt] at ho6 ⊢
            have HT := Lib.hid (FunAt.of_own ho6)
            have hk46 : Grow w4 w6 := Grow.trans _ _ _ HK45.out hg6
            have HO := Lib.hid (hO5.keep hg6 (fun h => h))
            replace HD := Lib.hid (block_keep HD.out hk46 (fun h => h))
            have HF := Lib.hid (block_keep HF4.out hk46 (fun h => h))
            replace HRB := Lib.hid (block_keep HRB.out hk46 (fun h => h))
            replace HKR : Hid (Keeps (fun k => w.heap.size ≤ k) w w6) := Keeps.trans HKR.out hk46 fun _ _ h => h.elim
            obtain ⟨hgo, hs5⟩ := HS5.out
            have hz4 := HZ4.out
            have HGO : Hid (gf < go ∧ go < gt) := ⟨by omega, by omega⟩
            have HGT : Hid (w.heap.size ≤ go ∧ w.heap.size ≤ gt) := ⟨by have := HGE.out; omega, by have := HGE.out; omega⟩
            have HNE : Hid (go ≠ gt ∧ gp ≠ gt ∧ gf ≠ gt ∧ gr ≠ gt ∧ gf ≠ go ∧ gr ≠ go) := by
              have := HGE.out
              exact ⟨by omega, by omega, by omega, by omega, by omega, by omega⟩
            obtain ⟨G, hG⟩ : ∃ G : Nat → Value, G = fun _ => .slice none 0 0 := ⟨_, rfl⟩
            rw [← hG] at HO
            have HTT : (fun _ => Value.bool false) = fun k => Value.bool ((l.take 0).any fun y => numB y == k) := by funext k; rfl
            rw [HTT] at HT
            have HGG : Hid (∀ j, j < 0 → ∃ A' c', G (numB (l.getD j [])) = .slice A' ((l.getD j []).length - 24) c' ∧ Nums .u8 w A' ((l.getD j []).length - 24) c' ((l.getD j []).drop 24)) := fun j hj => absurd hj (Nat.not_lt_zero _)
            clear hgo hgt hG hO5 ho6 hg6 hs5 hs6 hk46 d1b HF4 HTT hz4
            have hag : agree (l.getD 0 []) y = True := by
              rw [HYE.out.1]
              exact eq_true ⟨rfl, rfl, rfl⟩
            obtain ⟨k2, k3, k4⟩ := HA.out
            subst k2
            subst k3
            subst k4
            have d1 := blk_cell HD.out 1
            have d2 := blk_cell HD.out 2
            have d3 := blk_cell HD.out 3
            have q1 := blk_cell HF.out 1
            have q2 := blk_cell HF.out 2
            have q3 := blk_cell HF.out 3
            simp at d1 d2 d3 q1 q2 q3
            go_upto_region 18 with fail
            clear d1 d2 d3 q1 q2 q3
            have HAG2 : Hid (agree (l.getD 0 []) (l.getD 0 [])) := by
              have h9 := of_eq_true hag
              rw [HYE.out.1] at h9
              exact h9
            clear hag
            obtain ⟨bv, hbv⟩ : ∃ bv, bv = (l.take 0).any fun y => numB y == a1 := ⟨_, rfl⟩
            have HBV := Lib.hid hbv
            have hnC : a1 < a2 := HB.out.1
            have hnCi : (a1 : Int) < (a2 : Int) := by omega
            have t1 := (HT.out.cell hnC).1
            rw [← hbv] at t1
            have d0 := blk_cell HD.out 0
            simp at d0
            clear hbv
            cases bv
            rotate_left
            · go_upto_region 19 with fail
              clear d0 t1
              have hb := HRB.out
              have z0 := blk_cell hb 0
              have z1 := blk_cell hb 1
              have z2 := blk_cell hb 2
              have z3 := blk_cell hb 3
              have f0 := blk_frozen hb 0
              have f1 := blk_frozen hb 1
              have f2 := blk_frozen hb 2
              have f3 := blk_frozen hb 3
              simp at z0 z1 z2 z3
              go_wp2_with fail
              have hb9 := blk_set (blk_set (blk_set (blk_set hb 0 (.int .i64 0)) 1 (.int .i64 0)) 2 (.int .u64 0)) 3 (.int .u64 0)
              have hk9 : Keeps (fun k => w.heap.size ≤ k) w (((((w6).setCell ⟨gr, 0, none⟩ (.int .i64 0)).setCell ⟨gr, 1, none⟩ (.int .i64 0)).setCell ⟨gr, 2, none⟩ (.int .u64 0)).setCell ⟨gr, 3, none⟩ (.int .u64 0)) := (((HKR.out.setCell (p := ⟨gr, 0, none⟩) (fun _ => HGR.out) _).setCell (p := ⟨gr, 1, none⟩) (fun _ => HGR.out) _).setCell (p := ⟨gr, 2, none⟩) (fun _ => HGR.out) _).setCell (p := ⟨gr, 3, none⟩) (fun _ => HGR.out) _
              generalize ((((w6).setCell ⟨gr, 0, none⟩ (.int .i64 0)).setCell ⟨gr, 1, none⟩ (.int .i64 0)).setCell ⟨gr, 2, none⟩ (.int .u64 0)).setCell ⟨gr, 3, none⟩ (.int .u64 0) = w9 at *
              clear z0 z1 z2 z3 f0 f1 f2 f3 hb
              have y0 := blk_cell hb9 0
              have y1 := blk_cell hb9 1
              have y2 := blk_cell hb9 2
              have y3 := blk_cell hb9 3
              simp at y0 y1 y2 y3
              have hld : (loadVar 56 ⟨gr, 0, none⟩).run Try.prog w9 = .ok (.agg #[.int .i64 0, .int .i64 0, .int .u64 0, .int .u64 0]) w9 := by go_simp
              refine bodyPost_ret (v := .tuple #[.slice none 0 0, .slice none 0 0, .agg #[.int .i64 0, .int .i64 0, .int .u64 0, .int .u64 0], .int .i64 (30 : Nat)]) ?_ rfl ?_
              · rw [results_ttct rfl]
                simp [asAddr, Result.andThen, hld]
              · rw [HPO.out]
                have hse : scanE l = 30 := by
                  have h9 : stepE l 0 = 30 := by
                    unfold stepE
                    rw [if_neg (by rw [← HYE.out.1, ← HE.out]; simp), if_neg (fun h => h HAG2.out)]
                    refine if_pos ?_
                    obtain ⟨y', hy1, hy2⟩ := List.any_eq_true.1 HBV.out.symm
                    obtain ⟨j, hj, e9⟩ := mem_at.1 hy1
                    rw [List.length_take] at hj
                    refine ⟨j, by omega, ?_⟩
                    have h10 : (l.take 0).getD j [] = l.getD j [] := by first | omega | simp [List.getD_eq_getElem?_getD, List.getElem?_take, show j < 0 by omega]
                    rw [← h10, e9, ← HYE.out.1, ← HV.out.1]
                    simpa using hy2
                  rw [scanE_at (by have := HN0.out; omega) HST.out (by rw [h9]; decide), h9]

                exact ⟨Keeps.trans hk9 (Keeps.refl (fun _ => False) _) (fun _ _ h => h.elim) |>.mono (fun k hk h => absurd h (by omega)), fun _ => by rw [hse], fun h => absurd (hse.symm.trans h) (by decide)⟩
            · go_upto_region 20 with fail
              have hts := HT.out.set a1 hnC (.bool true)
              have hkT : Keeps (fun k => k = gt) w6 ((w6).setCell ⟨gt, a1, none⟩ (.bool true)) := Keeps.setCell (S := fun k => k = gt) (Keeps.refl _ w6) (p := ⟨gt, a1, none⟩) (fun _ => rfl) _
              have tf := (HT.out.cell hnC).2
              go_upto_region 21 with fail
              generalize (w6).setCell ⟨gt, a1, none⟩ (.bool true) = w6 at *
              have HT6 := Lib.hid hts
              have HO6 := Lib.hid (HO.out.keep hkT (fun h => HNE.out.1 h))
              have HD6 := Lib.hid (block_keep HD.out hkT (fun h => HNE.out.2.1 h))
              have HF6 := Lib.hid (block_keep HF.out hkT (fun h => HNE.out.2.2.1 h))
              have HR6 := Lib.hid (block_keep HRB.out hkT (fun h => HNE.out.2.2.2.1 h))
              have HKR6 : Hid (Keeps (fun k => w.heap.size ≤ k) w w6) := Keeps.trans HKR.out hkT fun k hk h => by have h : k = gt := h; rw [h]; exact HGT.out.2
              clear hkT hts t1 tf HT HO HD HF HRB HKR d0
              refine wp_region_seq (by kernel_rfl) (by kernel_rfl) ?_
              have d0 := blk_cell HD6.out 0
              simp at d0
              have hl6 := ckp HCL.out HKR6.out (fun h9 => by have := World.block_lt_of_cell? w _ HCL.out; simp only at h9 this; omega)
              have of6 := (HO6.out.cell hnC).2
              have oc6 := (HO6.out.cell hnC).1
              obtain ⟨As, hAs⟩ : ∃ As, As = Nums.off A' c' 24 := ⟨_, rfl⟩
              have hsl : ∀ w : World, (Instr.slice 24 (.slice A' m c') (some (.int .i64 24)) none none).run Try.prog w = .ok (.slice As (m - 24) (c' - 24)) w := fun w => by
                have h9 := run_post (P := Try.prog) (t := 24) Try.underlying24 rfl rfl A' m c' 24 H24.out w
                rw [hAs]; exact h9
              have hNS : Nums .u8 w As (m - 24) (c' - 24) (y.drop 24) := by rw [hAs]; exact HYW.out.drop 24 H24.out
              have HNS := Lib.hid hNS
              clear hAs hNS
              have d0d : w6.drew.cell? ⟨gp, 0, none⟩ = some (.int .i64 (a1 : Nat)) := d0
              have l6d : w6.drew.cell? ⟨b, o, none⟩ = some (.slice A' m c') := hl6
              have hos := HO6.out.set a1 hnC (.slice As (m - 24) (c' - 24))
              have hkO : Keeps (fun k => k = go) w6 ((w6.drew).setCell ⟨go, a1, none⟩ (.slice As (m - 24) (c' - 24))) := Keeps.setCell (S := fun k => k = go) ((Keeps.refl _ w6).drew) (p := ⟨go, a1, none⟩) (fun _ => rfl) _
              have hos2 : FunAt ((w6.drew).setCell ⟨go, a1, none⟩ (.slice As (m - 24) (c' - 24))) go 24 a2 (fun j => if j = a1 then .slice As (m - 24) (c' - 24) else G j) := hos
              have of6d : w6.drew.frozen? ⟨go, a1, none⟩ = false := of6
              have oc6d : w6.drew.cell? ⟨go, a1, none⟩ = some (G a1) := oc6
              clear hos hl6 of6 oc6 d0
              have HKR7 : Hid (Keeps (fun k => w.heap.size ≤ k) w ((w6.drew).setCell ⟨go, a1, none⟩ (.slice As (m - 24) (c' - 24)))) := Keeps.trans HKR6.out hkO fun k hk h => by have h : k = go := h; rw [h]; exact HGT.out.1
              have HT7 := Lib.hid (HT6.out.keep hkO (fun h => HNE.out.1 h.symm))
              have HF7 := Lib.hid (block_keep HF6.out hkO (fun h => HNE.out.2.2.2.2.1 h))
              have HR7 := Lib.hid (block_keep HR6.out hkO (fun h => HNE.out.2.2.2.2.2 h))
              have HO7 := Lib.hid hos2
              clear hkO hos2 HKR6 HT6 HF6 HR6 HO6 HD6
              go_wp2_with fail
              refine ⟨by kernel_rfl, ?_⟩
              go_wp2_with fail
              have hx : l[0]? = some y := by rw [HYE.out.1, List.getD_eq_getElem?_getD, List.getElem?_eq_getElem (by have := HN0.out.2; omega)]; rfl
              have hTT : (fun j => if j = a1 then Value.bool true else Value.bool ((l.take 0).any fun y => numB y == j)) = fun k => Value.bool ((l.take (0 + 1)).any fun y => numB y == k) := by
                funext k
                rw [List.take_add_one, hx, List.any_append, HV.out.1]
                by_cases hk : k = numB y
                · simp [hk]
                · have hk2 : ¬ numB y = k := fun h => hk h.symm
                  simp [hk, hk2]
              have hT8 := HT7.out
              rw [hTT] at hT8
              have hst9 : stepE l 0 = 0 := by
                unfold stepE
                rw [if_neg (by rw [← HYE.out.1, ← HE.out]; simp), if_neg (fun h => h HAG2.out)]
                refine if_neg ?_
                rintro ⟨q, hq, e9⟩
                have h8 := HBV.out
                have h10 : ((l.take 0).any fun y => numB y == a1) = true := List.any_eq_true.2 ⟨l.getD q [], mem_at.2 ⟨q, by rw [List.length_take]; have := HN0.out.2; omega, by first | omega | simp [List.getD_eq_getElem?_getD, List.getElem?_take, hq]⟩, by rw [e9, HV.out.1, HYE.out.1]; simp⟩
                rw [h10] at h8
                cases h8
              refine ⟨⟨0 + 1, by omega, by first | rfl | go_num, fun j hj => ?_, HKR7.out, HR7.out, .inr ⟨go, gt, a1, _, by omega, rfl, rfl, HF7.out, HO7.out, hT8, HGO.out, fun j hj => ?_⟩⟩, ?_⟩
              · by_cases hji : j < 0
                · exact HST.out j hji
                · obtain rfl : j = 0 := by omega
                  exact hst9
              · by_cases hji : j < 0
                · obtain ⟨A9, c9, q1, q2⟩ := HGG.out j hji
                  refine ⟨A9, c9, ?_, q2⟩
                  have hne : ¬ numB (l.getD j []) = a1 := fun e => by
                    have h8 := HBV.out
                    have h10 : ((l.take 0).any fun y => numB y == a1) = true := List.any_eq_true.2 ⟨l.getD j [], mem_at.2 ⟨j, by rw [List.length_take]; have := HN0.out.2; omega, by first | omega | simp [List.getD_eq_getElem?_getD, List.getElem?_take, hji]⟩, by rw [e]; simp⟩
                    rw [h10] at h8
                    cases h8
                  simp only [if_neg hne]
                  exact q1
                · obtain rfl : j = 0 := by omega
                  rw [← HYE.out.1, ← HYE.out.2.1]
                  refine ⟨As, c' - 24, ?_, HNS.out⟩
                  rw [if_pos HV.out.1.symm]
              · simp [intOf]; omega
          · subst hvo
            subst hvt
            have i1 : ((i : Int) == 0) = false := by simp; omega
            have i2 : ¬ (i : Int) = 0 := by omega
            have i3 : (i == 0) = false := by simp; omega
            have HF := Lib.hid (block_keep hf0 hk3 (fun h => h))
            have HO := Lib.hid (ho0.keep hk3 (fun h => h))
            have HT := Lib.hid (ht0.keep hk3 (fun h => h))
            have HGO := Lib.hid hgg
            have HGG := Lib.hid hall
            have HI0 := Lib.hid hi0
            have hgl := blk_lt ho0
            have hgl2 := blk_lt ht0
            have HGT : Hid (w.heap.size ≤ go ∧ w.heap.size ≤ gt) := ⟨by have := HGE.out; omega, by have := HGE.out; omega⟩
            have HNE : Hid (go ≠ gt ∧ gp ≠ gt ∧ gf ≠ gt ∧ gr ≠ gt ∧ gf ≠ go ∧ gr ≠ go) := by
              have := HGE.out
              have := HGP.out
              exact ⟨by omega, by omega, by omega, by omega, by omega, by omega⟩
            have d1 := blk_cell HD.out 1
            have d2 := blk_cell HD.out 2
            have d3 := blk_cell HD.out 3
            have q1 := blk_cell HF.out 1
            have q2 := blk_cell HF.out 2
            have q3 := blk_cell HF.out 3
            simp at d1 d2 d3 q1 q2 q3
            clear hf0 ho0 ht0 hgg hall hi0 hk3 HREL hgl hgl2
            go_upto_region 16 with fail
            rcases Classical.em (a2 = C ∧ a3 = al ∧ a4 = su) with hag9 | hag9
            rotate_left
            · have hne9 : ¬ agree (l.getD 0 []) y := fun h => hag9 ⟨by rw [HV.out.2.1, HCC.out.1]; exact h.1, by rw [HV.out.2.2.1, HCC.out.2.1]; exact h.2.1, by rw [HV.out.2.2.2, HCC.out.2.2]; exact h.2.2⟩
              have HS9 : Hid (scanE l = 11) := by
                have h9 : stepE l i = 11 := by
                  unfold stepE
                  rw [← HYE.out.1, if_neg (by rw [← HE.out]; simp), if_pos hne9]
                show scanE l = 11
                rw [scanE_at (by have := HN0.out; omega) HST.out (by rw [h9]; decide), h9]
              have key : ¬ a2 = C ∨ (a2 = C ∧ ¬ a3 = al) ∨ (a2 = C ∧ a3 = al ∧ ¬ a4 = su) := by omega
              clear hag9 hne9 HV HCC HF HO HT HGG
              rcases key with e5 | ⟨e4, e5⟩ | ⟨e4, e4', e5⟩
              · have e6 : ((a2 : Int) == (C : Int)) = false := by simp; omega
                have e7 : (a2 == C) = false := by simp; omega
                have e8 : ¬ (a2 : Int) = (C : Int) := by omega
                have e9 : ((a2 : Int) != (C : Int)) = true := by simp; omega
                go_upto_region 17 with fail
                clear d1 d2 d3 q1 q2 q3
                have hb := HRB.out
                have z0 := blk_cell hb 0
                have z1 := blk_cell hb 1
                have z2 := blk_cell hb 2
                have z3 := blk_cell hb 3
                have f0 := blk_frozen hb 0
                have f1 := blk_frozen hb 1
                have f2 := blk_frozen hb 2
                have f3 := blk_frozen hb 3
                simp at z0 z1 z2 z3
                go_wp2_with fail
                have hb9 := blk_set (blk_set (blk_set (blk_set hb 0 (.int .i64 0)) 1 (.int .i64 0)) 2 (.int .u64 0)) 3 (.int .u64 0)
                have hk9 : Keeps (fun k => w.heap.size ≤ k) w (((((w3).setCell ⟨gr, 0, none⟩ (.int .i64 0)).setCell ⟨gr, 1, none⟩ (.int .i64 0)).setCell ⟨gr, 2, none⟩ (.int .u64 0)).setCell ⟨gr, 3, none⟩ (.int .u64 0)) := (((HKR.out.setCell (p := ⟨gr, 0, none⟩) (fun _ => HGR.out) _).setCell (p := ⟨gr, 1, none⟩) (fun _ => HGR.out) _).setCell (p := ⟨gr, 2, none⟩) (fun _ => HGR.out) _).setCell (p := ⟨gr, 3, none⟩) (fun _ => HGR.out) _
                generalize ((((w3).setCell ⟨gr, 0, none⟩ (.int .i64 0)).setCell ⟨gr, 1, none⟩ (.int .i64 0)).setCell ⟨gr, 2, none⟩ (.int .u64 0)).setCell ⟨gr, 3, none⟩ (.int .u64 0) = w9 at *
                clear z0 z1 z2 z3 f0 f1 f2 f3 hb
                have y0 := blk_cell hb9 0
                have y1 := blk_cell hb9 1
                have y2 := blk_cell hb9 2
                have y3 := blk_cell hb9 3
                simp at y0 y1 y2 y3
                have hld : (loadVar 56 ⟨gr, 0, none⟩).run Try.prog w9 = .ok (.agg #[.int .i64 0, .int .i64 0, .int .u64 0, .int .u64 0]) w9 := by go_simp
                refine bodyPost_ret (v := .tuple #[.slice none 0 0, .slice none 0 0, .agg #[.int .i64 0, .int .i64 0, .int .u64 0, .int .u64 0], .int .i64 (11 : Nat)]) ?_ rfl ?_
                · rw [results_ttct rfl]
                  simp [asAddr, Result.andThen, hld]
                · rw [HPO.out]
                  have hse : scanE l = 11 := by
                    exact HS9.out
                  exact ⟨Keeps.trans hk9 (Keeps.refl (fun _ => False) _) (fun _ _ h => h.elim) |>.mono (fun k hk h => absurd h (by omega)), fun _ => by rw [hse], fun h => absurd (hse.symm.trans h) (by decide)⟩
              · subst e4
                have e6 : ((a3 : Int) == (al : Int)) = false := by simp; omega
                have e7 : (a3 == al) = false := by simp; omega
                have e8 : ¬ (a3 : Int) = (al : Int) := by omega
                have e9 : ((a3 : Int) != (al : Int)) = true := by simp; omega
                go_upto_region 17 with fail
                clear d1 d2 d3 q1 q2 q3
                have hb := HRB.out
                have z0 := blk_cell hb 0
                have z1 := blk_cell hb 1
                have z2 := blk_cell hb 2
                have z3 := blk_cell hb 3
                have f0 := blk_frozen hb 0
                have f1 := blk_frozen hb 1
                have f2 := blk_frozen hb 2
                have f3 := blk_frozen hb 3
                simp at z0 z1 z2 z3
                go_wp2_with fail
                have hb9 := blk_set (blk_set (blk_set (blk_set hb 0 (.int .i64 0)) 1 (.int .i64 0)) 2 (.int .u64 0)) 3 (.int .u64 0)
                have hk9 : Keeps (fun k => w.heap.size ≤ k) w (((((w3).setCell ⟨gr, 0, none⟩ (.int .i64 0)).setCell ⟨gr, 1, none⟩ (.int .i64 0)).setCell ⟨gr, 2, none⟩ (.int .u64 0)).setCell ⟨gr, 3, none⟩ (.int .u64 0)) := (((HKR.out.setCell (p := ⟨gr, 0, none⟩) (fun _ => HGR.out) _).setCell (p := ⟨gr, 1, none⟩) (fun _ => HGR.out) _).setCell (p := ⟨gr, 2, none⟩) (fun _ => HGR.out) _).setCell (p := ⟨gr, 3, none⟩) (fun _ => HGR.out) _
                generalize ((((w3).setCell ⟨gr, 0, none⟩ (.int .i64 0)).setCell ⟨gr, 1, none⟩ (.int .i64 0)).setCell ⟨gr, 2, none⟩ (.int .u64 0)).setCell ⟨gr, 3, none⟩ (.int .u64 0) = w9 at *
                clear z0 z1 z2 z3 f0 f1 f2 f3 hb
                have y0 := blk_cell hb9 0
                have y1 := blk_cell hb9 1
                have y2 := blk_cell hb9 2
                have y3 := blk_cell hb9 3
                simp at y0 y1 y2 y3
                have hld : (loadVar 56 ⟨gr, 0, none⟩).run Try.prog w9 = .ok (.agg #[.int .i64 0, .int .i64 0, .int .u64 0, .int .u64 0]) w9 := by go_simp
                refine bodyPost_ret (v := .tuple #[.slice none 0 0, .slice none 0 0, .agg #[.int .i64 0, .int .i64 0, .int .u64 0, .int .u64 0], .int .i64 (11 : Nat)]) ?_ rfl ?_
                · rw [results_ttct rfl]
                  simp [asAddr, Result.andThen, hld]
                · rw [HPO.out]
                  have hse : scanE l = 11 := by
                    exact HS9.out
                  exact ⟨Keeps.trans hk9 (Keeps.refl (fun _ => False) _) (fun _ _ h => h.elim) |>.mono (fun k hk h => absurd h (by omega)), fun _ => by rw [hse], fun h => absurd (hse.symm.trans h) (by decide)⟩
              · subst e4
                subst e4'
                have e6 : ((a4 : Int) == (su : Int)) = false := by simp; omega
                have e7 : (a4 == su) = false := by simp; omega
                have e8 : ¬ (a4 : Int) = (su : Int) := by omega
                have e9 : ((a4 : Int) != (su : Int)) = true := by simp; omega
                go_upto_region 17 with fail
                clear d1 d2 d3 q1 q2 q3
                have hb := HRB.out
                have z0 := blk_cell hb 0
                have z1 := blk_cell hb 1
                have z2 := blk_cell hb 2
                have z3 := blk_cell hb 3
                have f0 := blk_frozen hb 0
                have f1 := blk_frozen hb 1
                have f2 := blk_frozen hb 2
                have f3 := blk_frozen hb 3
                simp at z0 z1 z2 z3
                go_wp2_with fail
                have hb9 := blk_set (blk_set (blk_set (blk_set hb 0 (.int .i64 0)) 1 (.int .i64 0)) 2 (.int .u64 0)) 3 (.int .u64 0)
                have hk9 : Keeps (fun k => w.heap.size ≤ k) w (((((w3).setCell ⟨gr, 0, none⟩ (.int .i64 0)).setCell ⟨gr, 1, none⟩ (.int .i64 0)).setCell ⟨gr, 2, none⟩ (.int .u64 0)).setCell ⟨gr, 3, none⟩ (.int .u64 0)) := (((HKR.out.setCell (p := ⟨gr, 0, none⟩) (fun _ => HGR.out) _).setCell (p := ⟨gr, 1, none⟩) (fun _ => HGR.out) _).setCell (p := ⟨gr, 2, none⟩) (fun _ => HGR.out) _).setCell (p := ⟨gr, 3, none⟩) (fun _ => HGR.out) _
                generalize ((((w3).setCell ⟨gr, 0, none⟩ (.int .i64 0)).setCell ⟨gr, 1, none⟩ (.int .i64 0)).setCell ⟨gr, 2, none⟩ (.int .u64 0)).setCell ⟨gr, 3, none⟩ (.int .u64 0) = w9 at *
                clear z0 z1 z2 z3 f0 f1 f2 f3 hb
                have y0 := blk_cell hb9 0
                have y1 := blk_cell hb9 1
                have y2 := blk_cell hb9 2
                have y3 := blk_cell hb9 3
                simp at y0 y1 y2 y3
                have hld : (loadVar 56 ⟨gr, 0, none⟩).run Try.prog w9 = .ok (.agg #[.int .i64 0, .int .i64 0, .int .u64 0, .int .u64 0]) w9 := by go_simp
                refine bodyPost_ret (v := .tuple #[.slice none 0 0, .slice none 0 0, .agg #[.int .i64 0, .int .i64 0, .int .u64 0, .int .u64 0], .int .i64 (11 : Nat)]) ?_ rfl ?_
                · rw [results_ttct rfl]
                  simp [asAddr, Result.andThen, hld]
                · rw [HPO.out]
                  have hse : scanE l = 11 := by
                    exact HS9.out
                  exact ⟨Keeps.trans hk9 (Keeps.refl (fun _ => False) _) (fun _ _ h => h.elim) |>.mono (fun k hk h => absurd h (by omega)), fun _ => by rw [hse], fun h => absurd (hse.symm.trans h) (by decide)⟩
            · obtain ⟨g2, g3, g4⟩ := hag9
              have hag : agree (l.getD 0 []) y = True := eq_true ⟨by rw [← HV.out.2.1, g2, HCC.out.1]; rfl, by rw [← HV.out.2.2.1, g3, HCC.out.2.1], by rw [← HV.out.2.2.2, g4, HCC.out.2.2]⟩
              subst g2
              subst g3
              subst g4
              go_upto_region 18 with fail
              clear d1 d2 d3 q1 q2 q3
              have HAG2 : Hid (agree (l.getD 0 []) (l.getD i [])) := by
                have h9 := of_eq_true hag
                rw [HYE.out.1] at h9
                exact h9
              clear hag
              obtain ⟨bv, hbv⟩ : ∃ bv, bv = (l.take i).any fun y => numB y == a1 := ⟨_, rfl⟩
              have HBV := Lib.hid hbv
              have hnC : a1 < a2 := HB.out.1
              have hnCi : (a1 : Int) < (a2 : Int) := by omega
              have t1 := (HT.out.cell hnC).1
              rw [← hbv] at t1
              have d0 := blk_cell HD.out 0
              simp at d0
              clear hbv
              cases bv
              rotate_left
              · go_upto_region 19 with fail
                clear d0 t1
                have hb := HRB.out
                have z0 := blk_cell hb 0
                have z1 := blk_cell hb 1
                have z2 := blk_cell hb 2
                have z3 := blk_cell hb 3
                have f0 := blk_frozen hb 0
                have f1 := blk_frozen hb 1
                have f2 := blk_frozen hb 2
                have f3 := blk_frozen hb 3
                simp at z0 z1 z2 z3
                go_wp2_with fail
                have hb9 := blk_set (blk_set (blk_set (blk_set hb 0 (.int .i64 0)) 1 (.int .i64 0)) 2 (.int .u64 0)) 3 (.int .u64 0)
                have hk9 : Keeps (fun k => w.heap.size ≤ k) w (((((w3).setCell ⟨gr, 0, none⟩ (.int .i64 0)).setCell ⟨gr, 1, none⟩ (.int .i64 0)).setCell ⟨gr, 2, none⟩ (.int .u64 0)).setCell ⟨gr, 3, none⟩ (.int .u64 0)) := (((HKR.out.setCell (p := ⟨gr, 0, none⟩) (fun _ => HGR.out) _).setCell (p := ⟨gr, 1, none⟩) (fun _ => HGR.out) _).setCell (p := ⟨gr, 2, none⟩) (fun _ => HGR.out) _).setCell (p := ⟨gr, 3, none⟩) (fun _ => HGR.out) _
                generalize ((((w3).setCell ⟨gr, 0, none⟩ (.int .i64 0)).setCell ⟨gr, 1, none⟩ (.int .i64 0)).setCell ⟨gr, 2, none⟩ (.int .u64 0)).setCell ⟨gr, 3, none⟩ (.int .u64 0) = w9 at *
                clear z0 z1 z2 z3 f0 f1 f2 f3 hb
                have y0 := blk_cell hb9 0
                have y1 := blk_cell hb9 1
                have y2 := blk_cell hb9 2
                have y3 := blk_cell hb9 3
                simp at y0 y1 y2 y3
                have hld : (loadVar 56 ⟨gr, 0, none⟩).run Try.prog w9 = .ok (.agg #[.int .i64 0, .int .i64 0, .int .u64 0, .int .u64 0]) w9 := by go_simp
                refine bodyPost_ret (v := .tuple #[.slice none 0 0, .slice none 0 0, .agg #[.int .i64 0, .int .i64 0, .int .u64 0, .int .u64 0], .int .i64 (30 : Nat)]) ?_ rfl ?_
                · rw [results_ttct rfl]
                  simp [asAddr, Result.andThen, hld]
                · rw [HPO.out]
                  have hse : scanE l = 30 := by
                    have h9 : stepE l i = 30 := by
                      unfold stepE
                      rw [if_neg (by rw [← HYE.out.1, ← HE.out]; simp), if_neg (fun h => h HAG2.out)]
                      refine if_pos ?_
                      obtain ⟨y', hy1, hy2⟩ := List.any_eq_true.1 HBV.out.symm
                      obtain ⟨j, hj, e9⟩ := mem_at.1 hy1
                      rw [List.length_take] at hj
                      refine ⟨j, by omega, ?_⟩
                      have h10 : (l.take i).getD j [] = l.getD j [] := by first | omega | simp [List.getD_eq_getElem?_getD, List.getElem?_take, show j < i by omega]
                      rw [← h10, e9, ← HYE.out.1, ← HV.out.1]
                      simpa using hy2
                    rw [scanE_at (by have := HN0.out; omega) HST.out (by rw [h9]; decide), h9]

                  exact ⟨Keeps.trans hk9 (Keeps.refl (fun _ => False) _) (fun _ _ h => h.elim) |>.mono (fun k hk h => absurd h (by omega)), fun _ => by rw [hse], fun h => absurd (hse.symm.trans h) (by decide)⟩
              · go_upto_region 20 with fail
                have hts := HT.out.set a1 hnC (.bool true)
                have hkT : Keeps (fun k => k = gt) w3 ((w3).setCell ⟨gt, a1, none⟩ (.bool true)) := Keeps.setCell (S := fun k => k = gt) (Keeps.refl _ w3) (p := ⟨gt, a1, none⟩) (fun _ => rfl) _
                have tf := (HT.out.cell hnC).2
                go_upto_region 21 with fail
                generalize (w3).setCell ⟨gt, a1, none⟩ (.bool true) = w6 at *
                have HT6 := Lib.hid hts
                have HO6 := Lib.hid (HO.out.keep hkT (fun h => HNE.out.1 h))
                have HD6 := Lib.hid (block_keep HD.out hkT (fun h => HNE.out.2.1 h))
                have HF6 := Lib.hid (block_keep HF.out hkT (fun h => HNE.out.2.2.1 h))
                have HR6 := Lib.hid (block_keep HRB.out hkT (fun h => HNE.out.2.2.2.1 h))
                have HKR6 : Hid (Keeps (fun k => w.heap.size ≤ k) w w6) := Keeps.trans HKR.out hkT fun k hk h => by have h : k = gt := h; rw [h]; exact HGT.out.2
                clear hkT hts t1 tf HT HO HD HF HRB HKR d0
                refine wp_region_seq (by kernel_rfl) (by kernel_rfl) ?_
                have d0 := blk_cell HD6.out 0
                simp at d0
                have hl6 := ckp HCL.out HKR6.out (fun h9 => by have := World.block_lt_of_cell? w _ HCL.out; simp only at h9 this; omega)
                have of6 := (HO6.out.cell hnC).2
                have oc6 := (HO6.out.cell hnC).1
                obtain ⟨As, hAs⟩ : ∃ As, As = Nums.off A' c' 24 := ⟨_, rfl⟩
                have hsl : ∀ w : World, (Instr.slice 24 (.slice A' m c') (some (.int .i64 24)) none none).run Try.prog w = .ok (.slice As (m - 24) (c' - 24)) w := fun w => by
                  have h9 := run_post (P := Try.prog) (t := 24) Try.underlying24 rfl rfl A' m c' 24 H24.out w
                  rw [hAs]; exact h9
                have hNS : Nums .u8 w As (m - 24) (c' - 24) (y.drop 24) := by rw [hAs]; exact HYW.out.drop 24 H24.out
                have HNS := Lib.hid hNS
                clear hAs hNS
                have d0d : w6.drew.cell? ⟨gp, 0, none⟩ = some (.int .i64 (a1 : Nat)) := d0
                have l6d : w6.drew.cell? ⟨b, o + i, none⟩ = some (.slice A' m c') := hl6
                have hos := HO6.out.set a1 hnC (.slice As (m - 24) (c' - 24))
                have hkO : Keeps (fun k => k = go) w6 ((w6.drew).setCell ⟨go, a1, none⟩ (.slice As (m - 24) (c' - 24))) := Keeps.setCell (S := fun k => k = go) ((Keeps.refl _ w6).drew) (p := ⟨go, a1, none⟩) (fun _ => rfl) _
                have hos2 : FunAt ((w6.drew).setCell ⟨go, a1, none⟩ (.slice As (m - 24) (c' - 24))) go 24 a2 (fun j => if j = a1 then .slice As (m - 24) (c' - 24) else G j) := hos
                have of6d : w6.drew.frozen? ⟨go, a1, none⟩ = false := of6
                have oc6d : w6.drew.cell? ⟨go, a1, none⟩ = some (G a1) := oc6
                clear hos hl6 of6 oc6 d0
                have HKR7 : Hid (Keeps (fun k => w.heap.size ≤ k) w ((w6.drew).setCell ⟨go, a1, none⟩ (.slice As (m - 24) (c' - 24)))) := Keeps.trans HKR6.out hkO fun k hk h => by have h : k = go := h; rw [h]; exact HGT.out.1
                have HT7 := Lib.hid (HT6.out.keep hkO (fun h => HNE.out.1 h.symm))
                have HF7 := Lib.hid (block_keep HF6.out hkO (fun h => HNE.out.2.2.2.2.1 h))
                have HR7 := Lib.hid (block_keep HR6.out hkO (fun h => HNE.out.2.2.2.2.2 h))
                have HO7 := Lib.hid hos2
                clear hkO hos2 HKR6 HT6 HF6 HR6 HO6 HD6
                go_wp2_with fail
                refine ⟨by kernel_rfl, ?_⟩
                go_wp2_with fail
                have hx : l[i]? = some y := by rw [HYE.out.1, List.getD_eq_getElem?_getD, List.getElem?_eq_getElem (by have := HN0.out.2; omega)]; rfl
                have hTT : (fun j => if j = a1 then Value.bool true else Value.bool ((l.take i).any fun y => numB y == j)) = fun k => Value.bool ((l.take (i + 1)).any fun y => numB y == k) := by
                  funext k
                  rw [List.take_add_one, hx, List.any_append, HV.out.1]
                  by_cases hk : k = numB y
                  · simp [hk]
                  · have hk2 : ¬ numB y = k := fun h => hk h.symm
                    simp [hk, hk2]
                have hT8 := HT7.out
                rw [hTT] at hT8
                have hst9 : stepE l i = 0 := by
                  unfold stepE
                  rw [if_neg (by rw [← HYE.out.1, ← HE.out]; simp), if_neg (fun h => h HAG2.out)]
                  refine if_neg ?_
                  rintro ⟨q, hq, e9⟩
                  have h8 := HBV.out
                  have h10 : ((l.take i).any fun y => numB y == a1) = true := List.any_eq_true.2 ⟨l.getD q [], mem_at.2 ⟨q, by rw [List.length_take]; have := HN0.out.2; omega, by first | omega | simp [List.getD_eq_getElem?_getD, List.getElem?_take, hq]⟩, by rw [e9, HV.out.1, HYE.out.1]; simp⟩
                  rw [h10] at h8
                  cases h8
                refine ⟨⟨i + 1, by omega, by first | rfl | go_num, fun j hj => ?_, HKR7.out, HR7.out, .inr ⟨go, gt, f1v, _, by omega, rfl, rfl, HF7.out, HO7.out, hT8, HGO.out, fun j hj => ?_⟩⟩, ?_⟩
                · by_cases hji : j < i
                  · exact HST.out j hji
                  · obtain rfl : j = i := by omega
                    exact hst9
                · by_cases hji : j < i
                  · obtain ⟨A9, c9, q1, q2⟩ := HGG.out j hji
                    refine ⟨A9, c9, ?_, q2⟩
                    have hne : ¬ numB (l.getD j []) = a1 := fun e => by
                      have h8 := HBV.out
                      have h10 : ((l.take i).any fun y => numB y == a1) = true := List.any_eq_true.2 ⟨l.getD j [], mem_at.2 ⟨j, by rw [List.length_take]; have := HN0.out.2; omega, by first | omega | simp [List.getD_eq_getElem?_getD, List.getElem?_take, hji]⟩, by rw [e]; simp⟩
                      rw [h10] at h8
                      cases h8
                    simp only [if_neg hne]
                    exact q1
                  · obtain rfl : j = i := by omega
                    rw [← HYE.out.1, ← HYE.out.2.1]
                    refine ⟨As, c' - 24, ?_, HNS.out⟩
                    rw [if_pos HV.out.1.symm]
                · simp [intOf]; omega
      · obtain rfl : i = n := by omega
        rcases HREL.out with ⟨hi0, _⟩ | ⟨go, gt, f1v, G, hi0, hvo, hvt, hf0, ho0, ht0, hgg, hall⟩
        · have := HN0.out; omega
        · subst hvo
          subst hvt
          have hti : l.take i = l := List.take_of_length_le (by have := HN0.out; omega)
          rw [hti] at ht0
          have hS0 : scanE l = 0 := scanE_end (fun e => by have := HN0.out; rw [e] at this; simp at this; omega) (fun j hj => HST.out j (by have := HN0.out.2; omega))
          have HS0 := Lib.hid hS0
          have HFF := Lib.hid (And.intro hf0 (And.intro ho0 (And.intro ht0 (And.intro hgg hall))))
          have hwx : Keeps (fun k => k = gr) wr wr.drew := (Keeps.refl _ wr).drew
          clear hi0 hti hS0 hall hgg ho0 ht0 HREL hf0
          go_upto_region 22 with fail
          refine wp_region_seq (by kernel_rfl) (by kernel_rfl) ?_
          have HF9 : Hid (wr.drew.heap[gf]? = some (.cells #[.int .i64 (f1v : Nat), .int .i64 (C : Nat), .int .u64 (al : Nat), .int .u64 (su : Nat)] 56 (0, 0))) := HFF.out.1
          have HR9 : Hid (wr.drew.heap[gr]? = some (.cells #[.int .i64 0, .int .i64 0, .int .u64 0, .int .u64 0] 56 (0, 0))) := HRB.out
          have HO9 : Hid (FunAt wr.drew go 24 C G) := HFF.out.2.1
          have HT9 : Hid (FunAt wr.drew gt 4 C (fun k => .bool (l.any fun y => numB y == k))) := HFF.out.2.2.1
          have HKR9 : Hid (Keeps (fun k => w.heap.size ≤ k) w wr.drew) := HKR.out.drew
          clear hwx
          generalize wr.drew = wd at *
          have q0 := blk_cell HF9.out 0
          have q1 := blk_cell HF9.out 1
          have q2 := blk_cell HF9.out 2
          have q3 := blk_cell HF9.out 3
          have z0 := blk_cell HR9.out 0
          have z1 := blk_cell HR9.out 1
          have z2 := blk_cell HR9.out 2
          have z3 := blk_cell HR9.out 3
          have f0 := blk_frozen HR9.out 0
          have f1 := blk_frozen HR9.out 1
          have f2 := blk_frozen HR9.out 2
          have f3 := blk_frozen HR9.out 3
          simp at q0 q1 q2 q3 z0 z1 z2 z3
          go_wp2_with fail
          refine ⟨by kernel_rfl, ?_⟩
          go_wp2_with fail
          have hb9 := blk_set (blk_set (blk_set (blk_set HR9.out 0 (.int .i64 (f1v : Nat))) 1 (.int .i64 (C : Nat))) 2 (.int .u64 (al : Nat))) 3 (.int .u64 (su : Nat))
          have hk9 : Keeps (fun k => k = gr) wd ((((wd.setCell ⟨gr, 0, none⟩ (.int .i64 (f1v : Nat))).setCell ⟨gr, 1, none⟩ (.int .i64 (C : Nat))).setCell ⟨gr, 2, none⟩ (.int .u64 (al : Nat))).setCell ⟨gr, 3, none⟩ (.int .u64 (su : Nat))) := Keeps.setCell (S := fun k => k = gr) (Keeps.setCell (S := fun k => k = gr) (Keeps.setCell (S := fun k => k = gr) (Keeps.setCell (S := fun k => k = gr) (Keeps.refl _ wd) (p := ⟨gr, 0, none⟩) (fun _ => rfl) _) (p := ⟨gr, 1, none⟩) (fun _ => rfl) _) (p := ⟨gr, 2, none⟩) (fun _ => rfl) _) (p := ⟨gr, 3, none⟩) (fun _ => rfl) _
          generalize (((wd.setCell ⟨gr, 0, none⟩ (.int .i64 (f1v : Nat))).setCell ⟨gr, 1, none⟩ (.int .i64 (C : Nat))).setCell ⟨gr, 2, none⟩ (.int .u64 (al : Nat))).setCell ⟨gr, 3, none⟩ (.int .u64 (su : Nat)) = w9 at *
          clear q0 q1 q2 q3 z0 z1 z2 z3 f0 f1 f2 f3
          have y0 := blk_cell hb9 0
          have y1 := blk_cell hb9 1
          have y2 := blk_cell hb9 2
          have y3 := blk_cell hb9 3
          simp at y0 y1 y2 y3
          have hld : (loadVar 56 ⟨gr, 0, none⟩).run Try.prog w9 = .ok (.agg #[.int .i64 (f1v : Nat), .int .i64 (C : Nat), .int .u64 (al : Nat), .int .u64 (su : Nat)]) w9 := by go_simp
          refine bodyPost_ret (v := .tuple #[.slice (some ⟨go, 0, none⟩) C C, .slice (some ⟨gt, 0, none⟩) C C, .agg #[.int .i64 (f1v : Nat), .int .i64 (C : Nat), .int .u64 (al : Nat), .int .u64 (su : Nat)], .int .i64 0]) ?_ rfl ?_
          · rw [results_ttct rfl]
            simp [asAddr, Result.andThen, hld]
          · rw [HPO.out]
            have hkw : Grow w w9 := Keeps.trans HKR9.out hk9 (fun k hk h => by have h : k = gr := h; have := HGE.out; omega) |>.mono (fun k hk h => absurd h (by omega))
            refine ⟨hkw, fun h => absurd HS0.out h, fun _ => ⟨go, gt, f1v, G, by rw [← HCC.out.1, ← HCC.out.2.1, ← HCC.out.2.2], ?_, ?_, fun j hj => ?_⟩⟩
            · rw [← HCC.out.1]; exact HO9.out.keep hk9 (fun h => by have := HGE.out; have := HFF.out.2.2.2.1; omega)
            · rw [← HCC.out.1]; exact HT9.out.keep hk9 (fun h => by have := HGE.out; have := HFF.out.2.2.2.1; omega)
            · obtain ⟨A9, c9, e1, e2⟩ := HFF.out.2.2.2.2 j hj
              exact ⟨A9, c9, e1, e2.grow hkw⟩
end Go.Proofs.Ytnjdhkaabpmahaa
