/- lzma2: the next chunk, the program's. -/
import Derived.Test.YtoeapobpdfidkaaSzB
import Derived.Test.YtoeapobpdfidkaaOfP
namespace Go.Proofs.Ytoeapobpdfidkaa
open Go.RowKit
set_option linter.unusedVariables false
set_option linter.unusedSimpArgs false

/-- A number of two bytes, and one. -/
def n2 (xs : List Int) (j : Nat) : Nat := bytN xs j * 256 + bytN xs (j + 1) + 1
/-- What a chunk comes to: an error, its kind, its size, the place behind it. -/
structure Chk where
  er : Nat
  k : Nat
  N : Nat
  nx : Nat
def chunkP (xs : List Int) (n a : Nat) (f p : Bool) : Chk :=
  if n ≤ a then ⟨10, 0, 0, 0⟩
  else if oddK (bytN xs a) f p = true then ⟨11, 0, 0, 0⟩
  else if bytN xs a = 0 then ⟨0, 0, 0, a + 1⟩
  else if n < a + 3 then ⟨10, 0, 0, 0⟩
  else if bytN xs a < 128 then (if n < a + 3 + n2 xs (a + 1) then ⟨10, 0, 0, 0⟩ else ⟨0, bytN xs a, n2 xs (a + 1), a + 3 + n2 xs (a + 1)⟩)
  else if n < a + 5 then ⟨10, 0, 0, 0⟩
  else if bytN xs a < 192 then (if n < a + 5 + n2 xs (a + 3) then ⟨10, 0, 0, 0⟩ else ⟨0, bytN xs a, n2 xs (a + 1) + bytN xs a % 32 * 65536, a + 5 + n2 xs (a + 3)⟩)
  else if n ≤ a + 5 then ⟨10, 0, 0, 0⟩
  else if okP (bytN xs (a + 5)) = false then ⟨11, 0, 0, 0⟩
  else if n < a + 6 + n2 xs (a + 3) then ⟨10, 0, 0, 0⟩
  else ⟨0, bytN xs a, n2 xs (a + 1) + bytN xs a % 32 * 65536, a + 6 + n2 xs (a + 3)⟩
/-- The state behind a chunk. -/
def firstP (r : Chk) (f : Bool) : Bool := if r.k = 0 then f else false
def propsP (r : Chk) (p : Bool) : Bool := if r.k = 0 then p else (decide (192 ≤ r.k) || (p && !decide (r.k = 1)))
def NextPost (w : World) (g n c : Nat) (A : Option Addr) (xs : List Int) (f p : Bool) (r : Chk) (e : Ending) (w' : World) : Prop :=
  ∃ (k' N' x y z : Nat) (Ab : Option Addr) (nb cb : Nat), e = .returned (.tuple #[.agg #[.int .u8 (k' : Nat), .int .i64 (N' : Nat), .int .i64 (x : Nat), .int .i64 (y : Nat), .int .i64 (z : Nat), .slice Ab nb cb], .int .i64 (r.er : Nat)]) ∧ Keeps (fun k => k = g) w w' ∧ (r.er = 0 → k' = r.k ∧ N' = r.N ∧ WAt w' g A n c xs r.nx (firstP r f) (propsP r p))
theorem blk6 {w : World} {g : Nat} {t : TypeId} {a b c d e f : Value} (h : w.heap[g]? = some (.cells #[a, b, c, d, e, f] t (0, 0))) (a' b' c' d' e' f' : Value) :
    ((((((w.setCell ⟨g, 0, none⟩ a').setCell ⟨g, 1, none⟩ b').setCell ⟨g, 2, none⟩ c').setCell ⟨g, 3, none⟩ d').setCell ⟨g, 4, none⟩ e').setCell ⟨g, 5, none⟩ f').heap[g]? = some (.cells #[a', b', c', d', e', f'] t (0, 0)) := by
  have h9 := blk_set (blk_set (blk_set (blk_set (blk_set (blk_set h 0 a') 1 b') 2 c') 3 d') 4 e') 5 f'
  simpa using h9
theorem keep6 {S : Nat → Prop} {w0 w : World} {g : Nat} (k : Keeps S w0 w) (hg : g < w0.heap.size → S g) (a' b' c' d' e' f' : Value) :
    Keeps S w0 ((((((w.setCell ⟨g, 0, none⟩ a').setCell ⟨g, 1, none⟩ b').setCell ⟨g, 2, none⟩ c').setCell ⟨g, 3, none⟩ d').setCell ⟨g, 4, none⟩ e').setCell ⟨g, 5, none⟩ f') :=
  (((((k.setCell (p := ⟨g, 0, none⟩) hg _).setCell (p := ⟨g, 1, none⟩) hg _).setCell (p := ⟨g, 2, none⟩) hg _).setCell (p := ⟨g, 3, none⟩) hg _).setCell (p := ⟨g, 4, none⟩) hg _).setCell (p := ⟨g, 5, none⟩) hg _
theorem WAt.far {w : World} {g n c a : Nat} {A : Option Addr} {xs : List Int} {f p : Bool} (h : WAt w g A n c xs a f p) {gC : Nat} (hC : g < gC) {w' : World} (k : Keeps (fun k => k = gC) w w') : WAt w' g A n c xs a f p :=
  h.keep k fun b hb h9 => by have h9 : b = gC := h9; omega
theorem WAt.head {w : World} {g n c a : Nat} {A : Option Addr} {xs : List Int} {f p : Bool} (h : WAt w g A n c xs a f p) (j : Nat) (hj : j < n) : ∃ b o, Nums.off A c j = some ⟨b, o, none⟩ ∧ b < g ∧ w.cell? ⟨b, o, none⟩ = some (.int .u8 (bytN xs j : Nat)) := by
  have h1 := (h.nums.drop j (by omega)).take 1 (by omega)
  obtain ⟨b, o, e, hc⟩ := h1.at_ (by omega)
  have h2 := hc 0 (by omega)
  have h3 : (((xs.drop j).take 1).getD 0 0 : Int) = (bytN xs j : Nat) := by
    rw [← (bytN_is h.nums j).1]
    simp [List.getD_eq_getElem?_getD]
  rw [h3] at h2
  exact ⟨b, o, e, off_le h.ne _ e, h2⟩
/-- The bytes, or none: one form. -/
theorem wBytes_one (w : World) (g n c a m : Nat) (A : Option Addr) (xs : List Int) (f p : Bool) (h : WAt w g A n c xs a f p) (hm : m ≤ 1048576) :
    Calls Try.prog 72 #[.pointer (some ⟨g, 0, none⟩), .int .i64 (m : Nat)] w fun e w' => ∃ (A' : Option Addr) (n' c' er ax : Nat), e = .returned (.tuple #[.slice A' n' c', .int .i64 (er : Nat)]) ∧ WAt w' g A n c xs ax f p ∧ Keeps (fun k => k = g) w w' ∧ ((er = 10 ∧ n < a + m) ∨ (er = 0 ∧ a + m ≤ n ∧ ax = a + m ∧ A' = Nums.off A c a ∧ n' = m)) :=
  (wBytes_is w g n c a m A xs f p h hm).mono (by
    rintro e w' (⟨h1, rfl, h2⟩ | ⟨h1, rfl, h2, h3⟩)
    · exact ⟨none, 0, 0, 10, a, rfl, h.grow h2, gk h2, .inl ⟨rfl, by omega⟩⟩
    · exact ⟨_, _, _, 0, a + m, rfl, h2, h3, .inr ⟨rfl, h1, rfl, rfl, rfl⟩⟩)
theorem wNumber_one (w : World) (g n c a : Nat) (A : Option Addr) (xs : List Int) (f p : Bool) (h : WAt w g A n c xs a f p) :
    Calls Try.prog 74 #[.pointer (some ⟨g, 0, none⟩)] w fun e w' => ∃ (v er ax : Nat), e = .returned (.tuple #[.int .i64 (v : Nat), .int .i64 (er : Nat)]) ∧ WAt w' g A n c xs ax f p ∧ Keeps (fun k => k = g) w w' ∧ v ≤ 65536 ∧ ((er = 10 ∧ n < a + 2) ∨ (er = 0 ∧ a + 2 ≤ n ∧ ax = a + 2 ∧ v = n2 xs a)) :=
  (wNumber_is w g n c a A xs f p h).mono (by
    rintro e w' (⟨h1, rfl, h2⟩ | ⟨h1, rfl, h2, h3⟩)
    · exact ⟨0, 10, a, rfl, h.grow h2, gk h2, by omega, .inl ⟨rfl, by omega⟩⟩
    · have q0 := (bytN_is h.nums a).2
      have q1 := (bytN_is h.nums (a + 1)).2
      exact ⟨_, 0, a + 2, rfl, h2, h3, by omega, .inr ⟨rfl, h1, rfl, rfl⟩⟩)
theorem and31 (k : Nat) (hk : k < 256) : bits .and .u8 (k : Int) 31 = ((k % 32 : Nat) : Int) :=
  bits_mask .u8 8 (by decide) (fun m a b => by rw [IntKind.wrap_u8]; omega) 5 (by decide) _ (by omega) (by omega)
set_option maxRecDepth 8000 in
set_option maxHeartbeats 8000000 in
theorem wNext_is (w : World) (g n c a : Nat) (A : Option Addr) (xs : List Int) (f p : Bool) (h : WAt w g A n c xs a f p) :
    Calls Try.prog 49 #[.pointer (some ⟨g, 0, none⟩), .int .i64 1099511627776] w fun e w' => NextPost w g n c A xs f p (chunkP xs n a f p) e w' := by
  obtain ⟨r, hr⟩ : ∃ r, r = chunkP xs n a f p := ⟨_, rfl⟩
  have HRR := Lib.hid hr
  rw [← hr]
  obtain ⟨POST, hPOST⟩ : ∃ POST : Ending → World → Prop, POST = fun e w' => NextPost w g n c A xs f p r e w' := ⟨_, rfl⟩
  have HPO := Lib.hid hPOST
  show Calls _ _ _ _ fun e w' => (fun e w' => NextPost w g n c A xs f p r e w') e w'
  rw [← hPOST]
  have HW0 := Lib.hid h
  have HGL := Lib.hid (blk_lt h.blk)
  have HNB := Lib.hid (fun j => (bytN_is h.nums j).2)
  have HLE := Lib.hid (And.intro h.le h.small)
  clear hr hPOST h
  go_enter Try.func49, Try.ntmps49
  go_wp2_with fail
  have hga := heap_alloc_new w (.cells #[Value.int .u8 0, Value.int .i64 0, Value.int .i64 0, Value.int .i64 0, Value.int .i64 0, Value.slice none 0 0] 88)
  have HK1 : Hid (Grow w (w.alloc (.cells #[Value.int .u8 0, Value.int .i64 0, Value.int .i64 0, Value.int .i64 0, Value.int .i64 0, Value.slice none 0 0] 88))) := (Keeps.refl _ w).alloc _
  have HC1 := Lib.hid hga
  clear hga
  generalize w.alloc (.cells #[Value.int .u8 0, Value.int .i64 0, Value.int .i64 0, Value.int .i64 0, Value.int .i64 0, Value.slice none 0 0] 88) = w1 at *
  obtain ⟨gC, hgC⟩ : ∃ gC, gC = w.heap.size := ⟨_, rfl⟩
  rw [← hgC] at HC1 HGL ⊢
  have HGC : Hid (g < gC ∧ gC = w.heap.size) := ⟨HGL.out, hgC⟩
  clear hgC HGL
  have HW1 := Lib.hid (HW0.out.grow HK1.out)
  have HBY := Lib.hid (wBytes_one w1 g n c a 1 A xs f p HW1.out (by decide))
  refine HBY.out.mono ?_
  rintro x w2 ⟨A2, n2', c2, er, a1, rfl, hw2, hk2, h2⟩
  have HC : Hid (w2.heap[gC]? = some (.cells #[Value.int .u8 0, Value.int .i64 0, Value.int .i64 0, Value.int .i64 0, Value.int .i64 0, Value.slice none 0 0] 88 (0, 0))) := block_keep HC1.out hk2 (fun h9 => by have h9 : gC = g := h9; have := HGC.out.1; omega)
  have HK : Hid (Keeps (fun k => k = g) w w2) := Keeps.trans (gk HK1.out) hk2 fun _ _ h => h
  have HW := Lib.hid hw2
  clear hw2 hk2 HBY HK1 HC1 HW1
  rcases h2 with ⟨rfl, hn2⟩ | ⟨rfl, hn2, ha1, hA2, rfl⟩
  · have HN := Lib.hid hn2
    clear hn2
    have d0 := blk_cell HC.out 0
    have f0 := blk_frozen HC.out 0
    have d1 := blk_cell HC.out 1
    have f1 := blk_frozen HC.out 1
    have d2 := blk_cell HC.out 2
    have f2 := blk_frozen HC.out 2
    have d3 := blk_cell HC.out 3
    have f3 := blk_frozen HC.out 3
    have d4 := blk_cell HC.out 4
    have f4 := blk_frozen HC.out 4
    have d5 := blk_cell HC.out 5
    have f5 := blk_frozen HC.out 5
    simp at d0 d1 d2 d3 d4 d5
    go_wp2_with fail
    have HR : Hid (r = ⟨10, 0, 0, 0⟩) := by show _ = _; rw [HRR.out]; unfold chunkP; rw [if_pos (by have := HN.out; omega)]
    have hb9 := blk6 HC.out (Value.int .u8 0) (Value.int .i64 0) (Value.int .i64 0) (Value.int .i64 0) (Value.int .i64 0) (Value.slice none 0 0)
    have hk9 : Keeps (fun k => k = gC) w2 _ := keep6 (Keeps.refl (fun k => k = gC) w2) (g := gC) (fun _ => rfl) (Value.int .u8 0) (Value.int .i64 0) (Value.int .i64 0) (Value.int .i64 0) (Value.int .i64 0) (Value.slice none 0 0)
    have hk8 : Keeps (fun k => k = g) w _ := keep6 HK.out (g := gC) (fun h9 => by have := HGC.out.2; omega) (Value.int .u8 0) (Value.int .i64 0) (Value.int .i64 0) (Value.int .i64 0) (Value.int .i64 0) (Value.slice none 0 0)
    clear d0 d1 d2 d3 d4 d5 f0 f1 f2 f3 f4 f5
    generalize ((((((w2.setCell ⟨gC, 0, none⟩ (Value.int .u8 0)).setCell ⟨gC, 1, none⟩ (Value.int .i64 0)).setCell ⟨gC, 2, none⟩ (Value.int .i64 0)).setCell ⟨gC, 3, none⟩ (Value.int .i64 0)).setCell ⟨gC, 4, none⟩ (Value.int .i64 0)).setCell ⟨gC, 5, none⟩ (Value.slice none 0 0)) = w9 at *
    have HW9 := Lib.hid (HW.out.far HGC.out.1 hk9)
    have y0 := blk_cell hb9 0
    have y1 := blk_cell hb9 1
    have y2 := blk_cell hb9 2
    have y3 := blk_cell hb9 3
    have y4 := blk_cell hb9 4
    have y5 := blk_cell hb9 5
    simp at y0 y1 y2 y3 y4 y5
    have hld : (loadVar 88 ⟨gC, 0, none⟩).run Try.prog w9 = .ok (.agg #[Value.int .u8 0, Value.int .i64 0, Value.int .i64 0, Value.int .i64 0, Value.int .i64 0, Value.slice none 0 0]) w9 := by go_simp
    have HLD := Lib.hid hld
    clear hld y0 y1 y2 y3 y4 y5
    refine bodyPost_ret (v := .tuple #[.agg #[Value.int .u8 0, Value.int .i64 0, Value.int .i64 0, Value.int .i64 0, Value.int .i64 0, Value.slice none 0 0], .int .i64 (10 : Nat)]) ?_ rfl ?_
    · rw [results_cell_tmp rfl]
      have hld := HLD.out
      simp [asAddr, Result.andThen, hld]
    · show POST _ _
      rw [HPO.out]
      exact ⟨0, 0, 0, 0, 0, none, 0, 0, by rw [HR.out] <;> rfl, hk8, by rw [HR.out]; intro h9; cases h9⟩
  · have HN : Hid (a1 = a + 1 ∧ a < n) := ⟨ha1, by omega⟩
    obtain ⟨b, o, eA, hbg, hcl⟩ := HW.out.head a (by omega)
    rw [eA] at hA2
    subst hA2
    have HB := Lib.hid (And.intro eA hbg)
    obtain ⟨k, hk⟩ : ∃ k, k = bytN xs a := ⟨_, rfl⟩
    have hkb : k < 256 := by rw [hk]; exact HNB.out a
    rw [← hk] at hcl
    have HKE := Lib.hid hk
    have HOD := Lib.hid (wOdd_is w2 g n c a1 A xs f p HW.out k hkb)
    obtain ⟨od, hod⟩ : ∃ od, od = oddK k f p := ⟨_, rfl⟩
    rw [← hod] at HOD
    have hr := HRR.out
    unfold chunkP at hr
    rw [← hk, ← hod, if_neg (by omega)] at hr
    replace HRR := Lib.hid hr
    clear hr hn2 ha1 eA hbg hk hod
    go_wp2_with fail
    refine HOD.out.mono ?_
    rintro x w3 ⟨rfl, rfl⟩
    cases od
    · have hr := HRR.out
      rw [if_neg (by decide)] at hr
      replace HRR := Lib.hid hr
      clear hr
      by_cases hk0 : k = 0
      · have hr := HRR.out
        rw [if_pos hk0] at hr
        have HR := Lib.hid hr
        clear hr
        subst hk0
        have d0 := blk_cell HC.out 0
        have f0 := blk_frozen HC.out 0
        have d1 := blk_cell HC.out 1
        have f1 := blk_frozen HC.out 1
        have d2 := blk_cell HC.out 2
        have f2 := blk_frozen HC.out 2
        have d3 := blk_cell HC.out 3
        have f3 := blk_frozen HC.out 3
        have d4 := blk_cell HC.out 4
        have f4 := blk_frozen HC.out 4
        have d5 := blk_cell HC.out 5
        have f5 := blk_frozen HC.out 5
        simp at d0 d1 d2 d3 d4 d5
        go_wp2_with fail
        have hb9 := blk6 HC.out (Value.int .u8 0) (Value.int .i64 0) (Value.int .i64 0) (Value.int .i64 0) (Value.int .i64 0) (Value.slice none 0 0)
        have hk9 : Keeps (fun k => k = gC) w2 _ := keep6 (Keeps.refl (fun k => k = gC) w2) (g := gC) (fun _ => rfl) (Value.int .u8 0) (Value.int .i64 0) (Value.int .i64 0) (Value.int .i64 0) (Value.int .i64 0) (Value.slice none 0 0)
        have hk8 : Keeps (fun k => k = g) w _ := keep6 HK.out (g := gC) (fun h9 => by have := HGC.out.2; omega) (Value.int .u8 0) (Value.int .i64 0) (Value.int .i64 0) (Value.int .i64 0) (Value.int .i64 0) (Value.slice none 0 0)
        clear d0 d1 d2 d3 d4 d5 f0 f1 f2 f3 f4 f5
        generalize ((((((w2.setCell ⟨gC, 0, none⟩ (Value.int .u8 0)).setCell ⟨gC, 1, none⟩ (Value.int .i64 0)).setCell ⟨gC, 2, none⟩ (Value.int .i64 0)).setCell ⟨gC, 3, none⟩ (Value.int .i64 0)).setCell ⟨gC, 4, none⟩ (Value.int .i64 0)).setCell ⟨gC, 5, none⟩ (Value.slice none 0 0)) = w9 at *
        have HW9 := Lib.hid (HW.out.far HGC.out.1 hk9)
        have y0 := blk_cell hb9 0
        have y1 := blk_cell hb9 1
        have y2 := blk_cell hb9 2
        have y3 := blk_cell hb9 3
        have y4 := blk_cell hb9 4
        have y5 := blk_cell hb9 5
        simp at y0 y1 y2 y3 y4 y5
        have hld : (loadVar 88 ⟨gC, 0, none⟩).run Try.prog w9 = .ok (.agg #[Value.int .u8 0, Value.int .i64 0, Value.int .i64 0, Value.int .i64 0, Value.int .i64 0, Value.slice none 0 0]) w9 := by go_simp
        have HLD := Lib.hid hld
        clear hld y0 y1 y2 y3 y4 y5
        refine bodyPost_ret (v := .tuple #[.agg #[Value.int .u8 0, Value.int .i64 0, Value.int .i64 0, Value.int .i64 0, Value.int .i64 0, Value.slice none 0 0], .int .i64 (0 : Nat)]) ?_ rfl ?_
        · rw [results_cell_tmp rfl]
          have hld := HLD.out
          simp [asAddr, Result.andThen, hld]
        · show POST _ _
          rw [HPO.out]
          exact ⟨0, 0, 0, 0, 0, none, 0, 0, by rw [HR.out] <;> rfl, hk8, by rw [HR.out]; intro _; refine ⟨rfl, rfl, ?_⟩; show WAt _ _ _ _ _ _ (a + 1) f p; rw [← HN.out.1]; exact HW9.out⟩
      · have hr := HRR.out
        rw [if_neg hk0] at hr
        replace HRR := Lib.hid hr
        clear hr
        have hkz : decide ((k : Int) = 0) = false := decide_eq_false (by omega)
        have d0 := blk_cell HC.out 0
        have f0 := blk_frozen HC.out 0
        have d1 := blk_cell HC.out 1
        have f1 := blk_frozen HC.out 1
        have d2 := blk_cell HC.out 2
        have f2 := blk_frozen HC.out 2
        have d3 := blk_cell HC.out 3
        have f3 := blk_frozen HC.out 3
        have d4 := blk_cell HC.out 4
        have f4 := blk_frozen HC.out 4
        have d5 := blk_cell HC.out 5
        have f5 := blk_frozen HC.out 5
        simp at d0 d1 d2 d3 d4 d5
        go_wp2_with fail
        have hb9 := blk_set HC.out 0 (Value.int .u8 (k : Nat))
        simp at hb9
        have hk9 : Keeps (fun k => k = gC) w2 (w2.setCell ⟨gC, 0, none⟩ (Value.int .u8 (k : Nat))) := Keeps.setCell (S := fun k => k = gC) (Keeps.refl _ w2) (p := ⟨gC, 0, none⟩) (fun _ => rfl) _
        have hk8 : Keeps (fun k => k = g) w (w2.setCell ⟨gC, 0, none⟩ (Value.int .u8 (k : Nat))) := HK.out.setCell (p := ⟨gC, 0, none⟩) (fun h9 => by have := HGC.out.2; simp only at h9; omega) _
        clear d0 d1 d2 d3 d4 d5 f0 f1 f2 f3 f4 f5 HC HK
        generalize w2.setCell ⟨gC, 0, none⟩ (Value.int .u8 (k : Nat)) = w3 at *
        have HC : Hid (w3.heap[gC]? = some (.cells #[Value.int .u8 (k : Nat), Value.int .i64 0, Value.int .i64 0, Value.int .i64 0, Value.int .i64 0, Value.slice none 0 0] 88 (0, 0))) := hb9
        have HK := Lib.hid hk8
        replace HW := Lib.hid (HW.out.far HGC.out.1 hk9)
        clear hb9 hk9 hk8
        have HNU := Lib.hid (wNumber_one w3 g n c a1 A xs f p HW.out)
        refine HNU.out.mono ?_
        rintro x w4 ⟨v, er, a2, rfl, hw4, hk4, hvb, h4⟩
        have hb9 := block_keep HC.out hk4 (fun h9 => by have h9 : gC = g := h9; have := HGC.out.1; omega)
        have hk8 : Keeps (fun k => k = g) w w4 := Keeps.trans HK.out hk4 fun _ _ h => h
        clear HC HK HW
        have HC := Lib.hid hb9
        have HK := Lib.hid hk8
        have HW := Lib.hid hw4
        clear hb9 hk8 hw4 hk4
        have hvi : (v : Int) ≤ 65536 := by omega
        clear HNU
        rcases h4 with ⟨rfl, hn4⟩ | ⟨rfl, hn4, ha2, hv⟩
        · have hr := HRR.out
          rw [if_pos (by have := HN.out; omega)] at hr
          have HR := Lib.hid hr
          clear hr hn4
          have d0 := blk_cell HC.out 0
          have f0 := blk_frozen HC.out 0
          have d1 := blk_cell HC.out 1
          have f1 := blk_frozen HC.out 1
          have d2 := blk_cell HC.out 2
          have f2 := blk_frozen HC.out 2
          have d3 := blk_cell HC.out 3
          have f3 := blk_frozen HC.out 3
          have d4 := blk_cell HC.out 4
          have f4 := blk_frozen HC.out 4
          have d5 := blk_cell HC.out 5
          have f5 := blk_frozen HC.out 5
          simp at d0 d1 d2 d3 d4 d5
          go_upto_region 10 with fail
          have hb9 := blk_set HC.out 1 (Value.int .i64 (v : Nat))
          simp at hb9
          have hk9 : Keeps (fun k => k = gC) w4 (w4.setCell ⟨gC, 1, none⟩ (Value.int .i64 (v : Nat))) := Keeps.setCell (S := fun k => k = gC) (Keeps.refl _ w4) (p := ⟨gC, 1, none⟩) (fun _ => rfl) _
          have hk8 : Keeps (fun k => k = g) w (w4.setCell ⟨gC, 1, none⟩ (Value.int .i64 (v : Nat))) := HK.out.setCell (p := ⟨gC, 1, none⟩) (fun h9 => by have := HGC.out.2; simp only at h9; omega) _
          clear d0 d1 d2 d3 d4 d5 f0 f1 f2 f3 f4 f5 HC HK
          generalize w4.setCell ⟨gC, 1, none⟩ (Value.int .i64 (v : Nat)) = w5 at *
          have HC : Hid (w5.heap[gC]? = some (.cells #[Value.int .u8 (k : Nat), Value.int .i64 (v : Nat), Value.int .i64 0, Value.int .i64 0, Value.int .i64 0, Value.slice none 0 0] 88 (0, 0))) := hb9
          have HK := Lib.hid hk8
          replace HW := Lib.hid (HW.out.far HGC.out.1 hk9)
          clear hb9 hk9 hk8
          have d0 := blk_cell HC.out 0
          have f0 := blk_frozen HC.out 0
          have d1 := blk_cell HC.out 1
          have f1 := blk_frozen HC.out 1
          have d2 := blk_cell HC.out 2
          have f2 := blk_frozen HC.out 2
          have d3 := blk_cell HC.out 3
          have f3 := blk_frozen HC.out 3
          have d4 := blk_cell HC.out 4
          have f4 := blk_frozen HC.out 4
          have d5 := blk_cell HC.out 5
          have f5 := blk_frozen HC.out 5
          simp at d0 d1 d2 d3 d4 d5
          go_wp2_with fail
          have hb9 := blk6 HC.out (Value.int .u8 (k : Nat)) (Value.int .i64 (v : Nat)) (Value.int .i64 0) (Value.int .i64 0) (Value.int .i64 0) (Value.slice none 0 0)
          have hk9 : Keeps (fun k => k = gC) w5 _ := keep6 (Keeps.refl (fun k => k = gC) w5) (g := gC) (fun _ => rfl) (Value.int .u8 (k : Nat)) (Value.int .i64 (v : Nat)) (Value.int .i64 0) (Value.int .i64 0) (Value.int .i64 0) (Value.slice none 0 0)
          have hk8 : Keeps (fun k => k = g) w _ := keep6 HK.out (g := gC) (fun h9 => by have := HGC.out.2; omega) (Value.int .u8 (k : Nat)) (Value.int .i64 (v : Nat)) (Value.int .i64 0) (Value.int .i64 0) (Value.int .i64 0) (Value.slice none 0 0)
          clear d0 d1 d2 d3 d4 d5 f0 f1 f2 f3 f4 f5
          generalize ((((((w5.setCell ⟨gC, 0, none⟩ (Value.int .u8 (k : Nat))).setCell ⟨gC, 1, none⟩ (Value.int .i64 (v : Nat))).setCell ⟨gC, 2, none⟩ (Value.int .i64 0)).setCell ⟨gC, 3, none⟩ (Value.int .i64 0)).setCell ⟨gC, 4, none⟩ (Value.int .i64 0)).setCell ⟨gC, 5, none⟩ (Value.slice none 0 0)) = w9 at *
          have HW9 := Lib.hid (HW.out.far HGC.out.1 hk9)
          have y0 := blk_cell hb9 0
          have y1 := blk_cell hb9 1
          have y2 := blk_cell hb9 2
          have y3 := blk_cell hb9 3
          have y4 := blk_cell hb9 4
          have y5 := blk_cell hb9 5
          simp at y0 y1 y2 y3 y4 y5
          have hld : (loadVar 88 ⟨gC, 0, none⟩).run Try.prog w9 = .ok (.agg #[Value.int .u8 (k : Nat), Value.int .i64 (v : Nat), Value.int .i64 0, Value.int .i64 0, Value.int .i64 0, Value.slice none 0 0]) w9 := by go_simp
          have HLD := Lib.hid hld
          clear hld y0 y1 y2 y3 y4 y5
          refine bodyPost_ret (v := .tuple #[.agg #[Value.int .u8 (k : Nat), Value.int .i64 (v : Nat), Value.int .i64 0, Value.int .i64 0, Value.int .i64 0, Value.slice none 0 0], .int .i64 (10 : Nat)]) ?_ rfl ?_
          · rw [results_cell_tmp rfl]
            have hld := HLD.out
            simp [asAddr, Result.andThen, hld]
          · show POST _ _
            rw [HPO.out]
            exact ⟨k, v, 0, 0, 0, none, 0, 0, by rw [HR.out] <;> rfl, hk8, by rw [HR.out]; intro h9; cases h9⟩
        · have HN2 : Hid (a2 = a + 3 ∧ a + 3 ≤ n ∧ v = n2 xs (a + 1)) := by have h9 := HN.out; exact ⟨by omega, by omega, by rw [hv, h9.1]⟩
          have hr := HRR.out
          rw [if_neg (by have := HN2.out; omega), ← HN2.out.2.2, ← HN2.out.1] at hr
          replace HRR := Lib.hid hr
          clear hr hn4 ha2 hv
          have d0 := blk_cell HC.out 0
          have f0 := blk_frozen HC.out 0
          have d1 := blk_cell HC.out 1
          have f1 := blk_frozen HC.out 1
          have d2 := blk_cell HC.out 2
          have f2 := blk_frozen HC.out 2
          have d3 := blk_cell HC.out 3
          have f3 := blk_frozen HC.out 3
          have d4 := blk_cell HC.out 4
          have f4 := blk_frozen HC.out 4
          have d5 := blk_cell HC.out 5
          have f5 := blk_frozen HC.out 5
          simp at d0 d1 d2 d3 d4 d5
          go_upto_region 10 with fail
          have hb9 := blk_set HC.out 1 (Value.int .i64 (v : Nat))
          simp at hb9
          have hk9 : Keeps (fun k => k = gC) w4 (w4.setCell ⟨gC, 1, none⟩ (Value.int .i64 (v : Nat))) := Keeps.setCell (S := fun k => k = gC) (Keeps.refl _ w4) (p := ⟨gC, 1, none⟩) (fun _ => rfl) _
          have hk8 : Keeps (fun k => k = g) w (w4.setCell ⟨gC, 1, none⟩ (Value.int .i64 (v : Nat))) := HK.out.setCell (p := ⟨gC, 1, none⟩) (fun h9 => by have := HGC.out.2; simp only at h9; omega) _
          clear d0 d1 d2 d3 d4 d5 f0 f1 f2 f3 f4 f5 HC HK
          generalize w4.setCell ⟨gC, 1, none⟩ (Value.int .i64 (v : Nat)) = w5 at *
          have HC : Hid (w5.heap[gC]? = some (.cells #[Value.int .u8 (k : Nat), Value.int .i64 (v : Nat), Value.int .i64 0, Value.int .i64 0, Value.int .i64 0, Value.slice none 0 0] 88 (0, 0))) := hb9
          have HK := Lib.hid hk8
          replace HW := Lib.hid (HW.out.far HGC.out.1 hk9)
          clear hb9 hk9 hk8
          have d0 := blk_cell HC.out 0
          have f0 := blk_frozen HC.out 0
          have d1 := blk_cell HC.out 1
          have f1 := blk_frozen HC.out 1
          have d2 := blk_cell HC.out 2
          have f2 := blk_frozen HC.out 2
          have d3 := blk_cell HC.out 3
          have f3 := blk_frozen HC.out 3
          have d4 := blk_cell HC.out 4
          have f4 := blk_frozen HC.out 4
          have d5 := blk_cell HC.out 5
          have f5 := blk_frozen HC.out 5
          simp at d0 d1 d2 d3 d4 d5
          have hroom : decide ((1099511627776 : Int) < (v : Int)) = false := decide_eq_false (by omega)
          by_cases hk1 : k < 128
          · have q1 : decide ((128 : Int) ≤ (k : Int)) = false := decide_eq_false (by omega)
            have q2 : decide ((192 : Int) ≤ (k : Int)) = false := decide_eq_false (by omega)
            have hr := HRR.out
            rw [if_pos hk1] at hr
            replace HRR := Lib.hid hr
            clear hr
            go_wp2_with fail
            refine (wBytes_one w5 g n c a2 v A xs f p HW.out (by omega)).mono ?_
            rintro x w6 ⟨A9, n9, c9, er, a9, rfl, hw6, hk6, h6⟩
            clear d0 d1 d2 d3 d4 d5 f0 f1 f2 f3 f4 f5
            have hb9 := block_keep HC.out hk6 (fun h9 => by have h9 : gC = g := h9; have := HGC.out.1; omega)
            have hk8 : Keeps (fun k => k = g) w w6 := Keeps.trans HK.out hk6 fun _ _ h => h
            clear HC HK HW
            have HC := Lib.hid hb9
            have HK := Lib.hid hk8
            have HW := Lib.hid hw6
            clear hb9 hk8 hw6 hk6
            have HR : Hid (r = ⟨er, if er = 0 then k else 0, if er = 0 then v else 0, if er = 0 then a9 else 0⟩) := by
              show _ = _
              rw [HRR.out]
              rcases h6 with ⟨rfl, h6⟩ | ⟨rfl, h6, rfl, _⟩
              · rw [if_pos (by omega)] <;> rfl
              · rw [if_neg (by omega)] <;> rfl
            have her : (er : Int) = 0 ∨ (er : Int) = 10 := by omega
            clear h6
            have d0 := blk_cell HC.out 0
            have f0 := blk_frozen HC.out 0
            have d1 := blk_cell HC.out 1
            have f1 := blk_frozen HC.out 1
            have d2 := blk_cell HC.out 2
            have f2 := blk_frozen HC.out 2
            have d3 := blk_cell HC.out 3
            have f3 := blk_frozen HC.out 3
            have d4 := blk_cell HC.out 4
            have f4 := blk_frozen HC.out 4
            have d5 := blk_cell HC.out 5
            have f5 := blk_frozen HC.out 5
            simp at d0 d1 d2 d3 d4 d5
            go_upto_region 28 with fail
            have hb9 := blk_set HC.out 5 (Value.slice A9 n9 c9)
            simp at hb9
            have hk9 : Keeps (fun k => k = gC) w6 (w6.setCell ⟨gC, 5, none⟩ (Value.slice A9 n9 c9)) := Keeps.setCell (S := fun k => k = gC) (Keeps.refl _ w6) (p := ⟨gC, 5, none⟩) (fun _ => rfl) _
            have hk8 : Keeps (fun k => k = g) w (w6.setCell ⟨gC, 5, none⟩ (Value.slice A9 n9 c9)) := HK.out.setCell (p := ⟨gC, 5, none⟩) (fun h9 => by have := HGC.out.2; simp only at h9; omega) _
            clear d0 d1 d2 d3 d4 d5 f0 f1 f2 f3 f4 f5 HC HK
            generalize w6.setCell ⟨gC, 5, none⟩ (Value.slice A9 n9 c9) = w7 at *
            have HC : Hid (w7.heap[gC]? = some (.cells #[Value.int .u8 (k : Nat), Value.int .i64 (v : Nat), Value.int .i64 0, Value.int .i64 0, Value.int .i64 0, Value.slice A9 n9 c9] 88 (0, 0))) := hb9
            have HK := Lib.hid hk8
            replace HW := Lib.hid (HW.out.far HGC.out.1 hk9)
            clear hb9 hk9 hk8
            have e0 := blk_cell HW.out.blk 0
            have g0 := blk_frozen HW.out.blk 0
            have e1 := blk_cell HW.out.blk 1
            have g1 := blk_frozen HW.out.blk 1
            have e2 := blk_cell HW.out.blk 2
            have g2 := blk_frozen HW.out.blk 2
            have e3 := blk_cell HW.out.blk 3
            have g3 := blk_frozen HW.out.blk 3
            simp at e0 e1 e2 e3
            go_upto_region 29 with fail
            have hb9 := blk_set HW.out.blk 2 (Value.bool false)
            simp at hb9
            have hk9 : Keeps (fun k => k = g) w7 (w7.setCell ⟨g, 2, none⟩ (Value.bool false)) := Keeps.setCell (S := fun k => k = g) (Keeps.refl _ w7) (p := ⟨g, 2, none⟩) (fun _ => rfl) _
            clear e0 e1 e2 e3 g0 g1 g2 g3
            generalize w7.setCell ⟨g, 2, none⟩ (Value.bool false) = w8 at *
            have hw9 : WAt w8 g A n c xs a9 false p := HW.out.moved a9 HW.out.le hk9 hb9
            clear hb9
            have hb9 := block_keep HC.out hk9 (fun h9 => by have h9 : gC = g := h9; have := HGC.out.1; omega)
            have hk8 : Keeps (fun k => k = g) w w8 := Keeps.trans HK.out hk9 fun _ _ h => h
            clear HC HK HW
            have HC := Lib.hid hb9
            have HK := Lib.hid hk8
            have HW := Lib.hid hw9
            clear hb9 hk8 hw9 hk9
            cases p
            · have d0 := blk_cell HC.out 0
              have f0 := blk_frozen HC.out 0
              have d1 := blk_cell HC.out 1
              have f1 := blk_frozen HC.out 1
              have d2 := blk_cell HC.out 2
              have f2 := blk_frozen HC.out 2
              have d3 := blk_cell HC.out 3
              have f3 := blk_frozen HC.out 3
              have d4 := blk_cell HC.out 4
              have f4 := blk_frozen HC.out 4
              have d5 := blk_cell HC.out 5
              have f5 := blk_frozen HC.out 5
              simp at d0 d1 d2 d3 d4 d5
              have e0 := blk_cell HW.out.blk 0
              have g0 := blk_frozen HW.out.blk 0
              have e1 := blk_cell HW.out.blk 1
              have g1 := blk_frozen HW.out.blk 1
              have e2 := blk_cell HW.out.blk 2
              have g2 := blk_frozen HW.out.blk 2
              have e3 := blk_cell HW.out.blk 3
              have g3 := blk_frozen HW.out.blk 3
              simp at e0 e1 e2 e3
              go_upto_region 30 with fail
              have hb9 := blk_set HW.out.blk 3 (Value.bool false)
              simp at hb9
              have hk9 : Keeps (fun k => k = g) w8 (w8.setCell ⟨g, 3, none⟩ (Value.bool false)) := Keeps.setCell (S := fun k => k = g) (Keeps.refl _ w8) (p := ⟨g, 3, none⟩) (fun _ => rfl) _
              clear e0 e1 e2 e3 g0 g1 g2 g3
              generalize w8.setCell ⟨g, 3, none⟩ (Value.bool false) = wz at *
              have hw9 : WAt wz g A n c xs a9 false false := HW.out.moved a9 HW.out.le hk9 hb9
              clear hb9
              have hb9 := block_keep HC.out hk9 (fun h9 => by have h9 : gC = g := h9; have := HGC.out.1; omega)
              have hk8 : Keeps (fun k => k = g) w wz := Keeps.trans HK.out hk9 fun _ _ h => h
              clear HC HK HW
              have HC := Lib.hid hb9
              have HK := Lib.hid hk8
              have HW := Lib.hid hw9
              clear hb9 hk8 hw9 hk9
              have d0 := blk_cell HC.out 0
              have f0 := blk_frozen HC.out 0
              have d1 := blk_cell HC.out 1
              have f1 := blk_frozen HC.out 1
              have d2 := blk_cell HC.out 2
              have f2 := blk_frozen HC.out 2
              have d3 := blk_cell HC.out 3
              have f3 := blk_frozen HC.out 3
              have d4 := blk_cell HC.out 4
              have f4 := blk_frozen HC.out 4
              have d5 := blk_cell HC.out 5
              have f5 := blk_frozen HC.out 5
              simp at d0 d1 d2 d3 d4 d5
              go_wp2_with fail
              have hb9 := blk6 HC.out (Value.int .u8 (k : Nat)) (Value.int .i64 (v : Nat)) (Value.int .i64 0) (Value.int .i64 0) (Value.int .i64 0) (Value.slice A9 n9 c9)
              have hk9 : Keeps (fun k => k = gC) wz _ := keep6 (Keeps.refl (fun k => k = gC) wz) (g := gC) (fun _ => rfl) (Value.int .u8 (k : Nat)) (Value.int .i64 (v : Nat)) (Value.int .i64 0) (Value.int .i64 0) (Value.int .i64 0) (Value.slice A9 n9 c9)
              have hk8 : Keeps (fun k => k = g) w _ := keep6 HK.out (g := gC) (fun h9 => by have := HGC.out.2; omega) (Value.int .u8 (k : Nat)) (Value.int .i64 (v : Nat)) (Value.int .i64 0) (Value.int .i64 0) (Value.int .i64 0) (Value.slice A9 n9 c9)
              clear d0 d1 d2 d3 d4 d5 f0 f1 f2 f3 f4 f5
              generalize ((((((wz.setCell ⟨gC, 0, none⟩ (Value.int .u8 (k : Nat))).setCell ⟨gC, 1, none⟩ (Value.int .i64 (v : Nat))).setCell ⟨gC, 2, none⟩ (Value.int .i64 0)).setCell ⟨gC, 3, none⟩ (Value.int .i64 0)).setCell ⟨gC, 4, none⟩ (Value.int .i64 0)).setCell ⟨gC, 5, none⟩ (Value.slice A9 n9 c9)) = w9 at *
              have HW9 := Lib.hid (HW.out.far HGC.out.1 hk9)
              have y0 := blk_cell hb9 0
              have y1 := blk_cell hb9 1
              have y2 := blk_cell hb9 2
              have y3 := blk_cell hb9 3
              have y4 := blk_cell hb9 4
              have y5 := blk_cell hb9 5
              simp at y0 y1 y2 y3 y4 y5
              have hld : (loadVar 88 ⟨gC, 0, none⟩).run Try.prog w9 = .ok (.agg #[Value.int .u8 (k : Nat), Value.int .i64 (v : Nat), Value.int .i64 0, Value.int .i64 0, Value.int .i64 0, Value.slice A9 n9 c9]) w9 := by go_simp
              have HLD := Lib.hid hld
              clear hld y0 y1 y2 y3 y4 y5
              refine bodyPost_ret (v := .tuple #[.agg #[Value.int .u8 (k : Nat), Value.int .i64 (v : Nat), Value.int .i64 0, Value.int .i64 0, Value.int .i64 0, Value.slice A9 n9 c9], .int .i64 (er : Nat)]) ?_ rfl ?_
              · rw [results_cell_tmp rfl]
                have hld := HLD.out
                simp [asAddr, Result.andThen, hld]
              · show POST _ _
                rw [HPO.out]
                exact ⟨k, v, 0, 0, 0, A9, n9, c9, by rw [HR.out] <;> rfl, hk8, by
                  rw [HR.out]
                  intro h9
                  have h9 : er = 0 := h9
                  subst h9
                  refine ⟨rfl, rfl, ?_⟩
                  have e1 : firstP ⟨0, k, v, a9⟩ f = false := if_neg hk0
                  have e2 : propsP ⟨0, k, v, a9⟩ false = false := by
                    unfold propsP
                    simp only [if_neg hk0]
                    simp
                    first | omega | exact Or.inl (by omega)
                  show WAt _ _ _ _ _ _ a9 (firstP ⟨0, k, v, a9⟩ f) (propsP ⟨0, k, v, a9⟩ false)
                  rw [e1, e2]
                  exact HW9.out⟩
            · by_cases hke : k = 1
              · have HKK := Lib.hid hke
                clear hke
                have d0 := blk_cell HC.out 0
                have f0 := blk_frozen HC.out 0
                have d1 := blk_cell HC.out 1
                have f1 := blk_frozen HC.out 1
                have d2 := blk_cell HC.out 2
                have f2 := blk_frozen HC.out 2
                have d3 := blk_cell HC.out 3
                have f3 := blk_frozen HC.out 3
                have d4 := blk_cell HC.out 4
                have f4 := blk_frozen HC.out 4
                have d5 := blk_cell HC.out 5
                have f5 := blk_frozen HC.out 5
                simp at d0 d1 d2 d3 d4 d5
                have e0 := blk_cell HW.out.blk 0
                have g0 := blk_frozen HW.out.blk 0
                have e1 := blk_cell HW.out.blk 1
                have g1 := blk_frozen HW.out.blk 1
                have e2 := blk_cell HW.out.blk 2
                have g2 := blk_frozen HW.out.blk 2
                have e3 := blk_cell HW.out.blk 3
                have g3 := blk_frozen HW.out.blk 3
                simp at e0 e1 e2 e3
                go_upto_region 30 with fail
                have qe : ((k : Int) != 1) = false := by have := HKK.out; simp; omega
                rw [qe]
                clear qe
                have hb9 := blk_set HW.out.blk 3 (Value.bool false)
                simp at hb9
                have hk9 : Keeps (fun k => k = g) w8 (w8.setCell ⟨g, 3, none⟩ (Value.bool false)) := Keeps.setCell (S := fun k => k = g) (Keeps.refl _ w8) (p := ⟨g, 3, none⟩) (fun _ => rfl) _
                clear e0 e1 e2 e3 g0 g1 g2 g3
                generalize w8.setCell ⟨g, 3, none⟩ (Value.bool false) = wz at *
                have hw9 : WAt wz g A n c xs a9 false false := HW.out.moved a9 HW.out.le hk9 hb9
                clear hb9
                have hb9 := block_keep HC.out hk9 (fun h9 => by have h9 : gC = g := h9; have := HGC.out.1; omega)
                have hk8 : Keeps (fun k => k = g) w wz := Keeps.trans HK.out hk9 fun _ _ h => h
                clear HC HK HW
                have HC := Lib.hid hb9
                have HK := Lib.hid hk8
                have HW := Lib.hid hw9
                clear hb9 hk8 hw9 hk9
                have d0 := blk_cell HC.out 0
                have f0 := blk_frozen HC.out 0
                have d1 := blk_cell HC.out 1
                have f1 := blk_frozen HC.out 1
                have d2 := blk_cell HC.out 2
                have f2 := blk_frozen HC.out 2
                have d3 := blk_cell HC.out 3
                have f3 := blk_frozen HC.out 3
                have d4 := blk_cell HC.out 4
                have f4 := blk_frozen HC.out 4
                have d5 := blk_cell HC.out 5
                have f5 := blk_frozen HC.out 5
                simp at d0 d1 d2 d3 d4 d5
                go_wp2_with fail
                have hb9 := blk6 HC.out (Value.int .u8 (k : Nat)) (Value.int .i64 (v : Nat)) (Value.int .i64 0) (Value.int .i64 0) (Value.int .i64 0) (Value.slice A9 n9 c9)
                have hk9 : Keeps (fun k => k = gC) wz _ := keep6 (Keeps.refl (fun k => k = gC) wz) (g := gC) (fun _ => rfl) (Value.int .u8 (k : Nat)) (Value.int .i64 (v : Nat)) (Value.int .i64 0) (Value.int .i64 0) (Value.int .i64 0) (Value.slice A9 n9 c9)
                have hk8 : Keeps (fun k => k = g) w _ := keep6 HK.out (g := gC) (fun h9 => by have := HGC.out.2; omega) (Value.int .u8 (k : Nat)) (Value.int .i64 (v : Nat)) (Value.int .i64 0) (Value.int .i64 0) (Value.int .i64 0) (Value.slice A9 n9 c9)
                clear d0 d1 d2 d3 d4 d5 f0 f1 f2 f3 f4 f5
                generalize ((((((wz.setCell ⟨gC, 0, none⟩ (Value.int .u8 (k : Nat))).setCell ⟨gC, 1, none⟩ (Value.int .i64 (v : Nat))).setCell ⟨gC, 2, none⟩ (Value.int .i64 0)).setCell ⟨gC, 3, none⟩ (Value.int .i64 0)).setCell ⟨gC, 4, none⟩ (Value.int .i64 0)).setCell ⟨gC, 5, none⟩ (Value.slice A9 n9 c9)) = w9 at *
                have HW9 := Lib.hid (HW.out.far HGC.out.1 hk9)
                have y0 := blk_cell hb9 0
                have y1 := blk_cell hb9 1
                have y2 := blk_cell hb9 2
                have y3 := blk_cell hb9 3
                have y4 := blk_cell hb9 4
                have y5 := blk_cell hb9 5
                simp at y0 y1 y2 y3 y4 y5
                have hld : (loadVar 88 ⟨gC, 0, none⟩).run Try.prog w9 = .ok (.agg #[Value.int .u8 (k : Nat), Value.int .i64 (v : Nat), Value.int .i64 0, Value.int .i64 0, Value.int .i64 0, Value.slice A9 n9 c9]) w9 := by go_simp
                have HLD := Lib.hid hld
                clear hld y0 y1 y2 y3 y4 y5
                refine bodyPost_ret (v := .tuple #[.agg #[Value.int .u8 (k : Nat), Value.int .i64 (v : Nat), Value.int .i64 0, Value.int .i64 0, Value.int .i64 0, Value.slice A9 n9 c9], .int .i64 (er : Nat)]) ?_ rfl ?_
                · rw [results_cell_tmp rfl]
                  have hld := HLD.out
                  simp [asAddr, Result.andThen, hld]
                · show POST _ _
                  rw [HPO.out]
                  exact ⟨k, v, 0, 0, 0, A9, n9, c9, by rw [HR.out] <;> rfl, hk8, by
                    rw [HR.out]
                    intro h9
                    have h9 : er = 0 := h9
                    subst h9
                    refine ⟨rfl, rfl, ?_⟩
                    have e1 : firstP ⟨0, k, v, a9⟩ f = false := if_neg hk0
                    have e2 : propsP ⟨0, k, v, a9⟩ true = false := by
                      unfold propsP
                      simp only [if_neg hk0]
                      simp
                      have := HKK.out; first | omega | exact Or.inl (by omega)
                    show WAt _ _ _ _ _ _ a9 (firstP ⟨0, k, v, a9⟩ f) (propsP ⟨0, k, v, a9⟩ true)
                    rw [e1, e2]
                    exact HW9.out⟩
              · have d0 := blk_cell HC.out 0
                have f0 := blk_frozen HC.out 0
                have d1 := blk_cell HC.out 1
                have f1 := blk_frozen HC.out 1
                have d2 := blk_cell HC.out 2
                have f2 := blk_frozen HC.out 2
                have d3 := blk_cell HC.out 3
                have f3 := blk_frozen HC.out 3
                have d4 := blk_cell HC.out 4
                have f4 := blk_frozen HC.out 4
                have d5 := blk_cell HC.out 5
                have f5 := blk_frozen HC.out 5
                simp at d0 d1 d2 d3 d4 d5
                have e0 := blk_cell HW.out.blk 0
                have g0 := blk_frozen HW.out.blk 0
                have e1 := blk_cell HW.out.blk 1
                have g1 := blk_frozen HW.out.blk 1
                have e2 := blk_cell HW.out.blk 2
                have g2 := blk_frozen HW.out.blk 2
                have e3 := blk_cell HW.out.blk 3
                have g3 := blk_frozen HW.out.blk 3
                simp at e0 e1 e2 e3
                go_upto_region 30 with fail
                have qe : ((k : Int) != 1) = true := by simp; omega
                rw [qe]
                clear qe
                have hb9 := blk_set HW.out.blk 3 (Value.bool true)
                simp at hb9
                have hk9 : Keeps (fun k => k = g) w8 (w8.setCell ⟨g, 3, none⟩ (Value.bool true)) := Keeps.setCell (S := fun k => k = g) (Keeps.refl _ w8) (p := ⟨g, 3, none⟩) (fun _ => rfl) _
                clear e0 e1 e2 e3 g0 g1 g2 g3
                generalize w8.setCell ⟨g, 3, none⟩ (Value.bool true) = wz at *
                have hw9 : WAt wz g A n c xs a9 false true := HW.out.moved a9 HW.out.le hk9 hb9
                clear hb9
                have hb9 := block_keep HC.out hk9 (fun h9 => by have h9 : gC = g := h9; have := HGC.out.1; omega)
                have hk8 : Keeps (fun k => k = g) w wz := Keeps.trans HK.out hk9 fun _ _ h => h
                clear HC HK HW
                have HC := Lib.hid hb9
                have HK := Lib.hid hk8
                have HW := Lib.hid hw9
                clear hb9 hk8 hw9 hk9
                have d0 := blk_cell HC.out 0
                have f0 := blk_frozen HC.out 0
                have d1 := blk_cell HC.out 1
                have f1 := blk_frozen HC.out 1
                have d2 := blk_cell HC.out 2
                have f2 := blk_frozen HC.out 2
                have d3 := blk_cell HC.out 3
                have f3 := blk_frozen HC.out 3
                have d4 := blk_cell HC.out 4
                have f4 := blk_frozen HC.out 4
                have d5 := blk_cell HC.out 5
                have f5 := blk_frozen HC.out 5
                simp at d0 d1 d2 d3 d4 d5
                go_wp2_with fail
                have hb9 := blk6 HC.out (Value.int .u8 (k : Nat)) (Value.int .i64 (v : Nat)) (Value.int .i64 0) (Value.int .i64 0) (Value.int .i64 0) (Value.slice A9 n9 c9)
                have hk9 : Keeps (fun k => k = gC) wz _ := keep6 (Keeps.refl (fun k => k = gC) wz) (g := gC) (fun _ => rfl) (Value.int .u8 (k : Nat)) (Value.int .i64 (v : Nat)) (Value.int .i64 0) (Value.int .i64 0) (Value.int .i64 0) (Value.slice A9 n9 c9)
                have hk8 : Keeps (fun k => k = g) w _ := keep6 HK.out (g := gC) (fun h9 => by have := HGC.out.2; omega) (Value.int .u8 (k : Nat)) (Value.int .i64 (v : Nat)) (Value.int .i64 0) (Value.int .i64 0) (Value.int .i64 0) (Value.slice A9 n9 c9)
                clear d0 d1 d2 d3 d4 d5 f0 f1 f2 f3 f4 f5
                generalize ((((((wz.setCell ⟨gC, 0, none⟩ (Value.int .u8 (k : Nat))).setCell ⟨gC, 1, none⟩ (Value.int .i64 (v : Nat))).setCell ⟨gC, 2, none⟩ (Value.int .i64 0)).setCell ⟨gC, 3, none⟩ (Value.int .i64 0)).setCell ⟨gC, 4, none⟩ (Value.int .i64 0)).setCell ⟨gC, 5, none⟩ (Value.slice A9 n9 c9)) = w9 at *
                have HW9 := Lib.hid (HW.out.far HGC.out.1 hk9)
                have y0 := blk_cell hb9 0
                have y1 := blk_cell hb9 1
                have y2 := blk_cell hb9 2
                have y3 := blk_cell hb9 3
                have y4 := blk_cell hb9 4
                have y5 := blk_cell hb9 5
                simp at y0 y1 y2 y3 y4 y5
                have hld : (loadVar 88 ⟨gC, 0, none⟩).run Try.prog w9 = .ok (.agg #[Value.int .u8 (k : Nat), Value.int .i64 (v : Nat), Value.int .i64 0, Value.int .i64 0, Value.int .i64 0, Value.slice A9 n9 c9]) w9 := by go_simp
                have HLD := Lib.hid hld
                clear hld y0 y1 y2 y3 y4 y5
                refine bodyPost_ret (v := .tuple #[.agg #[Value.int .u8 (k : Nat), Value.int .i64 (v : Nat), Value.int .i64 0, Value.int .i64 0, Value.int .i64 0, Value.slice A9 n9 c9], .int .i64 (er : Nat)]) ?_ rfl ?_
                · rw [results_cell_tmp rfl]
                  have hld := HLD.out
                  simp [asAddr, Result.andThen, hld]
                · show POST _ _
                  rw [HPO.out]
                  exact ⟨k, v, 0, 0, 0, A9, n9, c9, by rw [HR.out] <;> rfl, hk8, by
                    rw [HR.out]
                    intro h9
                    have h9 : er = 0 := h9
                    subst h9
                    refine ⟨rfl, rfl, ?_⟩
                    have e1 : firstP ⟨0, k, v, a9⟩ f = false := if_neg hk0
                    have e2 : propsP ⟨0, k, v, a9⟩ true = true := by
                      unfold propsP
                      simp only [if_neg hk0]
                      simp
                      first | omega | exact Or.inl (by omega)
                    show WAt _ _ _ _ _ _ a9 (firstP ⟨0, k, v, a9⟩ f) (propsP ⟨0, k, v, a9⟩ true)
                    rw [e1, e2]
                    exact HW9.out⟩
          · have q1 : decide ((128 : Int) ≤ (k : Int)) = true := decide_eq_true (by omega)
            have hr := HRR.out
            rw [if_neg hk1] at hr
            replace HRR := Lib.hid hr
            clear hr
            obtain ⟨t, ht⟩ : ∃ t, t = k % 32 := ⟨_, rfl⟩
            have htb : (t : Int) ≤ 31 := by omega
            have hand := and31 k hkb
            rw [← ht] at hand
            have HT := Lib.hid ht
            clear ht
            go_upto_region 15 with fail
            obtain ⟨N, hN⟩ : ∃ N, N = v + t * 65536 := ⟨_, rfl⟩
            have hNi : (v : Int) + (t : Int) * 65536 = (N : Int) := by omega
            have hNb : (N : Int) ≤ 2097152 := by omega
            rw [hNi]
            have hNE : N = v + k % 32 * 65536 := by rw [hN, HT.out]
            have HNE := Lib.hid hNE
            have hr := HRR.out
            rw [← hNE] at hr
            replace HRR := Lib.hid hr
            clear hN hNi hand htb hNE hr
            have hb9 := blk_set HC.out 1 (Value.int .i64 (N : Nat))
            simp at hb9
            have hk9 : Keeps (fun k => k = gC) w5 (w5.setCell ⟨gC, 1, none⟩ (Value.int .i64 (N : Nat))) := Keeps.setCell (S := fun k => k = gC) (Keeps.refl _ w5) (p := ⟨gC, 1, none⟩) (fun _ => rfl) _
            have hk8 : Keeps (fun k => k = g) w (w5.setCell ⟨gC, 1, none⟩ (Value.int .i64 (N : Nat))) := HK.out.setCell (p := ⟨gC, 1, none⟩) (fun h9 => by have := HGC.out.2; simp only at h9; omega) _
            clear d0 d1 d2 d3 d4 d5 f0 f1 f2 f3 f4 f5 HC HK
            generalize w5.setCell ⟨gC, 1, none⟩ (Value.int .i64 (N : Nat)) = w6 at *
            have HC : Hid (w6.heap[gC]? = some (.cells #[Value.int .u8 (k : Nat), Value.int .i64 (N : Nat), Value.int .i64 0, Value.int .i64 0, Value.int .i64 0, Value.slice none 0 0] 88 (0, 0))) := hb9
            have HK := Lib.hid hk8
            replace HW := Lib.hid (HW.out.far HGC.out.1 hk9)
            clear hb9 hk9 hk8
            have hroom : decide ((1099511627776 : Int) < (N : Int)) = false := decide_eq_false (by omega)
            go_wp2_with fail
            refine (wNumber_one w6 g n c a2 A xs f p HW.out).mono ?_
            rintro x w7 ⟨m, er, a3, rfl, hw7, hk7, hmb, h7⟩
            have hb9 := block_keep HC.out hk7 (fun h9 => by have h9 : gC = g := h9; have := HGC.out.1; omega)
            have hk8 : Keeps (fun k => k = g) w w7 := Keeps.trans HK.out hk7 fun _ _ h => h
            clear HC HK HW
            have HC := Lib.hid hb9
            have HK := Lib.hid hk8
            have HW := Lib.hid hw7
            clear hb9 hk8 hw7 hk7
            have hmi : (m : Int) ≤ 65536 := by omega
            rcases h7 with ⟨rfl, hn7⟩ | ⟨rfl, hn7, ha3, hm⟩
            · have hr := HRR.out
              rw [if_pos (by have := HN2.out; omega)] at hr
              have HR := Lib.hid hr
              clear hr hn7
              have d0 := blk_cell HC.out 0
              have f0 := blk_frozen HC.out 0
              have d1 := blk_cell HC.out 1
              have f1 := blk_frozen HC.out 1
              have d2 := blk_cell HC.out 2
              have f2 := blk_frozen HC.out 2
              have d3 := blk_cell HC.out 3
              have f3 := blk_frozen HC.out 3
              have d4 := blk_cell HC.out 4
              have f4 := blk_frozen HC.out 4
              have d5 := blk_cell HC.out 5
              have f5 := blk_frozen HC.out 5
              simp at d0 d1 d2 d3 d4 d5
              go_wp2_with fail
              have hb9 := blk6 HC.out (Value.int .u8 (k : Nat)) (Value.int .i64 (N : Nat)) (Value.int .i64 0) (Value.int .i64 0) (Value.int .i64 0) (Value.slice none 0 0)
              have hk9 : Keeps (fun k => k = gC) w7 _ := keep6 (Keeps.refl (fun k => k = gC) w7) (g := gC) (fun _ => rfl) (Value.int .u8 (k : Nat)) (Value.int .i64 (N : Nat)) (Value.int .i64 0) (Value.int .i64 0) (Value.int .i64 0) (Value.slice none 0 0)
              have hk8 : Keeps (fun k => k = g) w _ := keep6 HK.out (g := gC) (fun h9 => by have := HGC.out.2; omega) (Value.int .u8 (k : Nat)) (Value.int .i64 (N : Nat)) (Value.int .i64 0) (Value.int .i64 0) (Value.int .i64 0) (Value.slice none 0 0)
              clear d0 d1 d2 d3 d4 d5 f0 f1 f2 f3 f4 f5
              generalize ((((((w7.setCell ⟨gC, 0, none⟩ (Value.int .u8 (k : Nat))).setCell ⟨gC, 1, none⟩ (Value.int .i64 (N : Nat))).setCell ⟨gC, 2, none⟩ (Value.int .i64 0)).setCell ⟨gC, 3, none⟩ (Value.int .i64 0)).setCell ⟨gC, 4, none⟩ (Value.int .i64 0)).setCell ⟨gC, 5, none⟩ (Value.slice none 0 0)) = w9 at *
              have HW9 := Lib.hid (HW.out.far HGC.out.1 hk9)
              have y0 := blk_cell hb9 0
              have y1 := blk_cell hb9 1
              have y2 := blk_cell hb9 2
              have y3 := blk_cell hb9 3
              have y4 := blk_cell hb9 4
              have y5 := blk_cell hb9 5
              simp at y0 y1 y2 y3 y4 y5
              have hld : (loadVar 88 ⟨gC, 0, none⟩).run Try.prog w9 = .ok (.agg #[Value.int .u8 (k : Nat), Value.int .i64 (N : Nat), Value.int .i64 0, Value.int .i64 0, Value.int .i64 0, Value.slice none 0 0]) w9 := by go_simp
              have HLD := Lib.hid hld
              clear hld y0 y1 y2 y3 y4 y5
              refine bodyPost_ret (v := .tuple #[.agg #[Value.int .u8 (k : Nat), Value.int .i64 (N : Nat), Value.int .i64 0, Value.int .i64 0, Value.int .i64 0, Value.slice none 0 0], .int .i64 (10 : Nat)]) ?_ rfl ?_
              · rw [results_cell_tmp rfl]
                have hld := HLD.out
                simp [asAddr, Result.andThen, hld]
              · show POST _ _
                rw [HPO.out]
                exact ⟨k, N, 0, 0, 0, none, 0, 0, by rw [HR.out] <;> rfl, hk8, by rw [HR.out]; intro h9; cases h9⟩
            · have HN3 : Hid (a3 = a + 5 ∧ a + 5 ≤ n ∧ m = n2 xs a2) := by have h9 := HN2.out; exact ⟨by omega, by omega, hm⟩
              have hr := HRR.out
              rw [if_neg (by have := HN3.out; omega), ← HN3.out.2.2] at hr
              replace HRR := Lib.hid hr
              clear hr hn7 ha3 hm
              have d0 := blk_cell HC.out 0
              have f0 := blk_frozen HC.out 0
              have d1 := blk_cell HC.out 1
              have f1 := blk_frozen HC.out 1
              have d2 := blk_cell HC.out 2
              have f2 := blk_frozen HC.out 2
              have d3 := blk_cell HC.out 3
              have f3 := blk_frozen HC.out 3
              have d4 := blk_cell HC.out 4
              have f4 := blk_frozen HC.out 4
              have d5 := blk_cell HC.out 5
              have f5 := blk_frozen HC.out 5
              simp at d0 d1 d2 d3 d4 d5
              by_cases hk2 : k < 192
              · have q2 : decide ((192 : Int) ≤ (k : Int)) = false := decide_eq_false (by omega)
                have hr := HRR.out
                rw [if_pos hk2, ← HN3.out.1] at hr
                replace HRR := Lib.hid hr
                clear hr
                go_wp2_with fail
                refine (wBytes_one w7 g n c a3 m A xs f p HW.out (by omega)).mono ?_
                rintro x w6 ⟨A9, n9, c9, er, a9, rfl, hw6, hk6, h6⟩
                clear d0 d1 d2 d3 d4 d5 f0 f1 f2 f3 f4 f5
                have hb9 := block_keep HC.out hk6 (fun h9 => by have h9 : gC = g := h9; have := HGC.out.1; omega)
                have hk8 : Keeps (fun k => k = g) w w6 := Keeps.trans HK.out hk6 fun _ _ h => h
                clear HC HK HW
                have HC := Lib.hid hb9
                have HK := Lib.hid hk8
                have HW := Lib.hid hw6
                clear hb9 hk8 hw6 hk6
                have HR : Hid (r = ⟨er, if er = 0 then k else 0, if er = 0 then N else 0, if er = 0 then a9 else 0⟩) := by
                  show _ = _
                  rw [HRR.out]
                  rcases h6 with ⟨rfl, h6⟩ | ⟨rfl, h6, rfl, _⟩
                  · rw [if_pos (by omega)] <;> rfl
                  · rw [if_neg (by omega)] <;> rfl
                have her : (er : Int) = 0 ∨ (er : Int) = 10 := by omega
                clear h6
                have d0 := blk_cell HC.out 0
                have f0 := blk_frozen HC.out 0
                have d1 := blk_cell HC.out 1
                have f1 := blk_frozen HC.out 1
                have d2 := blk_cell HC.out 2
                have f2 := blk_frozen HC.out 2
                have d3 := blk_cell HC.out 3
                have f3 := blk_frozen HC.out 3
                have d4 := blk_cell HC.out 4
                have f4 := blk_frozen HC.out 4
                have d5 := blk_cell HC.out 5
                have f5 := blk_frozen HC.out 5
                simp at d0 d1 d2 d3 d4 d5
                go_upto_region 28 with fail
                have hb9 := blk_set HC.out 5 (Value.slice A9 n9 c9)
                simp at hb9
                have hk9 : Keeps (fun k => k = gC) w6 (w6.setCell ⟨gC, 5, none⟩ (Value.slice A9 n9 c9)) := Keeps.setCell (S := fun k => k = gC) (Keeps.refl _ w6) (p := ⟨gC, 5, none⟩) (fun _ => rfl) _
                have hk8 : Keeps (fun k => k = g) w (w6.setCell ⟨gC, 5, none⟩ (Value.slice A9 n9 c9)) := HK.out.setCell (p := ⟨gC, 5, none⟩) (fun h9 => by have := HGC.out.2; simp only at h9; omega) _
                clear d0 d1 d2 d3 d4 d5 f0 f1 f2 f3 f4 f5 HC HK
                generalize w6.setCell ⟨gC, 5, none⟩ (Value.slice A9 n9 c9) = w7 at *
                have HC : Hid (w7.heap[gC]? = some (.cells #[Value.int .u8 (k : Nat), Value.int .i64 (N : Nat), Value.int .i64 0, Value.int .i64 0, Value.int .i64 0, Value.slice A9 n9 c9] 88 (0, 0))) := hb9
                have HK := Lib.hid hk8
                replace HW := Lib.hid (HW.out.far HGC.out.1 hk9)
                clear hb9 hk9 hk8
                have e0 := blk_cell HW.out.blk 0
                have g0 := blk_frozen HW.out.blk 0
                have e1 := blk_cell HW.out.blk 1
                have g1 := blk_frozen HW.out.blk 1
                have e2 := blk_cell HW.out.blk 2
                have g2 := blk_frozen HW.out.blk 2
                have e3 := blk_cell HW.out.blk 3
                have g3 := blk_frozen HW.out.blk 3
                simp at e0 e1 e2 e3
                go_upto_region 29 with fail
                have hb9 := blk_set HW.out.blk 2 (Value.bool false)
                simp at hb9
                have hk9 : Keeps (fun k => k = g) w7 (w7.setCell ⟨g, 2, none⟩ (Value.bool false)) := Keeps.setCell (S := fun k => k = g) (Keeps.refl _ w7) (p := ⟨g, 2, none⟩) (fun _ => rfl) _
                clear e0 e1 e2 e3 g0 g1 g2 g3
                generalize w7.setCell ⟨g, 2, none⟩ (Value.bool false) = w8 at *
                have hw9 : WAt w8 g A n c xs a9 false p := HW.out.moved a9 HW.out.le hk9 hb9
                clear hb9
                have hb9 := block_keep HC.out hk9 (fun h9 => by have h9 : gC = g := h9; have := HGC.out.1; omega)
                have hk8 : Keeps (fun k => k = g) w w8 := Keeps.trans HK.out hk9 fun _ _ h => h
                clear HC HK HW
                have HC := Lib.hid hb9
                have HK := Lib.hid hk8
                have HW := Lib.hid hw9
                clear hb9 hk8 hw9 hk9
                cases p
                · have d0 := blk_cell HC.out 0
                  have f0 := blk_frozen HC.out 0
                  have d1 := blk_cell HC.out 1
                  have f1 := blk_frozen HC.out 1
                  have d2 := blk_cell HC.out 2
                  have f2 := blk_frozen HC.out 2
                  have d3 := blk_cell HC.out 3
                  have f3 := blk_frozen HC.out 3
                  have d4 := blk_cell HC.out 4
                  have f4 := blk_frozen HC.out 4
                  have d5 := blk_cell HC.out 5
                  have f5 := blk_frozen HC.out 5
                  simp at d0 d1 d2 d3 d4 d5
                  have e0 := blk_cell HW.out.blk 0
                  have g0 := blk_frozen HW.out.blk 0
                  have e1 := blk_cell HW.out.blk 1
                  have g1 := blk_frozen HW.out.blk 1
                  have e2 := blk_cell HW.out.blk 2
                  have g2 := blk_frozen HW.out.blk 2
                  have e3 := blk_cell HW.out.blk 3
                  have g3 := blk_frozen HW.out.blk 3
                  simp at e0 e1 e2 e3
                  go_upto_region 30 with fail
                  have hb9 := blk_set HW.out.blk 3 (Value.bool false)
                  simp at hb9
                  have hk9 : Keeps (fun k => k = g) w8 (w8.setCell ⟨g, 3, none⟩ (Value.bool false)) := Keeps.setCell (S := fun k => k = g) (Keeps.refl _ w8) (p := ⟨g, 3, none⟩) (fun _ => rfl) _
                  clear e0 e1 e2 e3 g0 g1 g2 g3
                  generalize w8.setCell ⟨g, 3, none⟩ (Value.bool false) = wz at *
                  have hw9 : WAt wz g A n c xs a9 false false := HW.out.moved a9 HW.out.le hk9 hb9
                  clear hb9
                  have hb9 := block_keep HC.out hk9 (fun h9 => by have h9 : gC = g := h9; have := HGC.out.1; omega)
                  have hk8 : Keeps (fun k => k = g) w wz := Keeps.trans HK.out hk9 fun _ _ h => h
                  clear HC HK HW
                  have HC := Lib.hid hb9
                  have HK := Lib.hid hk8
                  have HW := Lib.hid hw9
                  clear hb9 hk8 hw9 hk9
                  have d0 := blk_cell HC.out 0
                  have f0 := blk_frozen HC.out 0
                  have d1 := blk_cell HC.out 1
                  have f1 := blk_frozen HC.out 1
                  have d2 := blk_cell HC.out 2
                  have f2 := blk_frozen HC.out 2
                  have d3 := blk_cell HC.out 3
                  have f3 := blk_frozen HC.out 3
                  have d4 := blk_cell HC.out 4
                  have f4 := blk_frozen HC.out 4
                  have d5 := blk_cell HC.out 5
                  have f5 := blk_frozen HC.out 5
                  simp at d0 d1 d2 d3 d4 d5
                  go_wp2_with fail
                  have hb9 := blk6 HC.out (Value.int .u8 (k : Nat)) (Value.int .i64 (N : Nat)) (Value.int .i64 0) (Value.int .i64 0) (Value.int .i64 0) (Value.slice A9 n9 c9)
                  have hk9 : Keeps (fun k => k = gC) wz _ := keep6 (Keeps.refl (fun k => k = gC) wz) (g := gC) (fun _ => rfl) (Value.int .u8 (k : Nat)) (Value.int .i64 (N : Nat)) (Value.int .i64 0) (Value.int .i64 0) (Value.int .i64 0) (Value.slice A9 n9 c9)
                  have hk8 : Keeps (fun k => k = g) w _ := keep6 HK.out (g := gC) (fun h9 => by have := HGC.out.2; omega) (Value.int .u8 (k : Nat)) (Value.int .i64 (N : Nat)) (Value.int .i64 0) (Value.int .i64 0) (Value.int .i64 0) (Value.slice A9 n9 c9)
                  clear d0 d1 d2 d3 d4 d5 f0 f1 f2 f3 f4 f5
                  generalize ((((((wz.setCell ⟨gC, 0, none⟩ (Value.int .u8 (k : Nat))).setCell ⟨gC, 1, none⟩ (Value.int .i64 (N : Nat))).setCell ⟨gC, 2, none⟩ (Value.int .i64 0)).setCell ⟨gC, 3, none⟩ (Value.int .i64 0)).setCell ⟨gC, 4, none⟩ (Value.int .i64 0)).setCell ⟨gC, 5, none⟩ (Value.slice A9 n9 c9)) = w9 at *
                  have HW9 := Lib.hid (HW.out.far HGC.out.1 hk9)
                  have y0 := blk_cell hb9 0
                  have y1 := blk_cell hb9 1
                  have y2 := blk_cell hb9 2
                  have y3 := blk_cell hb9 3
                  have y4 := blk_cell hb9 4
                  have y5 := blk_cell hb9 5
                  simp at y0 y1 y2 y3 y4 y5
                  have hld : (loadVar 88 ⟨gC, 0, none⟩).run Try.prog w9 = .ok (.agg #[Value.int .u8 (k : Nat), Value.int .i64 (N : Nat), Value.int .i64 0, Value.int .i64 0, Value.int .i64 0, Value.slice A9 n9 c9]) w9 := by go_simp
                  have HLD := Lib.hid hld
                  clear hld y0 y1 y2 y3 y4 y5
                  refine bodyPost_ret (v := .tuple #[.agg #[Value.int .u8 (k : Nat), Value.int .i64 (N : Nat), Value.int .i64 0, Value.int .i64 0, Value.int .i64 0, Value.slice A9 n9 c9], .int .i64 (er : Nat)]) ?_ rfl ?_
                  · rw [results_cell_tmp rfl]
                    have hld := HLD.out
                    simp [asAddr, Result.andThen, hld]
                  · show POST _ _
                    rw [HPO.out]
                    exact ⟨k, N, 0, 0, 0, A9, n9, c9, by rw [HR.out] <;> rfl, hk8, by
                      rw [HR.out]
                      intro h9
                      have h9 : er = 0 := h9
                      subst h9
                      refine ⟨rfl, rfl, ?_⟩
                      have e1 : firstP ⟨0, k, N, a9⟩ f = false := if_neg hk0
                      have e2 : propsP ⟨0, k, N, a9⟩ false = false := by
                        unfold propsP
                        simp only [if_neg hk0]
                        simp
                        first | omega | exact Or.inl (by omega)
                      show WAt _ _ _ _ _ _ a9 (firstP ⟨0, k, N, a9⟩ f) (propsP ⟨0, k, N, a9⟩ false)
                      rw [e1, e2]
                      exact HW9.out⟩
                · have d0 := blk_cell HC.out 0
                  have f0 := blk_frozen HC.out 0
                  have d1 := blk_cell HC.out 1
                  have f1 := blk_frozen HC.out 1
                  have d2 := blk_cell HC.out 2
                  have f2 := blk_frozen HC.out 2
                  have d3 := blk_cell HC.out 3
                  have f3 := blk_frozen HC.out 3
                  have d4 := blk_cell HC.out 4
                  have f4 := blk_frozen HC.out 4
                  have d5 := blk_cell HC.out 5
                  have f5 := blk_frozen HC.out 5
                  simp at d0 d1 d2 d3 d4 d5
                  have e0 := blk_cell HW.out.blk 0
                  have g0 := blk_frozen HW.out.blk 0
                  have e1 := blk_cell HW.out.blk 1
                  have g1 := blk_frozen HW.out.blk 1
                  have e2 := blk_cell HW.out.blk 2
                  have g2 := blk_frozen HW.out.blk 2
                  have e3 := blk_cell HW.out.blk 3
                  have g3 := blk_frozen HW.out.blk 3
                  simp at e0 e1 e2 e3
                  go_upto_region 30 with fail
                  have qe : ((k : Int) != 1) = true := by simp; omega
                  rw [qe]
                  clear qe
                  have hb9 := blk_set HW.out.blk 3 (Value.bool true)
                  simp at hb9
                  have hk9 : Keeps (fun k => k = g) w8 (w8.setCell ⟨g, 3, none⟩ (Value.bool true)) := Keeps.setCell (S := fun k => k = g) (Keeps.refl _ w8) (p := ⟨g, 3, none⟩) (fun _ => rfl) _
                  clear e0 e1 e2 e3 g0 g1 g2 g3
                  generalize w8.setCell ⟨g, 3, none⟩ (Value.bool true) = wz at *
                  have hw9 : WAt wz g A n c xs a9 false true := HW.out.moved a9 HW.out.le hk9 hb9
                  clear hb9
                  have hb9 := block_keep HC.out hk9 (fun h9 => by have h9 : gC = g := h9; have := HGC.out.1; omega)
                  have hk8 : Keeps (fun k => k = g) w wz := Keeps.trans HK.out hk9 fun _ _ h => h
                  clear HC HK HW
                  have HC := Lib.hid hb9
                  have HK := Lib.hid hk8
                  have HW := Lib.hid hw9
                  clear hb9 hk8 hw9 hk9
                  have d0 := blk_cell HC.out 0
                  have f0 := blk_frozen HC.out 0
                  have d1 := blk_cell HC.out 1
                  have f1 := blk_frozen HC.out 1
                  have d2 := blk_cell HC.out 2
                  have f2 := blk_frozen HC.out 2
                  have d3 := blk_cell HC.out 3
                  have f3 := blk_frozen HC.out 3
                  have d4 := blk_cell HC.out 4
                  have f4 := blk_frozen HC.out 4
                  have d5 := blk_cell HC.out 5
                  have f5 := blk_frozen HC.out 5
                  simp at d0 d1 d2 d3 d4 d5
                  go_wp2_with fail
                  have hb9 := blk6 HC.out (Value.int .u8 (k : Nat)) (Value.int .i64 (N : Nat)) (Value.int .i64 0) (Value.int .i64 0) (Value.int .i64 0) (Value.slice A9 n9 c9)
                  have hk9 : Keeps (fun k => k = gC) wz _ := keep6 (Keeps.refl (fun k => k = gC) wz) (g := gC) (fun _ => rfl) (Value.int .u8 (k : Nat)) (Value.int .i64 (N : Nat)) (Value.int .i64 0) (Value.int .i64 0) (Value.int .i64 0) (Value.slice A9 n9 c9)
                  have hk8 : Keeps (fun k => k = g) w _ := keep6 HK.out (g := gC) (fun h9 => by have := HGC.out.2; omega) (Value.int .u8 (k : Nat)) (Value.int .i64 (N : Nat)) (Value.int .i64 0) (Value.int .i64 0) (Value.int .i64 0) (Value.slice A9 n9 c9)
                  clear d0 d1 d2 d3 d4 d5 f0 f1 f2 f3 f4 f5
                  generalize ((((((wz.setCell ⟨gC, 0, none⟩ (Value.int .u8 (k : Nat))).setCell ⟨gC, 1, none⟩ (Value.int .i64 (N : Nat))).setCell ⟨gC, 2, none⟩ (Value.int .i64 0)).setCell ⟨gC, 3, none⟩ (Value.int .i64 0)).setCell ⟨gC, 4, none⟩ (Value.int .i64 0)).setCell ⟨gC, 5, none⟩ (Value.slice A9 n9 c9)) = w9 at *
                  have HW9 := Lib.hid (HW.out.far HGC.out.1 hk9)
                  have y0 := blk_cell hb9 0
                  have y1 := blk_cell hb9 1
                  have y2 := blk_cell hb9 2
                  have y3 := blk_cell hb9 3
                  have y4 := blk_cell hb9 4
                  have y5 := blk_cell hb9 5
                  simp at y0 y1 y2 y3 y4 y5
                  have hld : (loadVar 88 ⟨gC, 0, none⟩).run Try.prog w9 = .ok (.agg #[Value.int .u8 (k : Nat), Value.int .i64 (N : Nat), Value.int .i64 0, Value.int .i64 0, Value.int .i64 0, Value.slice A9 n9 c9]) w9 := by go_simp
                  have HLD := Lib.hid hld
                  clear hld y0 y1 y2 y3 y4 y5
                  refine bodyPost_ret (v := .tuple #[.agg #[Value.int .u8 (k : Nat), Value.int .i64 (N : Nat), Value.int .i64 0, Value.int .i64 0, Value.int .i64 0, Value.slice A9 n9 c9], .int .i64 (er : Nat)]) ?_ rfl ?_
                  · rw [results_cell_tmp rfl]
                    have hld := HLD.out
                    simp [asAddr, Result.andThen, hld]
                  · show POST _ _
                    rw [HPO.out]
                    exact ⟨k, N, 0, 0, 0, A9, n9, c9, by rw [HR.out] <;> rfl, hk8, by
                      rw [HR.out]
                      intro h9
                      have h9 : er = 0 := h9
                      subst h9
                      refine ⟨rfl, rfl, ?_⟩
                      have e1 : firstP ⟨0, k, N, a9⟩ f = false := if_neg hk0
                      have e2 : propsP ⟨0, k, N, a9⟩ true = true := by
                        unfold propsP
                        simp only [if_neg hk0]
                        simp
                        first | omega | exact Or.inl (by omega)
                      show WAt _ _ _ _ _ _ a9 (firstP ⟨0, k, N, a9⟩ f) (propsP ⟨0, k, N, a9⟩ true)
                      rw [e1, e2]
                      exact HW9.out⟩
              · have q2 : decide ((192 : Int) ≤ (k : Int)) = true := decide_eq_true (by omega)
                have hr := HRR.out
                rw [if_neg hk2] at hr
                rw [← HN3.out.1] at hr
                replace HRR := Lib.hid hr
                clear hr
                go_wp2_with fail
                refine (wBytes_one w7 g n c a3 1 A xs f p HW.out (by decide)).mono ?_
                rintro x w8 ⟨A8, n8, c8, er, a4, rfl, hw8, hk8', h8⟩
                clear d0 d1 d2 d3 d4 d5 f0 f1 f2 f3 f4 f5
                have hb9 := block_keep HC.out hk8' (fun h9 => by have h9 : gC = g := h9; have := HGC.out.1; omega)
                have hk8 : Keeps (fun k => k = g) w w8 := Keeps.trans HK.out hk8' fun _ _ h => h
                clear HC HK HW
                have HC := Lib.hid hb9
                have HK := Lib.hid hk8
                have HW := Lib.hid hw8
                clear hb9 hk8 hw8 hk8'
                rcases h8 with ⟨rfl, hn8⟩ | ⟨rfl, hn8, ha4, hA8, rfl⟩
                · have hr := HRR.out
                  rw [if_pos (by omega)] at hr
                  have HR := Lib.hid hr
                  clear hr hn8
                  have d0 := blk_cell HC.out 0
                  have f0 := blk_frozen HC.out 0
                  have d1 := blk_cell HC.out 1
                  have f1 := blk_frozen HC.out 1
                  have d2 := blk_cell HC.out 2
                  have f2 := blk_frozen HC.out 2
                  have d3 := blk_cell HC.out 3
                  have f3 := blk_frozen HC.out 3
                  have d4 := blk_cell HC.out 4
                  have f4 := blk_frozen HC.out 4
                  have d5 := blk_cell HC.out 5
                  have f5 := blk_frozen HC.out 5
                  simp at d0 d1 d2 d3 d4 d5
                  go_wp2_with fail
                  have hb9 := blk6 HC.out (Value.int .u8 (k : Nat)) (Value.int .i64 (N : Nat)) (Value.int .i64 0) (Value.int .i64 0) (Value.int .i64 0) (Value.slice none 0 0)
                  have hk9 : Keeps (fun k => k = gC) w8 _ := keep6 (Keeps.refl (fun k => k = gC) w8) (g := gC) (fun _ => rfl) (Value.int .u8 (k : Nat)) (Value.int .i64 (N : Nat)) (Value.int .i64 0) (Value.int .i64 0) (Value.int .i64 0) (Value.slice none 0 0)
                  have hk8 : Keeps (fun k => k = g) w _ := keep6 HK.out (g := gC) (fun h9 => by have := HGC.out.2; omega) (Value.int .u8 (k : Nat)) (Value.int .i64 (N : Nat)) (Value.int .i64 0) (Value.int .i64 0) (Value.int .i64 0) (Value.slice none 0 0)
                  clear d0 d1 d2 d3 d4 d5 f0 f1 f2 f3 f4 f5
                  generalize ((((((w8.setCell ⟨gC, 0, none⟩ (Value.int .u8 (k : Nat))).setCell ⟨gC, 1, none⟩ (Value.int .i64 (N : Nat))).setCell ⟨gC, 2, none⟩ (Value.int .i64 0)).setCell ⟨gC, 3, none⟩ (Value.int .i64 0)).setCell ⟨gC, 4, none⟩ (Value.int .i64 0)).setCell ⟨gC, 5, none⟩ (Value.slice none 0 0)) = w9 at *
                  have HW9 := Lib.hid (HW.out.far HGC.out.1 hk9)
                  have y0 := blk_cell hb9 0
                  have y1 := blk_cell hb9 1
                  have y2 := blk_cell hb9 2
                  have y3 := blk_cell hb9 3
                  have y4 := blk_cell hb9 4
                  have y5 := blk_cell hb9 5
                  simp at y0 y1 y2 y3 y4 y5
                  have hld : (loadVar 88 ⟨gC, 0, none⟩).run Try.prog w9 = .ok (.agg #[Value.int .u8 (k : Nat), Value.int .i64 (N : Nat), Value.int .i64 0, Value.int .i64 0, Value.int .i64 0, Value.slice none 0 0]) w9 := by go_simp
                  have HLD := Lib.hid hld
                  clear hld y0 y1 y2 y3 y4 y5
                  refine bodyPost_ret (v := .tuple #[.agg #[Value.int .u8 (k : Nat), Value.int .i64 (N : Nat), Value.int .i64 0, Value.int .i64 0, Value.int .i64 0, Value.slice none 0 0], .int .i64 (10 : Nat)]) ?_ rfl ?_
                  · rw [results_cell_tmp rfl]
                    have hld := HLD.out
                    simp [asAddr, Result.andThen, hld]
                  · show POST _ _
                    rw [HPO.out]
                    exact ⟨k, N, 0, 0, 0, none, 0, 0, by rw [HR.out] <;> rfl, hk8, by rw [HR.out]; intro h9; cases h9⟩
                · have HN4 : Hid (a4 = a3 + 1 ∧ a3 < n) := ⟨ha4, by omega⟩
                  obtain ⟨b8, o8, eA8, hbg8, hcl8⟩ := HW.out.head a3 (by omega)
                  rw [eA8] at hA8
                  subst hA8
                  have HB8 := Lib.hid (And.intro eA8 hbg8)
                  obtain ⟨kp, hkp⟩ : ∃ kp, kp = bytN xs a3 := ⟨_, rfl⟩
                  have hkpb : kp < 256 := by rw [hkp]; exact HNB.out a3
                  have hr := HRR.out
                  rw [if_neg (by omega), ← hkp] at hr
                  replace HRR := Lib.hid hr
                  rw [← hkp] at hcl8
                  clear hr hn8 ha4 eA8 hbg8 hkp
                  go_wp2_with fail
                  refine (pOf_is w8 kp hkpb).mono ?_
                  rintro x w9 ⟨xa, ya, za, er, rfl, her, hk9'⟩
                  have hw9' := HW.out.grow hk9'
                  have hk9'' : Keeps (fun k => k = g) w8 w9 := gk hk9'
                  clear hk9'
                  have hb9 := block_keep HC.out hk9'' (fun h9 => by have h9 : gC = g := h9; have := HGC.out.1; omega)
                  have hk8 : Keeps (fun k => k = g) w w9 := Keeps.trans HK.out hk9'' fun _ _ h => h
                  clear HC HK HW
                  have HC := Lib.hid hb9
                  have HK := Lib.hid hk8
                  have HW := Lib.hid hw9'
                  clear hb9 hk8 hw9' hk9''
                  clear hroom hNb hmi q1 q2 hvi hkz hkb
                  have HKP := Lib.hid (And.intro hkpb (And.intro hmb hvb))
                  clear hkpb hmb hvb
                  cases hok : okP kp
                  · rw [hok] at her
                    replace her : er = 11 := by rw [her]; rfl
                    subst her
                    have hr := HRR.out
                    rw [if_pos hok] at hr
                    have HR := Lib.hid hr
                    clear hr hok
                    have d0 := blk_cell HC.out 0
                    have f0 := blk_frozen HC.out 0
                    have d1 := blk_cell HC.out 1
                    have f1 := blk_frozen HC.out 1
                    have d2 := blk_cell HC.out 2
                    have f2 := blk_frozen HC.out 2
                    have d3 := blk_cell HC.out 3
                    have f3 := blk_frozen HC.out 3
                    have d4 := blk_cell HC.out 4
                    have f4 := blk_frozen HC.out 4
                    have d5 := blk_cell HC.out 5
                    have f5 := blk_frozen HC.out 5
                    simp at d0 d1 d2 d3 d4 d5
                    go_upto_region 25 with fail
                    have hb9 := (blk_set (blk_set (blk_set HC.out 2 (Value.int .i64 (xa : Nat))) 3 (Value.int .i64 (ya : Nat))) 4 (Value.int .i64 (za : Nat)))
                    simp at hb9
                    have hk9 : Keeps (fun k => k = gC) w9 (((w9.setCell ⟨gC, 2, none⟩ (Value.int .i64 (xa : Nat))).setCell ⟨gC, 3, none⟩ (Value.int .i64 (ya : Nat))).setCell ⟨gC, 4, none⟩ (Value.int .i64 (za : Nat))) := ((((Keeps.refl (fun k => k = gC) w9).setCell (p := ⟨gC, 2, none⟩) (fun _ => rfl) (Value.int .i64 (xa : Nat))).setCell (p := ⟨gC, 3, none⟩) (fun _ => rfl) (Value.int .i64 (ya : Nat))).setCell (p := ⟨gC, 4, none⟩) (fun _ => rfl) (Value.int .i64 (za : Nat)))
                    have hk8 : Keeps (fun k => k = g) w (((w9.setCell ⟨gC, 2, none⟩ (Value.int .i64 (xa : Nat))).setCell ⟨gC, 3, none⟩ (Value.int .i64 (ya : Nat))).setCell ⟨gC, 4, none⟩ (Value.int .i64 (za : Nat))) := (((HK.out.setCell (p := ⟨gC, 2, none⟩) (fun h9 => by have := HGC.out.2; simp only at h9; omega) (Value.int .i64 (xa : Nat))).setCell (p := ⟨gC, 3, none⟩) (fun h9 => by have := HGC.out.2; simp only at h9; omega) (Value.int .i64 (ya : Nat))).setCell (p := ⟨gC, 4, none⟩) (fun h9 => by have := HGC.out.2; simp only at h9; omega) (Value.int .i64 (za : Nat)))
                    clear d0 d1 d2 d3 d4 d5 f0 f1 f2 f3 f4 f5 HC HK
                    generalize (((w9.setCell ⟨gC, 2, none⟩ (Value.int .i64 (xa : Nat))).setCell ⟨gC, 3, none⟩ (Value.int .i64 (ya : Nat))).setCell ⟨gC, 4, none⟩ (Value.int .i64 (za : Nat))) = wb at *
                    have HC : Hid (wb.heap[gC]? = some (.cells #[Value.int .u8 (k : Nat), Value.int .i64 (N : Nat), Value.int .i64 (xa : Nat), Value.int .i64 (ya : Nat), Value.int .i64 (za : Nat), Value.slice none 0 0] 88 (0, 0))) := hb9
                    have HK := Lib.hid hk8
                    replace HW := Lib.hid (HW.out.far HGC.out.1 hk9)
                    clear hb9 hk9 hk8
                    have d0 := blk_cell HC.out 0
                    have f0 := blk_frozen HC.out 0
                    have d1 := blk_cell HC.out 1
                    have f1 := blk_frozen HC.out 1
                    have d2 := blk_cell HC.out 2
                    have f2 := blk_frozen HC.out 2
                    have d3 := blk_cell HC.out 3
                    have f3 := blk_frozen HC.out 3
                    have d4 := blk_cell HC.out 4
                    have f4 := blk_frozen HC.out 4
                    have d5 := blk_cell HC.out 5
                    have f5 := blk_frozen HC.out 5
                    simp at d0 d1 d2 d3 d4 d5
                    go_wp2_with fail
                    have hb9 := blk6 HC.out (Value.int .u8 (k : Nat)) (Value.int .i64 (N : Nat)) (Value.int .i64 (xa : Nat)) (Value.int .i64 (ya : Nat)) (Value.int .i64 (za : Nat)) (Value.slice none 0 0)
                    have hk9 : Keeps (fun k => k = gC) wb _ := keep6 (Keeps.refl (fun k => k = gC) wb) (g := gC) (fun _ => rfl) (Value.int .u8 (k : Nat)) (Value.int .i64 (N : Nat)) (Value.int .i64 (xa : Nat)) (Value.int .i64 (ya : Nat)) (Value.int .i64 (za : Nat)) (Value.slice none 0 0)
                    have hk8 : Keeps (fun k => k = g) w _ := keep6 HK.out (g := gC) (fun h9 => by have := HGC.out.2; omega) (Value.int .u8 (k : Nat)) (Value.int .i64 (N : Nat)) (Value.int .i64 (xa : Nat)) (Value.int .i64 (ya : Nat)) (Value.int .i64 (za : Nat)) (Value.slice none 0 0)
                    clear d0 d1 d2 d3 d4 d5 f0 f1 f2 f3 f4 f5
                    generalize ((((((wb.setCell ⟨gC, 0, none⟩ (Value.int .u8 (k : Nat))).setCell ⟨gC, 1, none⟩ (Value.int .i64 (N : Nat))).setCell ⟨gC, 2, none⟩ (Value.int .i64 (xa : Nat))).setCell ⟨gC, 3, none⟩ (Value.int .i64 (ya : Nat))).setCell ⟨gC, 4, none⟩ (Value.int .i64 (za : Nat))).setCell ⟨gC, 5, none⟩ (Value.slice none 0 0)) = w9 at *
                    have HW9 := Lib.hid (HW.out.far HGC.out.1 hk9)
                    have y0 := blk_cell hb9 0
                    have y1 := blk_cell hb9 1
                    have y2 := blk_cell hb9 2
                    have y3 := blk_cell hb9 3
                    have y4 := blk_cell hb9 4
                    have y5 := blk_cell hb9 5
                    simp at y0 y1 y2 y3 y4 y5
                    have hld : (loadVar 88 ⟨gC, 0, none⟩).run Try.prog w9 = .ok (.agg #[Value.int .u8 (k : Nat), Value.int .i64 (N : Nat), Value.int .i64 (xa : Nat), Value.int .i64 (ya : Nat), Value.int .i64 (za : Nat), Value.slice none 0 0]) w9 := by go_simp
                    have HLD := Lib.hid hld
                    clear hld y0 y1 y2 y3 y4 y5
                    refine bodyPost_ret (v := .tuple #[.agg #[Value.int .u8 (k : Nat), Value.int .i64 (N : Nat), Value.int .i64 (xa : Nat), Value.int .i64 (ya : Nat), Value.int .i64 (za : Nat), Value.slice none 0 0], .int .i64 (11 : Nat)]) ?_ rfl ?_
                    · rw [results_cell_tmp rfl]
                      have hld := HLD.out
                      simp [asAddr, Result.andThen, hld]
                    · show POST _ _
                      rw [HPO.out]
                      exact ⟨k, N, xa, ya, za, none, 0, 0, by rw [HR.out] <;> rfl, hk8, by rw [HR.out]; intro h9; cases h9⟩
                  · rw [hok] at her
                    replace her : er = 0 := by rw [her]; rfl
                    subst her
                    have hr := HRR.out
                    rw [if_neg (by rw [hok]; decide)] at hr
                    replace HRR := Lib.hid hr
                    clear hr hok
                    have d0 := blk_cell HC.out 0
                    have f0 := blk_frozen HC.out 0
                    have d1 := blk_cell HC.out 1
                    have f1 := blk_frozen HC.out 1
                    have d2 := blk_cell HC.out 2
                    have f2 := blk_frozen HC.out 2
                    have d3 := blk_cell HC.out 3
                    have f3 := blk_frozen HC.out 3
                    have d4 := blk_cell HC.out 4
                    have f4 := blk_frozen HC.out 4
                    have d5 := blk_cell HC.out 5
                    have f5 := blk_frozen HC.out 5
                    simp at d0 d1 d2 d3 d4 d5
                    rw [show a + 6 = a4 by have := HN4.out; have := HN3.out; omega] at HRR
                    have hmb := HKP.out.2.1
                    clear hcl8
                    go_upto_region 25 with fail
                    have hb9 := (blk_set (blk_set (blk_set HC.out 2 (Value.int .i64 (xa : Nat))) 3 (Value.int .i64 (ya : Nat))) 4 (Value.int .i64 (za : Nat)))
                    simp at hb9
                    have hk9 : Keeps (fun k => k = gC) w9 (((w9.setCell ⟨gC, 2, none⟩ (Value.int .i64 (xa : Nat))).setCell ⟨gC, 3, none⟩ (Value.int .i64 (ya : Nat))).setCell ⟨gC, 4, none⟩ (Value.int .i64 (za : Nat))) := ((((Keeps.refl (fun k => k = gC) w9).setCell (p := ⟨gC, 2, none⟩) (fun _ => rfl) (Value.int .i64 (xa : Nat))).setCell (p := ⟨gC, 3, none⟩) (fun _ => rfl) (Value.int .i64 (ya : Nat))).setCell (p := ⟨gC, 4, none⟩) (fun _ => rfl) (Value.int .i64 (za : Nat)))
                    have hk8 : Keeps (fun k => k = g) w (((w9.setCell ⟨gC, 2, none⟩ (Value.int .i64 (xa : Nat))).setCell ⟨gC, 3, none⟩ (Value.int .i64 (ya : Nat))).setCell ⟨gC, 4, none⟩ (Value.int .i64 (za : Nat))) := (((HK.out.setCell (p := ⟨gC, 2, none⟩) (fun h9 => by have := HGC.out.2; simp only at h9; omega) (Value.int .i64 (xa : Nat))).setCell (p := ⟨gC, 3, none⟩) (fun h9 => by have := HGC.out.2; simp only at h9; omega) (Value.int .i64 (ya : Nat))).setCell (p := ⟨gC, 4, none⟩) (fun h9 => by have := HGC.out.2; simp only at h9; omega) (Value.int .i64 (za : Nat)))
                    clear d0 d1 d2 d3 d4 d5 f0 f1 f2 f3 f4 f5 HC HK
                    generalize (((w9.setCell ⟨gC, 2, none⟩ (Value.int .i64 (xa : Nat))).setCell ⟨gC, 3, none⟩ (Value.int .i64 (ya : Nat))).setCell ⟨gC, 4, none⟩ (Value.int .i64 (za : Nat))) = wb at *
                    have HC : Hid (wb.heap[gC]? = some (.cells #[Value.int .u8 (k : Nat), Value.int .i64 (N : Nat), Value.int .i64 (xa : Nat), Value.int .i64 (ya : Nat), Value.int .i64 (za : Nat), Value.slice none 0 0] 88 (0, 0))) := hb9
                    have HK := Lib.hid hk8
                    replace HW := Lib.hid (HW.out.far HGC.out.1 hk9)
                    clear hb9 hk9 hk8
                    have d0 := blk_cell HC.out 0
                    have f0 := blk_frozen HC.out 0
                    have d1 := blk_cell HC.out 1
                    have f1 := blk_frozen HC.out 1
                    have d2 := blk_cell HC.out 2
                    have f2 := blk_frozen HC.out 2
                    have d3 := blk_cell HC.out 3
                    have f3 := blk_frozen HC.out 3
                    have d4 := blk_cell HC.out 4
                    have f4 := blk_frozen HC.out 4
                    have d5 := blk_cell HC.out 5
                    have f5 := blk_frozen HC.out 5
                    simp at d0 d1 d2 d3 d4 d5
                    go_wp2_with fail
                    refine (wBytes_one wb g n c a4 m A xs f p HW.out (by omega)).mono ?_
                    rintro x w6 ⟨A9, n9, c9, er, a9, rfl, hw6, hk6, h6⟩
                    clear d0 d1 d2 d3 d4 d5 f0 f1 f2 f3 f4 f5
                    have hb9 := block_keep HC.out hk6 (fun h9 => by have h9 : gC = g := h9; have := HGC.out.1; omega)
                    have hk8 : Keeps (fun k => k = g) w w6 := Keeps.trans HK.out hk6 fun _ _ h => h
                    clear HC HK HW
                    have HC := Lib.hid hb9
                    have HK := Lib.hid hk8
                    have HW := Lib.hid hw6
                    clear hb9 hk8 hw6 hk6
                    have HR : Hid (r = ⟨er, if er = 0 then k else 0, if er = 0 then N else 0, if er = 0 then a9 else 0⟩) := by
                      show _ = _
                      rw [HRR.out]
                      rcases h6 with ⟨rfl, h6⟩ | ⟨rfl, h6, rfl, _⟩
                      · rw [if_pos (by omega)] <;> rfl
                      · rw [if_neg (by omega)] <;> rfl
                    have her : (er : Int) = 0 ∨ (er : Int) = 10 := by omega
                    clear h6
                    have d0 := blk_cell HC.out 0
                    have f0 := blk_frozen HC.out 0
                    have d1 := blk_cell HC.out 1
                    have f1 := blk_frozen HC.out 1
                    have d2 := blk_cell HC.out 2
                    have f2 := blk_frozen HC.out 2
                    have d3 := blk_cell HC.out 3
                    have f3 := blk_frozen HC.out 3
                    have d4 := blk_cell HC.out 4
                    have f4 := blk_frozen HC.out 4
                    have d5 := blk_cell HC.out 5
                    have f5 := blk_frozen HC.out 5
                    simp at d0 d1 d2 d3 d4 d5
                    go_upto_region 28 with fail
                    have hb9 := blk_set HC.out 5 (Value.slice A9 n9 c9)
                    simp at hb9
                    have hk9 : Keeps (fun k => k = gC) w6 (w6.setCell ⟨gC, 5, none⟩ (Value.slice A9 n9 c9)) := Keeps.setCell (S := fun k => k = gC) (Keeps.refl _ w6) (p := ⟨gC, 5, none⟩) (fun _ => rfl) _
                    have hk8 : Keeps (fun k => k = g) w (w6.setCell ⟨gC, 5, none⟩ (Value.slice A9 n9 c9)) := HK.out.setCell (p := ⟨gC, 5, none⟩) (fun h9 => by have := HGC.out.2; simp only at h9; omega) _
                    clear d0 d1 d2 d3 d4 d5 f0 f1 f2 f3 f4 f5 HC HK
                    generalize w6.setCell ⟨gC, 5, none⟩ (Value.slice A9 n9 c9) = w7 at *
                    have HC : Hid (w7.heap[gC]? = some (.cells #[Value.int .u8 (k : Nat), Value.int .i64 (N : Nat), Value.int .i64 (xa : Nat), Value.int .i64 (ya : Nat), Value.int .i64 (za : Nat), Value.slice A9 n9 c9] 88 (0, 0))) := hb9
                    have HK := Lib.hid hk8
                    replace HW := Lib.hid (HW.out.far HGC.out.1 hk9)
                    clear hb9 hk9 hk8
                    have e0 := blk_cell HW.out.blk 0
                    have g0 := blk_frozen HW.out.blk 0
                    have e1 := blk_cell HW.out.blk 1
                    have g1 := blk_frozen HW.out.blk 1
                    have e2 := blk_cell HW.out.blk 2
                    have g2 := blk_frozen HW.out.blk 2
                    have e3 := blk_cell HW.out.blk 3
                    have g3 := blk_frozen HW.out.blk 3
                    simp at e0 e1 e2 e3
                    go_upto_region 29 with fail
                    have hb9 := blk_set HW.out.blk 2 (Value.bool false)
                    simp at hb9
                    have hk9 : Keeps (fun k => k = g) w7 (w7.setCell ⟨g, 2, none⟩ (Value.bool false)) := Keeps.setCell (S := fun k => k = g) (Keeps.refl _ w7) (p := ⟨g, 2, none⟩) (fun _ => rfl) _
                    clear e0 e1 e2 e3 g0 g1 g2 g3
                    generalize w7.setCell ⟨g, 2, none⟩ (Value.bool false) = w8 at *
                    have hw9 : WAt w8 g A n c xs a9 false p := HW.out.moved a9 HW.out.le hk9 hb9
                    clear hb9
                    have hb9 := block_keep HC.out hk9 (fun h9 => by have h9 : gC = g := h9; have := HGC.out.1; omega)
                    have hk8 : Keeps (fun k => k = g) w w8 := Keeps.trans HK.out hk9 fun _ _ h => h
                    clear HC HK HW
                    have HC := Lib.hid hb9
                    have HK := Lib.hid hk8
                    have HW := Lib.hid hw9
                    clear hb9 hk8 hw9 hk9
                    have d0 := blk_cell HC.out 0
                    have f0 := blk_frozen HC.out 0
                    have d1 := blk_cell HC.out 1
                    have f1 := blk_frozen HC.out 1
                    have d2 := blk_cell HC.out 2
                    have f2 := blk_frozen HC.out 2
                    have d3 := blk_cell HC.out 3
                    have f3 := blk_frozen HC.out 3
                    have d4 := blk_cell HC.out 4
                    have f4 := blk_frozen HC.out 4
                    have d5 := blk_cell HC.out 5
                    have f5 := blk_frozen HC.out 5
                    simp at d0 d1 d2 d3 d4 d5
                    have e0 := blk_cell HW.out.blk 0
                    have g0 := blk_frozen HW.out.blk 0
                    have e1 := blk_cell HW.out.blk 1
                    have g1 := blk_frozen HW.out.blk 1
                    have e2 := blk_cell HW.out.blk 2
                    have g2 := blk_frozen HW.out.blk 2
                    have e3 := blk_cell HW.out.blk 3
                    have g3 := blk_frozen HW.out.blk 3
                    simp at e0 e1 e2 e3
                    go_upto_region 30 with fail
                    have hb9 := blk_set HW.out.blk 3 (Value.bool true)
                    simp at hb9
                    have hk9 : Keeps (fun k => k = g) w8 (w8.setCell ⟨g, 3, none⟩ (Value.bool true)) := Keeps.setCell (S := fun k => k = g) (Keeps.refl _ w8) (p := ⟨g, 3, none⟩) (fun _ => rfl) _
                    clear e0 e1 e2 e3 g0 g1 g2 g3
                    generalize w8.setCell ⟨g, 3, none⟩ (Value.bool true) = wz at *
                    have hw9 : WAt wz g A n c xs a9 false true := HW.out.moved a9 HW.out.le hk9 hb9
                    clear hb9
                    have hb9 := block_keep HC.out hk9 (fun h9 => by have h9 : gC = g := h9; have := HGC.out.1; omega)
                    have hk8 : Keeps (fun k => k = g) w wz := Keeps.trans HK.out hk9 fun _ _ h => h
                    clear HC HK HW
                    have HC := Lib.hid hb9
                    have HK := Lib.hid hk8
                    have HW := Lib.hid hw9
                    clear hb9 hk8 hw9 hk9
                    have d0 := blk_cell HC.out 0
                    have f0 := blk_frozen HC.out 0
                    have d1 := blk_cell HC.out 1
                    have f1 := blk_frozen HC.out 1
                    have d2 := blk_cell HC.out 2
                    have f2 := blk_frozen HC.out 2
                    have d3 := blk_cell HC.out 3
                    have f3 := blk_frozen HC.out 3
                    have d4 := blk_cell HC.out 4
                    have f4 := blk_frozen HC.out 4
                    have d5 := blk_cell HC.out 5
                    have f5 := blk_frozen HC.out 5
                    simp at d0 d1 d2 d3 d4 d5
                    go_wp2_with fail
                    have hb9 := blk6 HC.out (Value.int .u8 (k : Nat)) (Value.int .i64 (N : Nat)) (Value.int .i64 (xa : Nat)) (Value.int .i64 (ya : Nat)) (Value.int .i64 (za : Nat)) (Value.slice A9 n9 c9)
                    have hk9 : Keeps (fun k => k = gC) wz _ := keep6 (Keeps.refl (fun k => k = gC) wz) (g := gC) (fun _ => rfl) (Value.int .u8 (k : Nat)) (Value.int .i64 (N : Nat)) (Value.int .i64 (xa : Nat)) (Value.int .i64 (ya : Nat)) (Value.int .i64 (za : Nat)) (Value.slice A9 n9 c9)
                    have hk8 : Keeps (fun k => k = g) w _ := keep6 HK.out (g := gC) (fun h9 => by have := HGC.out.2; omega) (Value.int .u8 (k : Nat)) (Value.int .i64 (N : Nat)) (Value.int .i64 (xa : Nat)) (Value.int .i64 (ya : Nat)) (Value.int .i64 (za : Nat)) (Value.slice A9 n9 c9)
                    clear d0 d1 d2 d3 d4 d5 f0 f1 f2 f3 f4 f5
                    generalize ((((((wz.setCell ⟨gC, 0, none⟩ (Value.int .u8 (k : Nat))).setCell ⟨gC, 1, none⟩ (Value.int .i64 (N : Nat))).setCell ⟨gC, 2, none⟩ (Value.int .i64 (xa : Nat))).setCell ⟨gC, 3, none⟩ (Value.int .i64 (ya : Nat))).setCell ⟨gC, 4, none⟩ (Value.int .i64 (za : Nat))).setCell ⟨gC, 5, none⟩ (Value.slice A9 n9 c9)) = w9 at *
                    have HW9 := Lib.hid (HW.out.far HGC.out.1 hk9)
                    have y0 := blk_cell hb9 0
                    have y1 := blk_cell hb9 1
                    have y2 := blk_cell hb9 2
                    have y3 := blk_cell hb9 3
                    have y4 := blk_cell hb9 4
                    have y5 := blk_cell hb9 5
                    simp at y0 y1 y2 y3 y4 y5
                    have hld : (loadVar 88 ⟨gC, 0, none⟩).run Try.prog w9 = .ok (.agg #[Value.int .u8 (k : Nat), Value.int .i64 (N : Nat), Value.int .i64 (xa : Nat), Value.int .i64 (ya : Nat), Value.int .i64 (za : Nat), Value.slice A9 n9 c9]) w9 := by go_simp
                    have HLD := Lib.hid hld
                    clear hld y0 y1 y2 y3 y4 y5
                    refine bodyPost_ret (v := .tuple #[.agg #[Value.int .u8 (k : Nat), Value.int .i64 (N : Nat), Value.int .i64 (xa : Nat), Value.int .i64 (ya : Nat), Value.int .i64 (za : Nat), Value.slice A9 n9 c9], .int .i64 (er : Nat)]) ?_ rfl ?_
                    · rw [results_cell_tmp rfl]
                      have hld := HLD.out
                      simp [asAddr, Result.andThen, hld]
                    · show POST _ _
                      rw [HPO.out]
                      exact ⟨k, N, xa, ya, za, A9, n9, c9, by rw [HR.out] <;> rfl, hk8, by
                        rw [HR.out]
                        intro h9
                        have h9 : er = 0 := h9
                        subst h9
                        refine ⟨rfl, rfl, ?_⟩
                        have e1 : firstP ⟨0, k, N, a9⟩ f = false := if_neg hk0
                        have e2 : propsP ⟨0, k, N, a9⟩ p = true := by
                          unfold propsP
                          simp only [if_neg hk0]
                          simp
                          first | omega | exact Or.inl (by omega)
                        show WAt _ _ _ _ _ _ a9 (firstP ⟨0, k, N, a9⟩ f) (propsP ⟨0, k, N, a9⟩ p)
                        rw [e1, e2]
                        exact HW9.out⟩
    · have hr := HRR.out
      rw [if_pos rfl] at hr
      have HR := Lib.hid hr
      clear hr
      have d0 := blk_cell HC.out 0
      have f0 := blk_frozen HC.out 0
      have d1 := blk_cell HC.out 1
      have f1 := blk_frozen HC.out 1
      have d2 := blk_cell HC.out 2
      have f2 := blk_frozen HC.out 2
      have d3 := blk_cell HC.out 3
      have f3 := blk_frozen HC.out 3
      have d4 := blk_cell HC.out 4
      have f4 := blk_frozen HC.out 4
      have d5 := blk_cell HC.out 5
      have f5 := blk_frozen HC.out 5
      simp at d0 d1 d2 d3 d4 d5
      go_wp2_with fail
      have hb9 := blk6 HC.out (Value.int .u8 0) (Value.int .i64 0) (Value.int .i64 0) (Value.int .i64 0) (Value.int .i64 0) (Value.slice none 0 0)
      have hk9 : Keeps (fun k => k = gC) w2 _ := keep6 (Keeps.refl (fun k => k = gC) w2) (g := gC) (fun _ => rfl) (Value.int .u8 0) (Value.int .i64 0) (Value.int .i64 0) (Value.int .i64 0) (Value.int .i64 0) (Value.slice none 0 0)
      have hk8 : Keeps (fun k => k = g) w _ := keep6 HK.out (g := gC) (fun h9 => by have := HGC.out.2; omega) (Value.int .u8 0) (Value.int .i64 0) (Value.int .i64 0) (Value.int .i64 0) (Value.int .i64 0) (Value.slice none 0 0)
      clear d0 d1 d2 d3 d4 d5 f0 f1 f2 f3 f4 f5
      generalize ((((((w2.setCell ⟨gC, 0, none⟩ (Value.int .u8 0)).setCell ⟨gC, 1, none⟩ (Value.int .i64 0)).setCell ⟨gC, 2, none⟩ (Value.int .i64 0)).setCell ⟨gC, 3, none⟩ (Value.int .i64 0)).setCell ⟨gC, 4, none⟩ (Value.int .i64 0)).setCell ⟨gC, 5, none⟩ (Value.slice none 0 0)) = w9 at *
      have HW9 := Lib.hid (HW.out.far HGC.out.1 hk9)
      have y0 := blk_cell hb9 0
      have y1 := blk_cell hb9 1
      have y2 := blk_cell hb9 2
      have y3 := blk_cell hb9 3
      have y4 := blk_cell hb9 4
      have y5 := blk_cell hb9 5
      simp at y0 y1 y2 y3 y4 y5
      have hld : (loadVar 88 ⟨gC, 0, none⟩).run Try.prog w9 = .ok (.agg #[Value.int .u8 0, Value.int .i64 0, Value.int .i64 0, Value.int .i64 0, Value.int .i64 0, Value.slice none 0 0]) w9 := by go_simp
      have HLD := Lib.hid hld
      clear hld y0 y1 y2 y3 y4 y5
      refine bodyPost_ret (v := .tuple #[.agg #[Value.int .u8 0, Value.int .i64 0, Value.int .i64 0, Value.int .i64 0, Value.int .i64 0, Value.slice none 0 0], .int .i64 (11 : Nat)]) ?_ rfl ?_
      · rw [results_cell_tmp rfl]
        have hld := HLD.out
        simp [asAddr, Result.andThen, hld]
      · show POST _ _
        rw [HPO.out]
        exact ⟨0, 0, 0, 0, 0, none, 0, 0, by rw [HR.out] <;> rfl, hk8, by rw [HR.out]; intro h9; cases h9⟩

end Go.Proofs.Ytoeapobpdfidkaa
