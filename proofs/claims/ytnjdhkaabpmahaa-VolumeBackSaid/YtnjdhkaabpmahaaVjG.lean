/- volume: cut, Lacks. -/
import Derived.Test.YtnjdhkaabpmahaaVjF
namespace Go.Proofs.Ytnjdhkaabpmahaa
open Go.RowKit
set_option linter.unusedVariables false
set_option linter.unusedSimpArgs false

/-- cut, by the lengths. -/
def cutN (q : List Nat) : Prop := q.length = 1 ∨ ((∀ i, i < q.length - 1 → q.getD i 0 = q.getD 0 0) ∧ 0 < q.getD 0 0 ∧ 0 < q.getD (q.length - 1) 0 ∧ q.getD (q.length - 1) 0 ≤ q.getD 0 0)
theorem cutN_iff (S : List (List Int)) : cutOK S ↔ cutN (S.map List.length) := by
  have h : ∀ i, (S.map List.length).getD i 0 = (S.getD i []).length := fun i => by
    rw [List.getD_eq_getElem?_getD, List.getD_eq_getElem?_getD, List.getElem?_map]
    cases S[i]? <;> rfl
  unfold cutOK cutN
  simp only [List.length_map, h]
set_option maxRecDepth 8000 in
set_option maxHeartbeats 2000000 in
theorem cut_is (w : World) (A : Option Addr) (n c : Nat) (L : List PV) (h : RowP w A n c L) (hn : 0 < n) (hx : ∀ x : PV, x ∈ L → x.2.2.1 ≤ 140737488355328) :
    Calls Try.prog 17 #[.slice A n c] w fun e w' => ∃ r, e = .returned (.bool r) ∧ (r = true ↔ cutN (L.map fun x => x.2.2.1)) ∧ Grow w w' := by
  obtain ⟨q, hq⟩ : ∃ q, q = L.map fun x => x.2.2.1 := ⟨_, rfl⟩
  have hql : q.length = n := by rw [hq, List.length_map, h.len]
  have hqg : ∀ i x, L[i]? = some x → q.getD i 0 = x.2.2.1 := fun i x hi => by rw [hq, List.getD_eq_getElem?_getD, List.getElem?_map, hi]; rfl
  rw [← hq]
  have HQ := Lib.hid (And.intro hq (And.intro hql hqg))
  have H := Lib.hid h
  have hni : (n : Int) ≤ 1048576 := by have := h.few; omega
  have hni0 : (0 : Int) < (n : Int) := by omega
  by_cases h1 : n = 1
  · have e1 : ((n : Int) == 1) = true := by simp; omega
    have e2 : (n : Int) = 1 := by omega
    have e3 : (n == 1) = true := by simp; omega
    have HR : Hid (cutN q) := .inl (by rw [hql, h1])
    clear h hx hq hql hqg h1 hni hni0
    go_enter Try.func17, Try.ntmps17
    go_wp2_with fail
    go_ret
    exact ⟨true, rfl, ⟨fun _ => HR.out, fun _ => rfl⟩, Keeps.refl _ _⟩
  · have e1 : ((n : Int) == 1) = false := by simp; omega
    have e2 : ¬ (n : Int) = 1 := by omega
    have e3 : (n == 1) = false := by simp; omega
    obtain ⟨g, rfl, hc⟩ := h.at_ hn
    obtain ⟨m, hm⟩ : ∃ m, m = n - 1 := ⟨_, rfl⟩
    have hmi : (n : Int) - 1 = (m : Int) := by omega
    have hmn : m < n := by omega
    have hmni : (m : Int) < (n : Int) := by omega
    obtain ⟨x0, hx0⟩ : ∃ x, L[0]? = some x := ⟨_, List.getElem?_eq_getElem (by rw [h.len]; exact hn)⟩
    obtain ⟨xl, hxl⟩ : ∃ x, L[m]? = some x := ⟨_, List.getElem?_eq_getElem (by rw [h.len]; exact hmn)⟩
    have hf := hqg 0 x0 hx0
    have hl := hqg m xl hxl
    have hfb := hx x0 (List.mem_of_getElem? hx0)
    have hlb := hx xl (List.mem_of_getElem? hxl)
    have r4 := hc 0 x0 hx0 4 _ rfl
    have s4 := hc m xl hxl 4 _ rfl
    obtain ⟨y0, A0, f, c0⟩ := x0
    obtain ⟨yl, Al, nl, cl⟩ := xl
    simp only [Nat.zero_mul, Nat.zero_add] at hf hl hfb hlb r4 s4
    have hfi : (f : Int) ≤ 140737488355328 := by omega
    have hli : (nl : Int) ≤ 140737488355328 := by omega
    have HF : Hid (q.getD 0 0 = f ∧ q.getD m 0 = nl ∧ m = n - 1 ∧ f ≤ 140737488355328 ∧ n ≠ 1) := ⟨hf, hl, hm, hfb, h1⟩
    have HX := Lib.hid hx
    have hsl : ∀ w : World, (Instr.slice 44 (.slice (some ⟨g, 0, none⟩) n c) none (some (.int .i64 (m : Nat))) none).run Try.prog w = .ok (.slice (some ⟨g, 0, none⟩) m c) w := fun w =>
      run_pre (P := Try.prog) (t := 44) Try.underlying44 rfl (some ⟨g, 0, none⟩) n c m (by have := h.cap; omega) w
    have hb1 := heap_alloc_new w (.cells #[.int .i64 (f : Nat)] 3)
    have hk1 : Grow w (w.alloc (.cells #[.int .i64 (f : Nat)] 3)) := (Keeps.refl _ w).alloc _
    obtain ⟨gb, hgb⟩ : ∃ gb, gb = w.heap.size := ⟨_, rfl⟩
    rw [← hgb] at hb1
    have s4' := ckp s4 hk1 (fun h => h)
    clear h hx hq hql hqg hc hf hl hx0 hxl hm h1 hfb hlb
    go_enter Try.func17, Try.ntmps17
    go_upto_region 4 with fail
    rw [← hgb]
    clear r4 s4 hgb
    generalize w.alloc (.cells #[.int .i64 (f : Nat)] 3) = w1 at *
    have HB := Lib.hid hb1
    have HK := Lib.hid hk1
    have HT : Hid (TellsP w1 (.func (.func 31) #[] #[.pointer (some ⟨gb, 0, none⟩)]) (fun x => !decide (x.2.2.1 = f)) (L.take m)) :=
      ⟨_, _, rfl, enters_of Try.func31 (by kernel_rfl) rfl, fun x w2 hx hg => cutf_is w2 gb f x (ckp (by have h9 := blk_cell HB.out 0; simpa using h9) hg (fun h => h)) HF.out.2.2.2.1 (HX.out x (List.mem_of_mem_take hx))⟩
    have HC := Lib.hid (containsP_is w1 (some ⟨g, 0, none⟩) m c (L.take m) _ _ ((H.out.grow HK.out).take m (by omega)) HT.out)
    obtain ⟨odd, hodd⟩ : ∃ odd, odd = (L.take m).any (fun x => !decide (x.2.2.1 = f)) := ⟨_, rfl⟩
    rw [← hodd] at HC
    have HO : Hid (odd = true ↔ ¬ ∀ i, i < m → q.getD i 0 = f) := by
      show _ ↔ _
      rw [hodd, List.any_eq_true]
      constructor
      · rintro ⟨x, hx, hne⟩ hall
        obtain ⟨i, hi⟩ := List.mem_iff_getElem?.1 hx
        rw [List.getElem?_take] at hi
        split at hi
        · rename_i him
          have h9 := HQ.out.2.2 i x hi
          rw [hall i him] at h9
          simp [h9] at hne
        · cases hi
      · intro hall
        obtain ⟨i, hi⟩ := Classical.not_forall.1 hall
        obtain ⟨him, hne⟩ := Classical.not_imp.1 hi
        have hlt : i < L.length := by rw [H.out.len]; omega
        refine ⟨L[i], List.mem_iff_getElem?.2 ⟨i, by rw [List.getElem?_take, if_pos him, List.getElem?_eq_getElem hlt]⟩, ?_⟩
        rw [← HQ.out.2.2 i L[i] (List.getElem?_eq_getElem hlt)]
        simpa using hne
    have HCQ : Hid (cutN q ↔ odd = false ∧ 0 < f ∧ 0 < nl ∧ nl ≤ f) := by
      show _ ↔ _
      unfold cutN
      rw [HQ.out.2.1, ← HF.out.2.2.1, HF.out.1, HF.out.2.1]
      constructor
      · rintro (h9 | ⟨h9, h10⟩)
        · exact absurd h9 HF.out.2.2.2.2
        · refine ⟨?_, h10⟩
          cases ho : odd with
          | false => rfl
          | true => exact absurd h9 (HO.out.1 ho)
      · rintro ⟨ho, h10⟩
        refine .inr ⟨Classical.byContradiction fun h9 => ?_, h10⟩
        rw [HO.out.2 h9] at ho
        cases ho
    clear hb1 hk1 hodd
    go_wp2_with fail
    refine HC.out.mono ?_
    rintro x w2 ⟨rfl, hg2⟩
    have HK2 : Hid (Grow w w2) := Grow.trans _ _ _ HK.out hg2
    have hbl := ckp (by have h9 := blk_cell HB.out 0; simpa using h9) hg2 (fun h => h)
    have hsl4 := ckp s4' hg2 (fun h => h)
    clear hg2 HC hsl s4'
    cases odd
    · by_cases hf0 : 0 < f
      · have f1 : decide ((0 : Int) < (f : Int)) = true := decide_eq_true (by omega)
        have f2 : decide (0 < f) = true := decide_eq_true hf0
        by_cases hn0 : 0 < nl
        · have n1 : decide ((0 : Int) < (nl : Int)) = true := decide_eq_true (by omega)
          have n2 : decide (0 < nl) = true := decide_eq_true hn0
          by_cases hle : nl ≤ f
          · have l1 : decide ((nl : Int) ≤ (f : Int)) = true := decide_eq_true (by omega)
            have l2 : decide (nl ≤ f) = true := decide_eq_true hle
            have HR : Hid (cutN q) := HCQ.out.2 ⟨rfl, hf0, hn0, hle⟩
            clear hf0 hn0 hle
            go_wp2_with fail
            go_ret
            exact ⟨true, rfl, ⟨fun _ => HR.out, fun _ => rfl⟩, HK2.out⟩
          · have l1 : decide ((nl : Int) ≤ (f : Int)) = false := decide_eq_false (by omega)
            have l2 : decide (nl ≤ f) = false := decide_eq_false hle
            have HR : Hid (¬ cutN q) := fun h9 => hle (HCQ.out.1 h9).2.2.2
            clear hf0 hn0 hle
            go_wp2_with fail
            go_ret
            exact ⟨false, rfl, ⟨fun h => (by cases h), fun h => absurd h HR.out⟩, HK2.out⟩
        · have n1 : decide ((0 : Int) < (nl : Int)) = false := decide_eq_false (by omega)
          have n2 : decide (0 < nl) = false := decide_eq_false hn0
          have HR : Hid (¬ cutN q) := fun h9 => hn0 (HCQ.out.1 h9).2.2.1
          clear hf0 hn0
          go_wp2_with fail
          go_ret
          exact ⟨false, rfl, ⟨fun h => (by cases h), fun h => absurd h HR.out⟩, HK2.out⟩
      · have f1 : decide ((0 : Int) < (f : Int)) = false := decide_eq_false (by omega)
        have f2 : decide (0 < f) = false := decide_eq_false hf0
        have HR : Hid (¬ cutN q) := fun h9 => hf0 (HCQ.out.1 h9).2.1
        clear hf0
        go_wp2_with fail
        go_ret
        exact ⟨false, rfl, ⟨fun h => (by cases h), fun h => absurd h HR.out⟩, HK2.out⟩
    · have HR : Hid (¬ cutN q) := fun h9 => by have := (HCQ.out.1 h9).1; cases this
      go_wp2_with fail
      go_ret
      exact ⟨false, rfl, ⟨fun h => (by cases h), fun h => absurd h HR.out⟩, HK2.out⟩
/-- What the first part says. -/
theorem headZ {w : World} {g n c : Nat} {l : List (List Int)} {Z : List (PV × List Int)} (h : RowP w (some ⟨g, 0, none⟩) n c (Z.map Prod.fst)) (hf : ∀ z ∈ Z, Fits w z.1 z.2) (ho : Ordered l (Z.map Prod.snd)) (hs : scanE l = 0) :
    0 < n ∧ n = l.length ∧ w.cell? ⟨g, 1, none⟩ = some (.int .i64 (cntL l : Nat)) ∧ w.cell? ⟨g, 2, none⟩ = some (.int .i64 (allB (l.getD 0 []) : Nat)) ∧ w.cell? ⟨g, 3, none⟩ = some (.int .u32 (sumB (l.getD 0 []) : Nat)) := by
  have G := good_of hs
  have hzl : Z.length = n := by have := h.len; simpa using this
  have hll : l.length = n := by have := ho.len; rw [List.length_map] at this; omega
  have hn : 0 < n := by rw [← hll]; exact List.length_pos_iff.2 G.ne
  obtain ⟨g', e, hc⟩ := h.at_ hn
  injection e with e
  injection e with e _
  subst e
  obtain ⟨z0, hz0⟩ : ∃ z, Z[0]? = some z := ⟨_, List.getElem?_eq_getElem (by omega)⟩
  have h1 := hc 0 z0.1 (by rw [List.getElem?_map, hz0]; rfl)
  have h2 := (hf z0 (List.mem_of_getElem? hz0)).1
  have h3 := (ho.mem G (i := 0) (by rw [List.length_map]; omega)).2.1
  have h4 : (Z.map Prod.snd).getD 0 [] = z0.2 := by rw [List.getD_eq_getElem?_getD, List.getElem?_map, hz0]; rfl
  rw [h4] at h3
  obtain ⟨⟨⟨p1, p2, p3, p4⟩, pA⟩, y0⟩ := z0
  obtain ⟨q1, q2, q3, q4⟩ : p1 = numB y0 ∧ p2 = cntB y0 ∧ p3 = allB y0 ∧ p4 = sumB y0 := by simpa using h2
  have a1 := h1 1 (.int .i64 (p2 : Nat)) rfl
  have a2 := h1 2 (.int .i64 (p3 : Nat)) rfl
  have a3 := h1 3 (.int .u32 (p4 : Nat)) rfl
  simp only [Nat.zero_mul, Nat.zero_add] at a1 a2 a3
  refine ⟨hn, hll.symm, ?_, ?_, ?_⟩
  · rw [a1, q2, show cntB y0 = cntL l from h3.1]
  · rw [a2, q3, show allB y0 = allB (l.getD 0 []) from h3.2.1]
  · rw [a3, q4, show sumB y0 = sumB (l.getD 0 []) from h3.2.2]
theorem any_num {w : World} {Z : List (PV × List Int)} (hf : ∀ z ∈ Z, Fits w z.1 z.2) (k : Nat) : (Z.map Prod.fst).any (fun x => x.1.1 == k) = hasN (Z.map Prod.snd) k := by
  unfold hasN
  rw [List.any_map, List.any_map]
  rw [Bool.eq_iff_iff, List.any_eq_true, List.any_eq_true]
  constructor
  · rintro ⟨z, hz, h⟩
    have h2 := congrArg (fun t => t.1) (hf z hz).1
    simp only at h2
    exact ⟨z, hz, by simp only [Function.comp] at h ⊢; rw [← h2]; exact h⟩
  · rintro ⟨z, hz, h⟩
    have h2 := congrArg (fun t => t.1) (hf z hz).1
    simp only at h2
    exact ⟨z, hz, by simp only [Function.comp] at h ⊢; rw [h2]; exact h⟩
theorem Try.infoVI : (Try.prog.info? 3).map (fun i => (i.zero, i.size, i.bytes)) = some (some (.int .i64 0), 1, 8) := by kernel_rfl
def LacksPost (w : World) (l : List (List Int)) (e : Ending) (w' : World) : Prop :=
  ∃ A' m' c', e = .returned (.tuple #[.slice A' m' c', .int .i64 ((lacksP l).1 : Nat)]) ∧ m' = (lacksP l).2.length ∧ w'.ownsRow w.heap.size 3 1 (.slice A' m' c') m' ((lacksP l).2.map fun k => Value.int .i64 (k : Nat)) ∧ Grow w w'
set_option maxRecDepth 8000 in
set_option maxHeartbeats 2000000 in
theorem lacks_is (w : World) (A : Option Addr) (n c : Nat) (l : List (List Int)) (h : RowsR w A n c l) :
    Calls Try.prog 9 #[.slice A n c] w fun e w' => LacksPost w l e w' := by
  obtain ⟨POST, hPOST⟩ : ∃ POST : Ending → World → Prop, POST = fun e w' => LacksPost w l e w' := ⟨_, rfl⟩
  have HPO := Lib.hid hPOST
  show Calls _ _ _ _ fun x w' => (fun x w' => LacksPost w l x w') x w'
  rw [← hPOST]
  have HP := Lib.hid (parts_is w A n c l h)
  have HN := Lib.hid h
  clear h hPOST
  go_enter Try.func9, Try.ntmps9
  go_wp2_with fail
  refine HP.out.mono ?_
  rintro x w1 ⟨hg1, hbad, hgood⟩
  have HK1 := Lib.hid hg1
  by_cases hs : scanE l = 0
  rotate_left
  · have he := hbad hs
    subst he
    obtain ⟨E, hE⟩ : ∃ E, E = scanE l := ⟨_, rfl⟩
    have e1 : ((scanE l : Int) == 0) = false := by simp; omega
    rw [← hE] at e1 ⊢
    have e2 : ¬ (E : Int) = 0 := by rw [hE]; omega
    have e3 : ((E : Int) != 0) = true := by simp; omega
    have HE := Lib.hid (And.intro hE hs)
    clear hE hs hbad hgood hg1
    go_wp2_with fail
    show POST (.returned (.tuple #[.slice none 0 0, .int .i64 (E : Nat)])) _
    rw [HPO.out]
    exact ⟨none, 0, 0, by rw [lacksP_bad HE.out.2, HE.out.1], by rw [lacksP_bad HE.out.2]; rfl, by rw [lacksP_bad HE.out.2]; exact own_nil _ _ _, HK1.out⟩
  · obtain ⟨g, c1, Z, rfl, hr, hfit, hord⟩ := hgood hs
    have HRP := Lib.hid (hr.rowP HN.out.few)
    have HZ := Lib.hid (And.intro hfit (And.intro hord hs))
    obtain ⟨hn, hnl, hh1, _, _⟩ := headZ HRP.out hfit hord hs
    have hCb : cntL l ≤ 1024 := (readE_zero ((good_of hs).each 0 (by rw [← hnl]; exact hn)).1).2.2.2.1
    obtain ⟨C, hC⟩ : ∃ C, C = cntL l := ⟨_, rfl⟩
    rw [← hC] at hh1 hCb
    have HC := Lib.hid hC
    have hCi : (C : Int) ≤ 1024 := by omega
    have hni0 : (0 : Int) < (n : Int) := by omega
    have HNB : Hid (∀ x ∈ Z.map Prod.fst, x.1.1 ≤ 1024) := fun x hx => by
      obtain ⟨z, hz, rfl⟩ := List.mem_map.1 hx
      have h2 := congrArg (fun t => t.1) (hfit z hz).1
      simp only at h2
      obtain ⟨j, hj, e⟩ := mem_at.1 (List.mem_map_of_mem (f := Prod.snd) hz)
      have h3 := (hord.mem (good_of hs) hj).2.2
      rw [e] at h3
      omega
    clear hbad hgood hg1 hr hfit hord hs hnl hC
    go_wp2_with fail
    clear hh1
    go_loopw [6, 7, 21] (fun vo _ vi wr => ∃ (k m2 : Nat) (A2 : Option Addr) (c2 : Nat), k ≤ C ∧ vi = .int .i64 k ∧ m2 ≤ k ∧ m2 = ((List.range k).filter fun j => !hasN l j).length ∧ vo = .slice A2 m2 c2 ∧ Hid (wr.ownsRow w1.heap.size 3 1 (.slice A2 m2 c2) m2 (((List.range k).filter fun j => !hasN l j).map fun j => Value.int .i64 (j : Nat))) ∧ Hid (Grow w1 wr)) (fun _ _ vi _ => C - (intOf vi).toNat)
    case atStart => exact ⟨0, 0, none, 0, Nat.zero_le _, rfl, Nat.le_refl _, rfl, rfl, own_nil _ _ _, Keeps.refl _ _⟩
    case round =>
      obtain ⟨k, m2, A2, c2, hk, rfl, hm2k, hm2, rfl, HO, HG⟩ := hrel
      have HM2 := Lib.hid hm2
      clear hm2
      by_cases hkC : k < C
      · have hkC' : (k : Int) < (C : Int) := by omega
        have hbi := heap_alloc_new wr (.cells #[.int .i64 (k : Nat)] 3)
        have hki := (Keeps.refl (fun _ => False) wr).alloc (.cells #[.int .i64 (k : Nat)] 3)
        obtain ⟨gb, hgb⟩ : ∃ gb, gb = wr.heap.size := ⟨_, rfl⟩
        rw [← hgb] at hbi
        go_upto_region 8 with fail
        rw [← hgb]
        clear hgb
        generalize wr.alloc (.cells #[.int .i64 (k : Nat)] 3) = w2 at *
        have HB := Lib.hid hbi
        have HO2 := Lib.hid (owns_keep HO.out hki (fun _ _ h => h))
        have HG2 : Hid (Grow w1 w2) := Grow.trans _ _ _ HG.out hki
        have HT : Hid (TellsP w2 (.func (.func 22) #[] #[.pointer (some ⟨gb, 0, none⟩)]) (fun x => x.1.1 == k) (Z.map Prod.fst)) :=
          ⟨_, _, rfl, enters_of Try.func22 (by kernel_rfl) rfl, fun x w2 hx hg => lackf_is w2 gb k x (ckp (by have h9 := blk_cell HB.out 0; simpa using h9) hg (fun h => h)) (by omega) (HNB.out x hx)⟩
        have HCF := Lib.hid (containsP_is w2 (some ⟨g, 0, none⟩) n c1 (Z.map Prod.fst) _ _ (HRP.out.grow HG2.out) HT.out)
        rw [any_num HZ.out.1 k, HZ.out.2.1.has k] at HCF
        clear hbi hki HO HG
        obtain ⟨hb, hhb⟩ : ∃ hb, hb = hasN l k := ⟨_, rfl⟩
        rw [← hhb] at HCF
        have HHB := Lib.hid hhb
        clear hhb
        go_wp2_with fail
        refine HCF.out.mono ?_
        rintro x w3 ⟨rfl, hg3⟩
        have HO3 := Lib.hid (owns_keep HO2.out hg3 (fun _ _ h => h))
        have HG3 : Hid (Grow w1 w3) := Grow.trans _ _ _ HG2.out hg3
        have hbl := ckp (by have h9 := blk_cell HB.out 0; simpa using h9) hg3 (fun h => h)
        clear hg3 HO2 HG2 HCF
        have hstep : ∀ b, b = hasN l k → ((List.range (k + 1)).filter fun j => !hasN l j) = ((List.range k).filter fun j => !hasN l j) ++ (if b then [] else [k]) := fun b hb => by
          rw [List.range_succ, List.filter_append]
          cases b <;> simp [← hb]
        have HST := Lib.hid hstep
        clear hstep
        cases hb
        · have hsz : w1.heap.size ≤ w3.heap.size := HG3.out.size
          have hm2i : (m2 : Int) ≤ 1024 := by omega
          go_wp2_with (at_builtin; refine wpList_app1 rfl (.tmp 28) (.tmp 30) 30 3 rfl Try.underlying30 Try.infoVI rfl w1.heap.size _ m2 _ rfl HO3.out hsz rfl rfl (by unfold maxLen; omega) (by omega) ?_)
          intro g7 cap w4 ho4 hk4 _
          have HO4 : Hid (w4.ownsRow w1.heap.size 3 1 (.slice (some ⟨g7, 0, none⟩) (m2 + 1) cap) (m2 + 1) (((List.range (k + 1)).filter fun j => !hasN l j).map fun j => Value.int .i64 (j : Nat))) := by
            show World.ownsRow _ _ _ _ _ _ _
            rw [HST.out false HHB.out, List.map_append]
            exact ho4
          have HG4 := Lib.hid (grow_own HG3.out HO3.out (Nat.le_refl _) hk4)
          have HM4 : Hid (m2 + 1 = ((List.range (k + 1)).filter fun j => !hasN l j).length) := by
            show _ = _
            rw [HST.out false HHB.out, List.length_append, ← HM2.out]; rfl
          clear ho4 hk4
          go_wp2_with fail
          go_roundw
          case rel => exact ⟨k + 1, m2 + 1, some ⟨g7, 0, none⟩, cap, by omega, by go_num, by omega, HM4.out, rfl, HO4.out, HG4.out⟩
          case measure => simp [intOf]; omega
        · have HO4 : Hid (w3.ownsRow w1.heap.size 3 1 (.slice A2 m2 c2) m2 (((List.range (k + 1)).filter fun j => !hasN l j).map fun j => Value.int .i64 (j : Nat))) := by
            show World.ownsRow _ _ _ _ _ _ _
            rw [HST.out true HHB.out]
            simpa using HO3.out
          have HM4 : Hid (m2 = ((List.range (k + 1)).filter fun j => !hasN l j).length) := by
            show _ = _
            rw [HST.out true HHB.out, List.length_append, ← HM2.out]; rfl
          go_wp2_with fail
          go_roundw
          case rel => exact ⟨k + 1, m2, A2, c2, by omega, by go_num, by omega, HM4.out, rfl, HO4.out, HG3.out⟩
          case measure => simp [intOf]; omega
      · obtain rfl : k = C := by omega
        have HE := Lib.hid (lacksP_good HZ.out.2.2)
        go_wp2_with fail
        show POST (.returned (.tuple #[.slice A2 m2 c2, .int .i64 0])) _
        rw [HPO.out]
        refine ⟨A2, m2, c2, by rw [HE.out]; rfl, by rw [HE.out, ← HC.out]; exact HM2.out, ?_, Grow.trans _ _ _ HK1.out HG.out⟩
        rw [HE.out, ← HC.out]
        exact owns_any_base HO.out HK1.out.size
end Go.Proofs.Ytnjdhkaabpmahaa
