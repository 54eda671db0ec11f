/- volume: parts. -/
import Derived.Test.YtnjdhkaabpmahaaVjD
namespace Go.Proofs.Ytnjdhkaabpmahaa
open Go.RowKit
set_option linter.unusedVariables false
set_option linter.unusedSimpArgs false

/-- Rows of bytes that can be read. -/
structure RowsR (w : World) (A : Option Addr) (n c : Nat) (l : List (List Int)) : Prop where
  len : l.length = n
  cap : n ≤ c
  nil : A = none → c = 0
  at_ : 0 < n → ∃ b o, A = some ⟨b, o, none⟩ ∧ ∀ j, j < n → ∃ A' c', w.cell? ⟨b, o + j, none⟩ = some (.slice A' (l.getD j []).length c') ∧ Nums .u8 w A' (l.getD j []).length c' (l.getD j [])
  sm : ∀ j, j < n → (l.getD j []).length ≤ 140737488355328
  few : n ≤ 1048576
  tot : (l.map List.length).sum ≤ 4194304
theorem RowsR.grow {w w' : World} {A : Option Addr} {n c : Nat} {l : List (List Int)} (h : RowsR w A n c l) (k : Grow w w') : RowsR w' A n c l :=
  ⟨h.len, h.cap, h.nil, fun hn => by
    obtain ⟨b, o, e, hc⟩ := h.at_ hn
    refine ⟨b, o, e, fun j hj => ?_⟩
    obtain ⟨A', c', h1, h2⟩ := hc j hj
    exact ⟨A', c', ckp h1 k (fun h => h), h2.grow k⟩, h.sm, h.few, h.tot⟩
/-- A part as it lies is that of a row. -/
def Fits (w : World) (p : PV) (b : List Int) : Prop := p.1 = (numB b, cntB b, allB b, sumB b) ∧ p.2.2.1 = b.length - 24 ∧ Nums .u8 w p.2.1 p.2.2.1 p.2.2.2 (b.drop 24)
theorem Nums.old {S : Nat → Prop} {k : IntKind} {w w' : World} {A : Option Addr} {n c : Nat} {xs : List Int} (h : Nums k w A n c xs) (q : Keeps S w w') (hS : ∀ b, b < w.heap.size → ¬ S b) : Nums k w' A n c xs :=
  ⟨h.len, h.rng, h.cap, h.nil, fun hn => by
    obtain ⟨b, o, e, hc⟩ := h.at_ hn
    refine ⟨b, o, e, fun j hj => ?_⟩
    have h1 := hc j hj
    exact ckp h1 q (hS b (World.block_lt_of_cell? w _ h1))⟩
theorem Fits.keep {S : Nat → Prop} {w w' : World} {p : PV} {b : List Int} (h : Fits w p b) (k : Keeps S w w') (hS : ∀ b o, p.2.1 = some ⟨b, o, none⟩ → ¬ S b) : Fits w' p b := ⟨h.1, h.2.1, h.2.2.keep k hS⟩
theorem Fits.grow {w w' : World} {p : PV} {b : List Int} (h : Fits w p b) (k : Grow w w') : Fits w' p b := ⟨h.1, h.2.1, h.2.2.grow k⟩
theorem perm_lift {α β : Type} (f : α → β) {a b : List β} (h : a.Perm b) : ∀ Z : List α, b = Z.map f → ∃ Z' : List α, Z'.Perm Z ∧ Z'.map f = a := by
  induction h with
  | nil => intro Z hZ; exact ⟨Z, List.Perm.refl _, hZ.symm⟩
  | cons x h ih =>
    intro Z hZ
    cases Z with
    | nil => cases hZ
    | cons z Z =>
      injection hZ with h1 h2
      obtain ⟨Z', h3, h4⟩ := ih Z h2
      exact ⟨z :: Z', h3.cons z, by rw [List.map_cons, h4, h1]⟩
  | swap x y r =>
    intro Z hZ
    match Z, hZ with
    | z1 :: z2 :: Z, hZ =>
      injection hZ with h1 h2
      injection h2 with h2 h3
      exact ⟨z2 :: z1 :: Z, List.Perm.swap _ _ _, by rw [List.map_cons, List.map_cons, h1, h2, h3]⟩
  | trans h1 h2 ih1 ih2 =>
    intro Z hZ
    obtain ⟨Z1, h3, h4⟩ := ih2 Z hZ
    obtain ⟨Z2, h5, h6⟩ := ih1 Z1 h4.symm
    exact ⟨Z2, h5.trans h3, h6⟩
theorem up_of {l l' : List (List Int)} (G : Good l) (hp : l'.Perm l) (hs : l'.Pairwise fun a b => numB a ≤ numB b) : Ordered l l' := by
  refine ⟨hp, ?_⟩
  have hnd : (l.map numB).Nodup := by
    refine List.pairwise_iff_getElem.2 fun i j hi hj hij => ?_
    have hj' : j < l.length := by simpa using hj
    have := G.apart i j hij hj'
    rw [List.getD_eq_getElem?_getD, List.getD_eq_getElem?_getD, List.getElem?_eq_getElem hj', List.getElem?_eq_getElem (by omega : i < l.length)] at this
    simpa using this
  have hnd' : (l'.map numB).Nodup := (hp.map numB).nodup_iff.2 hnd
  refine List.pairwise_iff_getElem.2 fun i j hi hj hij => ?_
  have h1 := List.pairwise_iff_getElem.1 hs i j hi hj hij
  have h2 := List.pairwise_iff_getElem.1 hnd' i j (by simpa using hi) (by simpa using hj) hij
  simp only [List.getElem_map] at h2
  omega
theorem srcP_new {w : World} (cs : List Value) (t : TypeId) (h5 : cs.length = 1 * 5) (h : ∀ u ∈ cs, u.oneCell' = true) : Src (w.alloc (.cells cs.toArray t)) 5 (some ⟨w.heap.size, 0, none⟩) 1 1 cs := by
  refine ⟨h5, (fun h => nomatch h), (fun ad he j u hj => ?_), h⟩
  injection he with he
  subst he
  rw [Addr.add_mid]
  have h1 := blk_cell (heap_alloc_new w (.cells cs.toArray t)) (0 + j)
  rw [h1]
  simpa using hj
/-- What parts hands back. -/
def PartsPost (w : World) (n : Nat) (l : List (List Int)) (e : Ending) (w' : World) : Prop :=
  Grow w w' ∧ (scanE l ≠ 0 → e = .returned (.tuple #[.slice none 0 0, .int .i64 (scanE l : Nat)])) ∧
  (scanE l = 0 → ∃ (g c : Nat) (Z : List (PV × List Int)), e = .returned (.tuple #[.slice (some ⟨g, 0, none⟩) n c, .int .i64 0]) ∧ PRow w' w.heap.size (some ⟨g, 0, none⟩) n c (Z.map Prod.fst) ∧ (∀ z ∈ Z, Fits w' z.1 z.2) ∧ Ordered l (Z.map Prod.snd))
set_option maxRecDepth 8000 in
set_option maxHeartbeats 4000000 in
theorem parts_is (w : World) (A : Option Addr) (n c : Nat) (l : List (List Int)) (h : RowsR w A n c l) :
    Calls Try.prog 16 #[.slice A n c] w fun e w' => PartsPost w n l e w' := by
  obtain ⟨POST, hPOST⟩ : ∃ POST : Ending → World → Prop, POST = fun e w' => PartsPost w n l e w' := ⟨_, rfl⟩
  have HPO := Lib.hid hPOST
  show Calls _ _ _ _ fun x w' => (fun x w' => PartsPost w n l x w') x w'
  rw [← hPOST]
  have HN := Lib.hid h
  have hni : (n : Int) ≤ 1048576 := by have := h.few; omega
  have hmm := @run_makeMap Try.prog
  by_cases hn0 : n = 0
  · subst hn0
    have hl : l = [] := List.eq_nil_of_length_eq_zero h.len
    have HE : Hid (scanE l = 2) := by rw [hl]; exact rfl
    clear h hl hPOST
    go_enter Try.func16, Try.ntmps16
    go_wp2_with fail
    go_step3
    go_wp2_with fail
    show POST _ _
    rw [HPO.out]
    exact ⟨Keeps.refl _ _, fun _ => by rw [HE.out]; rfl, fun h => by rw [HE.out] at h; cases h⟩
  · have hn1 : ((n : Int) == 0) = false := by simp; omega
    have hn2 : ¬ (n : Int) = 0 := by omega
    have hn3 : (n == 0) = false := by simp; omega
    have HN0 : Hid (0 < n ∧ l.length = n) := ⟨by omega, h.len⟩
    obtain ⟨b, o, rfl, hc⟩ := h.at_ (by omega)
    have HC := Lib.hid hc
    obtain ⟨g0, hg0⟩ : ∃ g0, g0 = w.heap.size := ⟨_, rfl⟩
    have HG0 := Lib.hid hg0
    have hM0 := MapS.new w
    have hK0 : Grow w (w.alloc (.map #[] 0)) := (Keeps.refl _ w).alloc _
    rw [← hg0] at hM0
    clear h hPOST hc hn0
    go_enter Try.func16, Try.ntmps16
    go_wp2_with fail
    go_step3
    go_wp2_with fail
    go_step3
    go_wp2_with fail
    rw [← hg0]
    clear hmm hg0
    generalize w.alloc (.map #[] 0) = w1 at *
    have HM0 := Lib.hid hM0
    have HK0 := Lib.hid hK0
    clear hM0 hK0
    have HSZ : Hid (g0 < w1.heap.size) := HM0.out.lt
    have HBAD : Hid (∀ (err : Nat) (w' : World), scanE l = err → err ≠ 0 → Keeps (fun k => k = g0) w1 w' → POST (.returned (.tuple #[.slice none 0 0, .int .i64 (err : Nat)])) w') := fun err w' h1 h2 h3 => by
      rw [HPO.out]
      exact ⟨Keeps.trans HK0.out h3 fun k hk h => by have h : k = g0 := h; have := HG0.out; omega, fun _ => by rw [h1], fun h => absurd (h1.symm.trans h) h2⟩
    go_loopw [4, 7, 8, 9, 10, 17] (fun vo _ _ _ _ vi wr => ∃ (i : Nat) (A2 : Option Addr) (c2 : Nat) (Z : List (PV × List Int)), i ≤ n ∧ vi = .int .i64 (i : Nat) ∧ vo = .slice A2 i c2 ∧ Hid (PRow wr w1.heap.size A2 i c2 (Z.map Prod.fst)) ∧ Hid (Z.map Prod.snd = l.take i ∧ (∀ z ∈ Z, Fits w z.1 z.2) ∧ ∀ j, j < i → stepE l j = 0) ∧ Hid (MapS wr g0 i (fun k => (l.take i).any fun y => numB y == k)) ∧ Hid (Keeps (fun k => k = g0) w1 wr)) (fun _ _ _ _ _ vi _ => n - (intOf vi).toNat)
    case atStart => exact ⟨0, none, 0, [], Nat.zero_le _, rfl, rfl, ⟨rfl, .inl ⟨rfl, rfl⟩⟩, ⟨rfl, fun z hz => (by cases hz), fun j hj => absurd hj (Nat.not_lt_zero _)⟩, HM0.out, Keeps.refl _ _⟩
    case round =>
      obtain ⟨i, A2, c2, Z, hi, rfl, rfl, HP, HZ, HM, HK⟩ := hrel
      by_cases hin : i < n
      · have hin' : (i : Int) < (n : Int) := by omega
        obtain ⟨A', c', h1, h2⟩ := HC.out i hin
        obtain ⟨y, hy⟩ : ∃ y, y = l.getD i [] := ⟨_, rfl⟩
        obtain ⟨m, hm⟩ : ∃ m, m = y.length := ⟨_, rfl⟩
        rw [← hy, ← hm] at h1 h2
        have hKw : Keeps (fun k => w.heap.size ≤ k) w wr := Keeps.trans (gk HK0.out) HK.out fun k _ h => by have h : k = g0 := h; rw [h, HG0.out]; exact Nat.le_refl _
        have hcell := ckp h1 hKw (fun h9 => by have := World.block_lt_of_cell? w _ h1; simp only at h9 this; omega)
        have hnY : Nums .u8 wr A' m c' y := h2.old hKw (fun b hb h9 => by omega)
        have HY := Lib.hid hnY
        have HYW := Lib.hid h2
        have HYE : Hid (y = l.getD i [] ∧ m = y.length ∧ m ≤ 140737488355328) := ⟨hy, hm, by rw [hm, hy]; exact HN.out.sm i hin⟩
        clear h1 h2 hKw hnY hy hm
        obtain ⟨E, hE⟩ : ∃ E, E = readE y := ⟨_, rfl⟩
        have HE := Lib.hid hE
        clear hE
        go_wp2_with fail
        refine (vread_is wr A' m c' y HY.out HYE.out.2.2).mono ?_
        rintro x w2 ⟨a1, a2, a3, a4, A3, n3, c3, rfl, hg2, hok⟩
        rw [← HE.out] at hok ⊢
        have HOK := Lib.hid hok
        obtain ⟨gp, hgp⟩ : ∃ gp, gp = w2.heap.size := ⟨_, rfl⟩
        have HP2 := Lib.hid (HP.out.grow hg2)
        have HM2 := Lib.hid (HM.out.keep hg2 (fun h => h))
        have HK2 : Hid (Keeps (fun k => k = g0) w1 w2) := Keeps.trans HK.out hg2 fun _ _ h => h.elim
        clear hok hg2 HP HM HK hcell
        by_cases hE0 : E = 0
        rotate_left
        · have e1 : ((E : Int) == 0) = false := by simp; omega
          have e2 : ¬ (E : Int) = 0 := by omega
          have e3 : ((E : Int) != 0) = true := by simp; omega
          have HE0 := Lib.hid hE0
          clear hE0
          go_wp2_with fail
          show POST (.returned (.tuple #[.slice none 0 0, .int .i64 (E : Nat)])) _
          refine HBAD.out E _ ?_ HE0.out (HK2.out.alloc _)
          have h9 : stepE l i = E := by
            unfold stepE
            rw [← HYE.out.1, if_pos (by rw [← HE.out]; exact HE0.out)]
            exact HE.out.symm
          rw [scanE_at (by have := HN0.out; omega) HZ.out.2.2 (by rw [h9]; exact HE0.out), h9]
        · subst hE0
          obtain ⟨v1, v2, v3, v4, v5, v6, v7⟩ := HOK.out rfl
          have HV : Hid (a1 = numB y ∧ a2 = cntB y ∧ a3 = allB y ∧ a4 = sumB y) := ⟨v1, v2, v3, v4⟩
          have HF : Hid (Fits w ((a1, a2, a3, a4), (A3, n3, c3)) y) := ⟨by rw [v1, v2, v3, v4], by rw [v5]; show m - 24 = _; rw [HYE.out.2.1], by
            show Nums _ _ A3 n3 c3 _
            rw [v5, v6, v7]
            exact (HYW.out).drop 24 (by have := (readE_zero HE.out.symm).1; have := HYE.out.2.1; omega)⟩
          have HB : Hid (a1 < a2 ∧ a2 ≤ 1024 ∧ a3 ≤ 268435456 ∧ 1 ≤ a2) := by
            have := readE_zero HE.out.symm
            exact ⟨by rw [v1, v2]; exact this.2.2.2.2.1, by rw [v2]; exact this.2.2.2.1, by rw [v3]; exact this.2.2.2.2.2, by rw [v2]; exact this.2.2.1⟩
          have hb1 : (a1 : Int) < 1024 := by have := HB.out; omega
          have hb2 : (a2 : Int) ≤ 1024 := by have := HB.out; omega
          have hb3 : (a3 : Int) ≤ 268435456 := by have := HB.out; omega
          clear v1 v2 v3 v4 v5 v6 v7 HOK
          go_upto_region 9 with fail
          have hbp := heap_alloc_new w2 (.cells #[.int .i64 (a1 : Nat), .int .i64 (a2 : Nat), .int .i64 (a3 : Nat), .int .u32 (a4 : Nat), .slice A3 n3 c3] 51)
          have hk3 : Grow w2 (w2.alloc (.cells #[.int .i64 (a1 : Nat), .int .i64 (a2 : Nat), .int .i64 (a3 : Nat), .int .u32 (a4 : Nat), .slice A3 n3 c3] 51)) := (Keeps.refl _ w2).alloc _
          rw [← hgp] at hbp ⊢
          have HGP := Lib.hid hgp
          have HGPN : Hid (gp ≠ g0) := by show gp ≠ g0; rw [hgp]; have := HM2.out.lt; omega
          clear hgp
          generalize w2.alloc (.cells #[.int .i64 (a1 : Nat), .int .i64 (a2 : Nat), .int .i64 (a3 : Nat), .int .u32 (a4 : Nat), .slice A3 n3 c3] 51) = w3 at *
          have HD3 := Lib.hid hbp
          have HP3 := Lib.hid (HP2.out.grow hk3)
          have HM3 := Lib.hid (HM2.out.keep hk3 (fun h => h))
          have HK3 : Hid (Keeps (fun k => k = g0) w1 w3) := Keeps.trans HK2.out hk3 fun _ _ h => h.elim
          clear hbp hk3 HP2 HM2 HK2
          by_cases hi0 : 0 < i
          rotate_left
          · have i1 : decide ((0 : Int) < (i : Int)) = false := decide_eq_false (by omega)
            have i2 : decide (0 < i) = false := decide_eq_false (by omega)
            have hi00 : i = 0 := by omega
            have hag : agree (l.getD 0 []) y = True := by
              rw [HYE.out.1, hi00]
              exact eq_true ⟨rfl, rfl, rfl⟩
            clear hi0
            go_upto_region 16 with fail
            clear hi00
            have HAG2 := Lib.hid hag
            clear hag
            obtain ⟨bv, hbv⟩ : ∃ bv, bv = (l.take i).any fun y => numB y == a1 := ⟨_, rfl⟩
            have hlk := HM3.out.look (k := a1) (by have := HB.out; omega)
            rw [← hbv] at hlk
            have HBV := Lib.hid hbv
            have d0 := blk_cell HD3.out 0
            have d1 := blk_cell HD3.out 1
            have d2 := blk_cell HD3.out 2
            have d3 := blk_cell HD3.out 3
            have d4 := blk_cell HD3.out 4
            simp at d0 d1 d2 d3 d4
            clear hbv
            cases bv
            rotate_left
            · go_wp2_with fail
              show POST (.returned (.tuple #[.slice none 0 0, .int .i64 ((30 : Nat) : Int)])) _
              refine HBAD.out 30 _ ?_ (by decide) HK3.out
              have h9 : stepE l i = 30 := by
                unfold stepE
                rw [← HYE.out.1, if_neg (by rw [← HE.out]; simp), if_neg (by rw [HAG2.out]; exact fun h => h trivial)]
                refine if_pos ?_
                obtain ⟨y', hy1, hy2⟩ := List.any_eq_true.1 HBV.out.symm
                obtain ⟨j, hj, e9⟩ := mem_at.1 hy1
                rw [List.length_take] at hj
                refine ⟨j, by omega, ?_⟩
                have h10 : (l.take i).getD j [] = l.getD j [] := by simp [List.getD_eq_getElem?_getD, List.getElem?_take, show j < i by omega]
                rw [← h10, e9, ← HV.out.1]
                simpa using hy2
              rw [scanE_at (by have := HN0.out; omega) HZ.out.2.2 (by rw [h9]; decide), h9]
            · go_wp2_with (at_mapUpdate; refine wpList_putS rfl _ _ _ rfl g0 i a1 _ rfl HM3.out (by unfold maxLen; omega) rfl rfl (by have := HB.out; omega) ?_)
              intro w6 hm6 hk6
              have HM6 := Lib.hid hm6
              have hgpg : gp ≠ g0 := HGPN.out
              have HD6 := Lib.hid (block_keep HD3.out hk6 (fun h9 => hgpg h9))
              have HP6 := Lib.hid (HP3.out.keep hk6 (fun b hb _ h9 => by have h9 : b = g0 := h9; have := HSZ.out; omega))
              have HK6 : Hid (Keeps (fun k => k = g0) w1 w6) := Keeps.trans HK3.out hk6 fun _ _ h => h
              clear hm6 hk6 HM3 HD3 HP3 HK3 hlk d0 d1 d2 d3 d4 hgpg
              have d0 := blk_cell HD6.out 0
              have d1 := blk_cell HD6.out 1
              have d2 := blk_cell HD6.out 2
              have d3 := blk_cell HD6.out 3
              have d4 := blk_cell HD6.out 4
              simp at d0 d1 d2 d3 d4
              have hSz6 : w1.heap.size ≤ w6.heap.size := HK6.out.size
              have HS5 := Lib.hid (srcP_new (w := w6) [.int .i64 (a1 : Nat), .int .i64 (a2 : Nat), .int .i64 (a3 : Nat), .int .u32 (a4 : Nat), .slice A3 n3 c3] 51 rfl (by intro u hu; simp at hu; rcases hu with rfl | rfl | rfl | rfl | rfl <;> rfl))
              have HPA := Lib.hid (owns_any_base (HP6.out.grow ((Keeps.refl (fun _ => False) w6).alloc (.cells #[.int .i64 (a1 : Nat), .int .i64 (a2 : Nat), .int .i64 (a3 : Nat), .int .u32 (a4 : Nat), .slice A3 n3 c3] 51))) (Nat.le_refl _))
              go_wp2_with (at_builtin; refine wpList_appS rfl (.tmp 54) (.tmp 56) 44 51 rfl Try.underlying44 Try.infoPart rfl (by decide) w1.heap.size _ i _ rfl HPA.out (by have := HK6.out.size; simp; omega) (some ⟨w6.heap.size, 0, none⟩) 1 1 _ rfl HS5.out (by unfold maxLen; omega) (by omega) ?_)
              intro A7 c7 w7 ho7 hk7 _
              have HP7 : Hid (PRow w7 w1.heap.size A7 (i + 1) c7 ((Z ++ [(((a1, a2, a3, a4), (A3, n3, c3)), y)]).map Prod.fst)) := by
                show World.ownsRow _ _ _ _ _ _ _
                rw [List.map_append, List.map_singleton, cellsP_snoc]
                exact ho7
              have hk67 : Keeps (fun k => w1.heap.size ≤ k) w6 w7 := Keeps.trans (((Keeps.refl (fun _ => False) w6).alloc _).mono fun _ _ h => h.elim) hk7 fun k hk h9 => own_ge HPA.out k h9
              have HM7 : Hid (MapS w7 g0 (i + 1) (fun k => (l.take (i + 1)).any fun y => numB y == k)) := by
                have h9 := HM6.out.keep hk67 (fun h => by have := HSZ.out; omega)
                have e : (fun k => (l.take (i + 1)).any fun y => numB y == k) = fun j => ((l.take i).any fun y => numB y == j) || (j == a1) := by
                  funext k
                  have hx : l[i]? = some y := by rw [HYE.out.1, List.getD_eq_getElem?_getD, List.getElem?_eq_getElem (by have := HN0.out.2; omega)]; rfl
                  rw [List.take_add_one, hx, List.any_append, HV.out.1]
                  simp
                  rw [Bool.beq_comm]
                show MapS _ _ _ _
                rw [e]
                exact h9
              have HK7 : Hid (Keeps (fun k => k = g0) w1 w7) := Keeps.trans HK6.out hk67 fun k hk h9 => by omega
              have HZ7 : Hid ((Z ++ [(((a1, a2, a3, a4), (A3, n3, c3)), y)]).map Prod.snd = l.take (i + 1) ∧ (∀ z ∈ Z ++ [(((a1, a2, a3, a4), (A3, n3, c3)), y)], Fits w z.1 z.2) ∧ ∀ j, j < i + 1 → stepE l j = 0) := by
                refine ⟨?_, fun z hz => ?_, fun j hj => ?_⟩
                · have hx : l[i]? = some y := by rw [HYE.out.1, List.getD_eq_getElem?_getD, List.getElem?_eq_getElem (by have := HN0.out.2; omega)]; rfl
                  rw [List.map_append, HZ.out.1, List.take_add_one, hx]; rfl
                · rcases List.mem_append.1 hz with hz | hz
                  · exact HZ.out.2.1 z hz
                  · rw [List.mem_singleton.1 hz]; exact HF.out
                · by_cases hji : j < i
                  · exact HZ.out.2.2 j hji
                  · obtain rfl : j = i := by omega
                    unfold stepE
                    rw [← HYE.out.1, if_neg (by rw [← HE.out]; simp), if_neg (by rw [HAG2.out]; exact fun h => h trivial)]
                    refine if_neg ?_
                    rintro ⟨q, hq, e9⟩
                    have h8 := HBV.out
                    have h10 : ((l.take j).any fun y => numB y == a1) = true := List.any_eq_true.2 ⟨l.getD q [], mem_at.2 ⟨q, by rw [List.length_take]; have := HN0.out.2; omega, by simp [List.getD_eq_getElem?_getD, List.getElem?_take, hq]⟩, by rw [e9, HV.out.1]; simp⟩
                    rw [h10] at h8
                    cases h8
              clear ho7 hk7 hk67 HPA HS5 HM6 HP6 HD6 HK6 d0 d1 d2 d3 d4 HZ
              go_wp2_with fail
              refine ⟨⟨i + 1, A7, c7, _, by omega, by go_num, rfl, HP7.out, HZ7.out, HM7.out, HK7.out⟩, ?_⟩
              simp [intOf]; omega

          · have i1 : decide ((0 : Int) < (i : Int)) = true := decide_eq_true (by omega)
            have i2 : decide (0 < i) = true := decide_eq_true hi0
            obtain ⟨gr, e9, hBg, hgl, hcl⟩ := HP3.out.cells hi0
            subst e9
            obtain ⟨Z0, ZR, hZ0⟩ : ∃ Z0 ZR, Z = Z0 :: ZR := by
              cases hz : Z with
              | nil => have h9 := HZ.out.1; rw [hz] at h9; have h8 := congrArg List.length h9; rw [List.length_take] at h8; simp at h8; have := HN0.out; omega
              | cons a r => exact ⟨a, r, rfl⟩
            have hfit := HZ.out.2.1 Z0 (by rw [hZ0]; exact List.mem_cons_self ..)
            have hz0 : Z0.2 = l.getD 0 [] := by
              have h9 := HZ.out.1
              rw [hZ0] at h9
              have h8 := congrArg (fun t : List (List Int) => t.getD 0 []) h9
              simp only [List.map_cons, List.getD_cons_zero] at h8
              rw [h8]
              simp [List.getD_eq_getElem?_getD, List.getElem?_take, hi0]
            have h0 := hcl 0 Z0.1 (by rw [hZ0]; rfl)
            obtain ⟨⟨⟨f1, f2, f3, f4⟩, Af, nf, cf⟩, y0⟩ := Z0
            have r0 := (h0 0 (.int .i64 (f1 : Nat)) rfl).1
            have r1 := (h0 1 (.int .i64 (f2 : Nat)) rfl).1
            have r2 := (h0 2 (.int .i64 (f3 : Nat)) rfl).1
            have r3 := (h0 3 (.int .u32 (f4 : Nat)) rfl).1
            simp only [Nat.zero_mul, Nat.zero_add] at r0 r1 r2 r3
            have hfit1 := hfit.1
            simp only at hz0 hfit1
            obtain ⟨g1, g2, g3, g4⟩ : f1 = numB y0 ∧ f2 = cntB y0 ∧ f3 = allB y0 ∧ f4 = sumB y0 := by simpa using hfit1
            have HFF : Hid (f2 = cntB (l.getD 0 []) ∧ f3 = allB (l.getD 0 []) ∧ f4 = sumB (l.getD 0 [])) := by rw [← hz0]; exact ⟨g2, g3, g4⟩
            have HZE := Lib.hid hZ0
            have HGR : Hid (w1.heap.size ≤ gr ∧ gr < w3.heap.size) := ⟨hBg, hgl⟩
            clear hcl h0 hfit hfit1 hz0 g1 g2 g3 g4 hZ0 hBg hgl
            have hi0i : (0 : Int) < (i : Int) := by omega
            obtain ⟨gh, hgh⟩ : ∃ gh, gh = w3.heap.size := ⟨_, rfl⟩
            go_upto_region 13 with fail
            have hbh := heap_alloc_new w3 (.cells #[.int .i64 (f1 : Nat), .int .i64 (f2 : Nat), .int .i64 (f3 : Nat), .int .u32 (f4 : Nat)] 49)
            have hk4 : Grow w3 (w3.alloc (.cells #[.int .i64 (f1 : Nat), .int .i64 (f2 : Nat), .int .i64 (f3 : Nat), .int .u32 (f4 : Nat)] 49)) := (Keeps.refl _ w3).alloc _
            rw [← hgh] at hbh ⊢
            have HGH : Hid (gh = w3.heap.size) := hgh
            have HGHP : Hid (gp ≠ gh) := by show gp ≠ gh; rw [hgh]; have := blk_lt HD3.out; omega
            clear hgh r0 r1 r2 r3
            generalize w3.alloc (.cells #[.int .i64 (f1 : Nat), .int .i64 (f2 : Nat), .int .i64 (f3 : Nat), .int .u32 (f4 : Nat)] 49) = w4 at *
            have HD4 := Lib.hid (block_keep HD3.out hk4 (fun h => h))
            have HP4 := Lib.hid (HP3.out.grow hk4)
            have HM4 := Lib.hid (HM3.out.keep hk4 (fun h => h))
            have HK4 : Hid (Keeps (fun k => k = g0) w1 w4) := Keeps.trans HK3.out hk4 fun _ _ h => h.elim
            have hz0 := blk_cell HD4.out 0
            have k0 := blk_cell hbh 0
            have kf := blk_frozen hbh 0
            simp at hz0 k0
            have hghs : w1.heap.size ≤ gh := by rw [HGH.out]; exact HK3.out.size
            have hs5 := blk_set hbh 0 (.int .i64 (a1 : Nat))
            have hk5 : Keeps (fun k => k = gh) w4 (w4.setCell ⟨gh, 0, none⟩ (.int .i64 (a1 : Nat))) := Keeps.setCell (S := fun k => k = gh) (Keeps.refl _ w4) (p := ⟨gh, 0, none⟩) (fun _ => rfl) _
            have HD5 := Lib.hid (block_keep HD4.out hk5 (fun h => HGHP.out h))
            have HP5 : Hid (PRow (w4.setCell ⟨gh, 0, none⟩ (.int .i64 (a1 : Nat))) w1.heap.size (some ⟨gr, 0, none⟩) i c2 (Z.map Prod.fst)) := owns_keep HP4.out hk5 fun j hj h9 => by
              have hj : gr = j := by simpa [Value.ownBlock] using hj
              have := HGR.out.2
              have := HGH.out
              have h9 : j = gh := h9
              omega
            have HM5 := Lib.hid (HM4.out.keep hk5 (fun h => by have := HSZ.out; omega))
            have HK5 : Hid (Keeps (fun k => k = g0) w1 (w4.setCell ⟨gh, 0, none⟩ (.int .i64 (a1 : Nat)))) := Keeps.trans HK4.out hk5 fun k hk h9 => by omega
            clear hbh hk4 HD3 HP3 HM3 HK3 HD4 HP4 HM4 HK4 hk5 hghs
            go_upto_region 14 with fail
            generalize w4.setCell ⟨gh, 0, none⟩ (.int .i64 (a1 : Nat)) = w5 at *
            clear hz0 k0 kf
            have m0 := blk_cell hs5 0
            have m1 := blk_cell hs5 1
            have m2 := blk_cell hs5 2
            have m3 := blk_cell hs5 3
            have q0 := blk_cell HD5.out 0
            have q1 := blk_cell HD5.out 1
            have q2 := blk_cell HD5.out 2
            have q3 := blk_cell HD5.out 3
            simp at m0 m1 m2 m3 q0 q1 q2 q3
            rcases Classical.em (a2 = f2 ∧ a3 = f3 ∧ a4 = f4) with hag9 | hag9
            rotate_left
            · have hne9 : ¬ agree (l.getD 0 []) y := fun h => hag9 ⟨by rw [HV.out.2.1, HFF.out.1]; exact h.1, by rw [HV.out.2.2.1, HFF.out.2.1]; exact h.2.1, by rw [HV.out.2.2.2, HFF.out.2.2]; exact h.2.2⟩
              have HS9 : Hid (scanE l = 11) := by
                have h9 : stepE l i = 11 := by
                  unfold stepE
                  rw [← HYE.out.1, if_neg (by rw [← HE.out]; simp), if_pos hne9]
                show scanE l = 11
                rw [scanE_at (by have := HN0.out; omega) HZ.out.2.2 (by rw [h9]; decide), h9]
              have key : ¬ a2 = f2 ∨ (a2 = f2 ∧ ¬ a3 = f3) ∨ (a2 = f2 ∧ a3 = f3 ∧ ¬ a4 = f4) := by omega
              clear hag9 hne9 HV HFF HF
              rcases key with e5 | ⟨rfl, e5⟩ | ⟨rfl, rfl, e5⟩
              · have e6 : ((a2 : Int) == (f2 : Int)) = false := by simp; omega
                have e7 : (a2 == f2) = false := by simp; omega
                have e8 : ¬ (a2 : Int) = (f2 : Int) := by omega
                go_wp2_with fail
                show POST (.returned (.tuple #[.slice none 0 0, .int .i64 ((11 : Nat) : Int)])) _
                exact HBAD.out 11 _ HS9.out (by decide) HK5.out
              · have e6 : ((a3 : Int) == (f3 : Int)) = false := by simp; omega
                have e7 : (a3 == f3) = false := by simp; omega
                have e8 : ¬ (a3 : Int) = (f3 : Int) := by omega
                go_wp2_with fail
                show POST (.returned (.tuple #[.slice none 0 0, .int .i64 ((11 : Nat) : Int)])) _
                exact HBAD.out 11 _ HS9.out (by decide) HK5.out
              · have e6 : ((a4 : Int) == (f4 : Int)) = false := by simp; omega
                have e7 : (a4 == f4) = false := by simp; omega
                have e8 : ¬ (a4 : Int) = (f4 : Int) := by omega
                go_wp2_with fail
                show POST (.returned (.tuple #[.slice none 0 0, .int .i64 ((11 : Nat) : Int)])) _
                exact HBAD.out 11 _ HS9.out (by decide) HK5.out
            · obtain ⟨g2, g3, g4⟩ := hag9
              have hag : agree (l.getD 0 []) y = True := eq_true ⟨by rw [← HV.out.2.1, ← HFF.out.1]; exact g2, by rw [← HV.out.2.2.1, ← HFF.out.2.1]; exact g3, by rw [← HV.out.2.2.2, ← HFF.out.2.2]; exact g4⟩
              clear HFF
              subst g2
              subst g3
              subst g4
              go_upto_region 16 with fail
              clear m0 m1 m2 m3 q0 q1 q2 q3 hs5
              have HAG2 := Lib.hid hag
              clear hag
              obtain ⟨bv, hbv⟩ : ∃ bv, bv = (l.take i).any fun y => numB y == a1 := ⟨_, rfl⟩
              have hlk := HM5.out.look (k := a1) (by have := HB.out; omega)
              rw [← hbv] at hlk
              have HBV := Lib.hid hbv
              have d0 := blk_cell HD5.out 0
              have d1 := blk_cell HD5.out 1
              have d2 := blk_cell HD5.out 2
              have d3 := blk_cell HD5.out 3
              have d4 := blk_cell HD5.out 4
              simp at d0 d1 d2 d3 d4
              clear hbv
              cases bv
              rotate_left
              · go_wp2_with fail
                show POST (.returned (.tuple #[.slice none 0 0, .int .i64 ((30 : Nat) : Int)])) _
                refine HBAD.out 30 _ ?_ (by decide) HK5.out
                have h9 : stepE l i = 30 := by
                  unfold stepE
                  rw [← HYE.out.1, if_neg (by rw [← HE.out]; simp), if_neg (by rw [HAG2.out]; exact fun h => h trivial)]
                  refine if_pos ?_
                  obtain ⟨y', hy1, hy2⟩ := List.any_eq_true.1 HBV.out.symm
                  obtain ⟨j, hj, e9⟩ := mem_at.1 hy1
                  rw [List.length_take] at hj
                  refine ⟨j, by omega, ?_⟩
                  have h10 : (l.take i).getD j [] = l.getD j [] := by simp [List.getD_eq_getElem?_getD, List.getElem?_take, show j < i by omega]
                  rw [← h10, e9, ← HV.out.1]
                  simpa using hy2
                rw [scanE_at (by have := HN0.out; omega) HZ.out.2.2 (by rw [h9]; decide), h9]
              · go_wp2_with (at_mapUpdate; refine wpList_putS rfl _ _ _ rfl g0 i a1 _ rfl HM5.out (by unfold maxLen; omega) rfl rfl (by have := HB.out; omega) ?_)
                intro w6 hm6 hk6
                have HM6 := Lib.hid hm6
                have hgpg : gp ≠ g0 := HGPN.out
                have HD6 := Lib.hid (block_keep HD5.out hk6 (fun h9 => hgpg h9))
                have HP6 := Lib.hid (HP5.out.keep hk6 (fun b hb _ h9 => by have h9 : b = g0 := h9; have := HSZ.out; omega))
                have HK6 : Hid (Keeps (fun k => k = g0) w1 w6) := Keeps.trans HK5.out hk6 fun _ _ h => h
                clear hm6 hk6 HM5 HD5 HP5 HK5 hlk d0 d1 d2 d3 d4 hgpg
                have d0 := blk_cell HD6.out 0
                have d1 := blk_cell HD6.out 1
                have d2 := blk_cell HD6.out 2
                have d3 := blk_cell HD6.out 3
                have d4 := blk_cell HD6.out 4
                simp at d0 d1 d2 d3 d4
                have hSz6 : w1.heap.size ≤ w6.heap.size := HK6.out.size
                have HS5 := Lib.hid (srcP_new (w := w6) [.int .i64 (a1 : Nat), .int .i64 (a2 : Nat), .int .i64 (a3 : Nat), .int .u32 (a4 : Nat), .slice A3 n3 c3] 51 rfl (by intro u hu; simp at hu; rcases hu with rfl | rfl | rfl | rfl | rfl <;> rfl))
                have HPA := Lib.hid (owns_any_base (HP6.out.grow ((Keeps.refl (fun _ => False) w6).alloc (.cells #[.int .i64 (a1 : Nat), .int .i64 (a2 : Nat), .int .i64 (a3 : Nat), .int .u32 (a4 : Nat), .slice A3 n3 c3] 51))) (Nat.le_refl _))
                go_wp2_with (at_builtin; refine wpList_appS rfl (.tmp 54) (.tmp 56) 44 51 rfl Try.underlying44 Try.infoPart rfl (by decide) w1.heap.size _ i _ rfl HPA.out (by have := HK6.out.size; simp; omega) (some ⟨w6.heap.size, 0, none⟩) 1 1 _ rfl HS5.out (by unfold maxLen; omega) (by omega) ?_)
                intro A7 c7 w7 ho7 hk7 _
                have HP7 : Hid (PRow w7 w1.heap.size A7 (i + 1) c7 ((Z ++ [(((a1, a2, a3, a4), (A3, n3, c3)), y)]).map Prod.fst)) := by
                  show World.ownsRow _ _ _ _ _ _ _
                  rw [List.map_append, List.map_singleton, cellsP_snoc]
                  exact ho7
                have hk67 : Keeps (fun k => w1.heap.size ≤ k) w6 w7 := Keeps.trans (((Keeps.refl (fun _ => False) w6).alloc _).mono fun _ _ h => h.elim) hk7 fun k hk h9 => own_ge HPA.out k h9
                have HM7 : Hid (MapS w7 g0 (i + 1) (fun k => (l.take (i + 1)).any fun y => numB y == k)) := by
                  have h9 := HM6.out.keep hk67 (fun h => by have := HSZ.out; omega)
                  have e : (fun k => (l.take (i + 1)).any fun y => numB y == k) = fun j => ((l.take i).any fun y => numB y == j) || (j == a1) := by
                    funext k
                    have hx : l[i]? = some y := by rw [HYE.out.1, List.getD_eq_getElem?_getD, List.getElem?_eq_getElem (by have := HN0.out.2; omega)]; rfl
                    rw [List.take_add_one, hx, List.any_append, HV.out.1]
                    simp
                    rw [Bool.beq_comm]
                  show MapS _ _ _ _
                  rw [e]
                  exact h9
                have HK7 : Hid (Keeps (fun k => k = g0) w1 w7) := Keeps.trans HK6.out hk67 fun k hk h9 => by omega
                have HZ7 : Hid ((Z ++ [(((a1, a2, a3, a4), (A3, n3, c3)), y)]).map Prod.snd = l.take (i + 1) ∧ (∀ z ∈ Z ++ [(((a1, a2, a3, a4), (A3, n3, c3)), y)], Fits w z.1 z.2) ∧ ∀ j, j < i + 1 → stepE l j = 0) := by
                  refine ⟨?_, fun z hz => ?_, fun j hj => ?_⟩
                  · have hx : l[i]? = some y := by rw [HYE.out.1, List.getD_eq_getElem?_getD, List.getElem?_eq_getElem (by have := HN0.out.2; omega)]; rfl
                    rw [List.map_append, HZ.out.1, List.take_add_one, hx]; rfl
                  · rcases List.mem_append.1 hz with hz | hz
                    · exact HZ.out.2.1 z hz
                    · rw [List.mem_singleton.1 hz]; exact HF.out
                  · by_cases hji : j < i
                    · exact HZ.out.2.2 j hji
                    · obtain rfl : j = i := by omega
                      unfold stepE
                      rw [← HYE.out.1, if_neg (by rw [← HE.out]; simp), if_neg (by rw [HAG2.out]; exact fun h => h trivial)]
                      refine if_neg ?_
                      rintro ⟨q, hq, e9⟩
                      have h8 := HBV.out
                      have h10 : ((l.take j).any fun y => numB y == a1) = true := List.any_eq_true.2 ⟨l.getD q [], mem_at.2 ⟨q, by rw [List.length_take]; have := HN0.out.2; omega, by simp [List.getD_eq_getElem?_getD, List.getElem?_take, hq]⟩, by rw [e9, HV.out.1]; simp⟩
                      rw [h10] at h8
                      cases h8
                clear ho7 hk7 hk67 HPA HS5 HM6 HP6 HD6 HK6 d0 d1 d2 d3 d4 HZ
                go_wp2_with fail
                refine ⟨⟨i + 1, A7, c7, _, by omega, by go_num, rfl, HP7.out, HZ7.out, HM7.out, HK7.out⟩, ?_⟩
                simp [intOf]; omega

      · obtain rfl : i = n := by omega
        obtain ⟨gr, e9, hBg, hgl, _⟩ := HP.out.cells HN0.out.1
        subst e9
        have HSS := Lib.hid (sort_is wr w1.heap.size gr i c2 (Z.map Prod.fst) HP.out HN0.out.1 HN.out.few)
        have hS0 : scanE l = 0 := scanE_end (fun e => by have := HN0.out; rw [e] at this; simp at this; omega) (fun j hj => HZ.out.2.2 j (by have := HN0.out.2; omega))
        have HS0 := Lib.hid hS0
        have HGR : Hid (w1.heap.size ≤ gr) := hBg
        clear hS0 hgl hBg
        go_wp2_with fail
        refine HSS.out.mono ?_
        rintro x w2 ⟨rfl, L', hp, hu, hr, hk⟩
        have HP2 := Lib.hid (And.intro hp (And.intro hu hr))
        have hkA : Keeps (fun k => k = g0 ∨ k = gr) w1 w2 := Keeps.trans (HK.out.mono fun _ _ h => Or.inl h) hk fun _ _ h => Or.inr h
        have HK2 : Hid (Grow w w2) := Keeps.trans HK0.out hkA fun k hk h => by have := HG0.out; have := HGR.out; have := HSZ.out; rcases h with h | h <;> omega
        clear hkA
        clear hp hu hr hk HSS
        go_wp2_with fail
        show POST (.returned (.tuple #[.slice (some ⟨gr, 0, none⟩) i c2, .int .i64 0])) _
        rw [HPO.out]
        refine ⟨HK2.out, fun h => absurd HS0.out h, fun _ => ?_⟩
        obtain ⟨hp, hu, hr⟩ := HP2.out
        obtain ⟨Z', hz1, hz2⟩ := perm_lift Prod.fst hp Z rfl
        have hfit : ∀ z ∈ Z', Fits w z.1 z.2 := fun z hz => HZ.out.2.1 z (hz1.mem_iff.1 hz)
        have hsn : (Z.map Prod.snd) = l := by rw [HZ.out.1, List.take_of_length_le (by have := HN0.out.2; omega)]
        refine ⟨gr, c2, Z', rfl, ?_, fun z hz => (hfit z hz).grow HK2.out, ?_⟩
        · rw [hz2]; exact owns_any_base hr (by have := HK0.out.size; exact this)
        · refine up_of (good_of HS0.out) (by rw [← hsn]; exact hz1.map _) ?_
          rw [← hz2] at hu
          refine List.pairwise_map.2 (List.Pairwise.imp_of_mem (fun {a b} ha hb h => ?_) (List.pairwise_map.1 hu))
          have h1 := congrArg (fun t => t.1) (hfit a ha).1
          have h2 := congrArg (fun t => t.1) (hfit b hb).1
          simp only at h1 h2
          rw [← h1, ← h2]
          exact h
end Go.Proofs.Ytnjdhkaabpmahaa
