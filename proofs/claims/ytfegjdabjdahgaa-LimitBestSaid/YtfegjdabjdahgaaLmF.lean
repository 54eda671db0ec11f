/- limit.Lengths walked. -/
import Derived.Test.YtfegjdabjdahgaaLmE
import Derived.Laws.EntriesVeiled
namespace Go.Proofs.Ytfegjdabjdahgaa
open Go.RowKit
set_option linter.unusedVariables false
set_option linter.unusedSimpArgs false

theorem Try.infoI64L : (Try.prog.info? 3).map (fun i => (i.zero, i.size, i.bytes)) = some (some (.int .i64 0), 1, 8) := by kernel_rfl
theorem comers_snoc (xs : List Int) (i : Nat) (h : i < xs.length) : comers 0 (xs.take (i + 1)) = comers 0 (xs.take i) ++ (if 0 < xs.getD i 0 then [((xs.getD i 0).toNat, i)] else []) := by
  have e : xs.take (i + 1) = xs.take i ++ [xs.getD i 0] := by
    rw [List.take_succ_eq_append_getElem h]
    simp [List.getD_eq_getElem?_getD, h]
  rw [e, comers_append]
  congr 1
  rw [List.length_take, Nat.min_eq_left (by omega), Nat.zero_add]
  rfl
theorem rowF_asc {w : World} {B g cap k : Nat} {ps : List PC} {cs : List (Nat × Nat)} (h : w.ownsRow B 37 1 (.slice (some ⟨g, 0, none⟩) k cap) k (ps.map ptrOf)) (hc : Coins w ps) (ht : ps.map (·.1) = cs.map leafT) (hb : ∀ p ∈ cs, p.1 ≤ 1099511627776) (hk : 0 < k) (ha : cs.Pairwise (fun a b => a.2 < b.2)) : ∀ p q, p < q → q < k → (ordOf w).ix (fOf ps p) < (ordOf w).ix (fOf ps q) := by
  intro p q hpq hq
  obtain ⟨_, h2⟩ := rowF_of h hc ht hb hk
  have hl : cs.length = k := by rw [← h2]; simp
  have e : ∀ j, (hj : j < k) → cs[j]'(by omega) = (((ordOf w).wo (fOf ps j)).toNat, (ordOf w).ix (fOf ps j)) := fun j hj => by
    have h3 : cs[j]? = (((List.range k).map (fOf ps)).map (fun b => (((ordOf w).wo b).toNat, (ordOf w).ix b)))[j]? := by rw [h2]
    rw [List.getElem?_eq_getElem (by omega), List.getElem?_eq_getElem (by simpa using hj)] at h3
    injection h3 with h3
    rw [h3]
    simp
  have h4 := List.pairwise_iff_getElem.1 ha p q (by omega) (by omega) hpq
  rw [e p (by omega), e q hq] at h4
  exact h4
set_option maxRecDepth 8000 in
set_option maxHeartbeats 8000000 in
theorem lengths_is (w : World) (A : Option Addr) (n c : Nat) (xs : List Int) (most : Int) (h : Nums .i64 w A n c xs) (hn : n ≤ 140737488355328) (hm : inKind .i64 most) :
    Calls Try.prog 6 #[.slice A n c, .int .i64 most] w fun e w' => ∃ A' c' k, e = .returned (.tuple #[.slice A' k c', .int .i64 (limP xs most).2]) ∧ w'.ownsRow w.heap.size 3 1 (.slice A' k c') k ((limP xs most).1.map (Value.int .i64)) ∧ Grow w w' := by
  have HW := Lib.hid (wrong_is w A n c xs most h hn hm)
  have hR : Hid (limP xs most = if wrongP xs most ≠ 0 then ([], wrongP xs most) else if 2 ^ most.toNat < (baseP xs).length then ([], 13) else (lensP xs most.toNat, 0)) := rfl
  obtain ⟨R, hRe⟩ : ∃ R, R = limP xs most := ⟨_, rfl⟩
  rw [← hRe] at hR ⊢
  clear hRe
  have H := Lib.hid h
  have hmk := inKind_i64 hm
  by_cases hw : wrongP xs most = 0
  case neg =>
    have hR2 : R = ([], wrongP xs most) := by rw [hR.out, if_pos hw]
    subst hR2
    clear hR
    generalize wrongP xs most = bad at *
    have hb1 : (bad == 0) = false := by simpa using hw
    have hb2 : decide (bad = 0) = false := decide_eq_false hw
    clear h hm
    go_enter Try.func6, Try.ntmps6
    go_wp2_with fail
    refine HW.out.mono ?_
    rintro e w1 ⟨rfl, rfl⟩
    go_wp2_with fail
    go_ret2
    exact ⟨none, 0, 0, rfl, own_nil _ _ _, Keeps.refl _ _⟩
  obtain ⟨hm1, hm20, hxl, hx0, hsum⟩ := wrong_ok hw
  rw [hw] at HW
  have HR : Hid (R = if 2 ^ most.toNat < (baseP xs).length then ([], 13) else (lensP xs most.toNat, 0)) := by
    show _ = _
    rw [hR.out, if_neg (by rw [hw]; simp)]
  obtain ⟨m, rfl⟩ : ∃ m : Nat, most = (m : Int) := ⟨most.toNat, by omega⟩
  rw [Int.toNat_natCast] at HR
  have hm1n : 1 ≤ m := by omega
  have hm20n : m ≤ 20 := by omega
  have hn6 : n ≤ 65536 := by rw [← h.len]; exact hxl
  have HL := Lib.hid h.len
  have HX0 := Lib.hid hx0
  have HSUM := Lib.hid hsum
  have hni : (n : Int) ≤ 65536 := by omega
  clear hR hw h hm hmk hxl hx0 hsum hn
  go_enter Try.func6, Try.ntmps6
  go_wp2_with fail
  refine HW.out.mono ?_
  rintro e w1 ⟨rfl, rfl⟩
  clear HW
  go_wp2_with fail
  go_loopw [7, 8, 9, 25] (fun vb _ _ vi wr => ∃ (i k c1 : Nat) (A1 : Option Addr) (ps : List PC), i ≤ n ∧ vi = .int .i64 (i : Nat) ∧ vb = .slice A1 k c1 ∧ k ≤ i ∧ Hid (wr.ownsRow w1.heap.size 37 1 (.slice A1 k c1) k (ps.map ptrOf)) ∧ Hid (Coins wr ps) ∧ Hid (ps.map (·.1) = (comers 0 (xs.take i)).map leafT) ∧ Hid (Grow w1 wr)) (fun _ _ _ vi _ => n - (intOf vi).toNat)
  case atStart => exact ⟨0, 0, 0, none, [], Nat.zero_le _, by simp, rfl, Nat.le_refl _, own_nil _ _ _, fun p hp => (by cases hp), rfl, Keeps.refl _ _⟩
  case round =>
    obtain ⟨i, k, c1, A1, ps, hi, rfl, rfl, hki, HO, HC, HT, HG⟩ := hrel
    by_cases hin : i < n
    · have hini : (i : Int) < (n : Int) := by omega
      have HNr := Lib.hid (H.out.grow HG.out)
      obtain ⟨ba, oa, rfl, hcell⟩ := HNr.out.at_ (by omega)
      have cx := hcell i hin
      have hsn := comers_snoc xs i (by rw [HL.out]; exact hin)
      have hx := HX0.out (xs.getD i 0) (by rw [List.getD_eq_getElem?_getD, List.getElem?_eq_getElem (by rw [HL.out]; exact hin)]; exact List.getElem_mem _)
      have hzg := HG.out.size
      generalize xs.getD i 0 = x at *
      clear hcell HNr
      by_cases hx0 : 0 < x
      · obtain ⟨v, rfl⟩ : ∃ v : Nat, x = (v : Int) := ⟨x.toNat, by omega⟩
        rw [if_pos hx0, Int.toNat_natCast] at hsn
        have HSN := Lib.hid hsn
        have HOa := Lib.hid (owns_keep HO.out ((Keeps.refl (fun _ => False) wr).alloc (coinBlk v i none none)) (fun _ _ h => h))
        have HCa := Lib.hid (HC.out.grow ((Keeps.refl (fun _ => False) wr).alloc (coinBlk v i none none)))
        have HGa : Hid (Grow w1 (wr.alloc (coinBlk v i none none))) := HG.out.alloc _
        obtain ⟨g, hg⟩ : ∃ g, g = wr.heap.size := ⟨_, rfl⟩
        have HBa : Hid ((wr.alloc (coinBlk v i none none)).heap[g]? = some (coinBlk v i none none)) := by
          show _ = _
          rw [hg]; exact heap_alloc_new wr _
        have hza : w1.heap.size ≤ (wr.alloc (coinBlk v i none none)).heap.size := by simp; omega
        have hE : (wr.alloc (coinBlk v i none none)).heap.size = g + 1 := by rw [hg]; simp
        unfold coinBlk at HOa HCa HGa HBa hza hE
        clear hsn
        go_wp2_with (at_builtin; refine wpList_app1 rfl (.tmp 32) (.tmp 37) 36 37 rfl Try.underlying36 Try.infoPtr rfl w1.heap.size _ k _ rfl HOa.out hza (by simp; rfl) rfl (by unfold maxLen; omega) (by omega) ?_)
        intro g2 c4 w7 ho7 hk7 hm7
        rw [← hg] at ho7
        have HO7 : Hid (w7.ownsRow w1.heap.size 37 1 (.slice (some ⟨g2, 0, none⟩) (k + 1) c4) (k + 1) ((ps ++ [(CoinT.leaf v i, g)]).map ptrOf)) := by
          show World.ownsRow _ _ _ _ _ _ _
          rw [List.map_append]
          exact ho7
        have hNC := noCoin_row HOa.out (show 37 ≠ 39 by decide)
        have HC7 : Hid (Coins w7 (ps ++ [(CoinT.leaf v i, g)])) := fun p hp => by
          rcases List.mem_append.1 hp with h9 | h9
          · exact (HCa.out p h9).keep hk7 hNC
          · rw [List.mem_singleton.1 h9]
            exact CoinAt.keep (t := .leaf v i) hk7 hNC HBa.out
        have HT7 : Hid ((ps ++ [(CoinT.leaf v i, g)]).map (·.1) = (comers 0 (xs.take (i + 1))).map leafT) := by
          show _ = _
          rw [HSN.out, List.map_append, List.map_append, HT.out]
          rfl
        have HG7 : Hid (Grow w1 w7) := Keeps.trans HGa.out hk7 fun b hb e => by have := own_ge HOa.out b e; omega
        clear ho7 hk7 hm7 HOa HCa HGa HBa hza HO HC HT HG hNC hE
        go_wp2_with fail
        go_roundw
        case rel => exact ⟨i + 1, k + 1, _, _, _, hin, by go_num, rfl, by omega, HO7.out, HC7.out, HT7.out, HG7.out⟩
        case measure => simp [intOf]; omega
      · rw [if_neg hx0, List.append_nil] at hsn
        have HT2 : Hid (ps.map (·.1) = (comers 0 (xs.take (i + 1))).map leafT) := by
          show _ = _
          rw [hsn]; exact HT.out
        clear hsn
        go_wp2_with fail
        go_roundw
        case rel => exact ⟨i + 1, k, _, _, _, hin, by go_num, rfl, by omega, HO.out, HC.out, HT2.out, HG.out⟩
        case measure => simp [intOf]; omega
    · obtain rfl : n = i := by omega
      have HT2 : Hid (ps.map (·.1) = (comers 0 xs).map leafT) := by
        show _ = _
        have h9 := HT.out
        rw [List.take_of_length_le (by rw [HL.out]; exact Nat.le_refl _)] at h9
        exact h9
      have hkb : (baseP xs).length = k := by
        have h1 := congrArg List.length HT2.out
        have h2 := HO.out.1
        simp at h1 h2
        rw [(baseP_perm xs).length_eq]
        omega
      rw [hkb] at HR
      have HKB := Lib.hid hkb
      have hki2 : (k : Int) ≤ 65536 := by omega
      have hini : ¬ (n : Int) < (n : Int) := by omega
      clear HT hkb hini
      obtain ⟨M, hM⟩ : ∃ M, M = 2 ^ m := ⟨_, rfl⟩
      rw [← hM] at HR
      have hM2 : M ≤ 1048576 := by
        rw [hM]
        exact Nat.pow_le_pow_right (by decide) hm20n (n := 2)
      have hMw : wrap64 ((2 : Int) ^ m) = (M : Int) := by
        have h7 : (2 : Int) ^ m = ((2 ^ m : Nat) : Int) := by simp
        rw [h7, ← hM]
        unfold wrap64
        omega
      have HM := Lib.hid hM
      clear hM
      by_cases hbig : M < k
      · have hR2 : R = ([], 13) := by rw [HR.out, if_pos hbig]
        subst hR2
        have hbi : (M : Int) < (k : Int) := by omega
        go_wp2_with fail
        go_ret2
        exact ⟨none, 0, 0, rfl, own_nil _ _ _, HG.out⟩
      · have HR2 : Hid (R = (lensP xs m, 0)) := by
          show _ = _
          rw [HR.out, if_neg hbig]
        have hbi : ¬ (M : Int) < (k : Int) := by omega
        clear HR
        have hk0 : k ≤ n := hki
        by_cases hk2 : k < 2
        · have hk2i : (k : Int) < 2 := by omega
          go_wp2_with (refine wpList_make rfl (.tmp 46) (.tmp 46) 22 3 rfl Try.underlying22 Try.infoI64L rfl n rfl rfl (by omega) (by unfold maxLen; omega) ?_; intro w6 ho6 hg6 hz6)
          obtain ⟨go, hgo⟩ : ∃ go, go = wr.heap.size := ⟨_, rfl⟩
          have HLR : Hid (LenRow w6 go n (List.replicate n 0)) := by
            rw [← hgo] at ho6
            exact LenRow.of_own (by rw [List.map_replicate]; exact ho6) (by omega)
          have HG6 := Lib.hid (Grow.trans _ _ _ HG.out hg6)
          have HP6 := Lib.hid ((Ptrs.of_own HO.out HC.out).grow hg6)
          have hgz : w1.heap.size ≤ go := by rw [hgo]; exact HG.out.size
          have HSS : Hid (∀ (i : Nat) (p : PC), ps[i]? = some p → ∃ v s, p.1 = CoinT.leaf v s ∧ ((comers 0 xs).map (·.2))[i]? = some s ∧ s < n) := fun i p hp => by
            have h1 : (ps.map (·.1))[i]? = ((comers 0 xs).map leafT)[i]? := by rw [HT2.out]
            rw [List.getElem?_map, List.getElem?_map, hp] at h1
            cases hcq : (comers 0 xs)[i]? with
            | none => rw [hcq] at h1; cases h1
            | some c =>
              rw [hcq] at h1
              injection h1 with h1
              refine ⟨c.1, c.2, h1, by rw [List.getElem?_map, hcq]; rfl, ?_⟩
              have := comers_ge xs 0 c (List.mem_of_getElem? hcq)
              rw [HL.out] at this
              omega
          have HBK : Hid (0 < k → ∀ b o, A1 = some ⟨b, o, none⟩ → b ≠ go) := fun h0 b o e => by
            obtain ⟨b2, o2, e2, hc2⟩ := (Ptrs.of_own HO.out HC.out).at_ h0
            rw [e] at e2
            injection e2 with e2
            injection e2 with e2 _
            subst e2
            have hl9 : ps.length = k := (Ptrs.of_own HO.out HC.out).len
            have := World.block_lt_of_cell? wr _ (hc2 0 _ (List.getElem?_eq_getElem (by omega)))
            rw [hgo]
            exact Nat.ne_of_lt this
          simp only [← hgo]
          clear ho6 hg6 hz6 HO HC HG hgo HT2
          go_wp2_with fail
          go_loopw [12, 53] (fun _ vi wr => ∃ (i : Nat), i ≤ k ∧ vi = .int .i64 (i : Nat) ∧ Hid (LenRow wr go n (bumpL (List.replicate n 0) (((comers 0 xs).map (·.2)).take i))) ∧ Hid (Keeps (fun x => x = go) w6 wr)) (fun _ vi _ => k - (intOf vi).toNat)
          case atStart => exact ⟨0, Nat.zero_le _, by simp, HLR.out, Keeps.refl _ _⟩
          case round =>
            obtain ⟨i, hi, rfl, HR6, HK⟩ := hrel
            by_cases hik : i < k
            · have hiki : (i : Int) < (k : Int) := by omega
              obtain rfl : i = 0 := by omega
              have HPr := Lib.hid (HP6.out.keep HK.out (fun b o e hb => HBK.out hik b o e hb) HLR.out.noCoin)
              have hpl := HPr.out.len
              obtain ⟨p, hp⟩ : ∃ p, ps[0]? = some p := ⟨_, List.getElem?_eq_getElem (by omega)⟩
              obtain ⟨v, sy, hl, hs, hsn⟩ := HSS.out 0 p hp
              obtain ⟨b, o, rfl, hcell⟩ := HPr.out.at_ hik
              have c0 : wr.cell? ⟨b, o + 0, none⟩ = some (.pointer (some ⟨p.2, 0, none⟩)) := hcell 0 p hp
              rw [Nat.add_zero] at c0
              have hcl := HPr.out.coins p (List.mem_of_getElem? hp)
              rw [hl] at hcl
              have c1 : wr.cell? ⟨p.2, 1, none⟩ = some (.int .i64 (sy : Nat)) := by rw [blk_cell (show wr.heap[p.2]? = some (coinBlk v sy none none) from hcl)]; rfl
              have hst : ((comers 0 xs).map (·.2)).take 1 = [sy] := by
                have h9 : ∀ l : List Nat, l[0]? = some sy → l.take 1 = [sy] := fun l hl9 => by
                  cases l with
                  | nil => cases hl9
                  | cons a l => simp at hl9; simp [hl9]
                exact h9 _ hs
              have hrs := HR6.out
              rw [List.take_zero] at hrs
              have hset := hrs.set hsn 1
              have cz := hrs.cell hsn
              have fz := hrs.frz sy
              have HN : Hid (LenRow (wr.setCell ⟨go, sy, none⟩ (.int .i64 1)) go n (bumpL (List.replicate n 0) (((comers 0 xs).map (·.2)).take 1))) := by
                rw [hst]
                have e9 : bumpL (List.replicate n 0) [sy] = (bumpL (List.replicate n 0) []).set sy 1 := by
                  show (List.replicate n 0).set sy ((List.replicate n (0 : Int)).getD sy 0 + 1) = _
                  rw [zeros_get]; rfl
                rw [e9]; exact hset
              have HKN := Lib.hid (HK.out.setCell (p := ⟨go, sy, none⟩) (fun _ => rfl) (.int .i64 1))
              have hsni : (sy : Int) < (n : Int) := by omega
              clear hcell hcl hp hl hs hst hrs hset HR6 HK HPr
              go_wp2_with fail
              go_roundw
              case rel => exact ⟨1, by omega, by go_num, HN.out, HKN.out⟩
              case measure => (simp [intOf] <;> omega)
            · obtain rfl : k = i := by omega
              have hR9 := HR6.out
              rw [List.take_of_length_le (by
                rw [List.length_map, ← (baseP_perm xs).length_eq, HKB.out]; exact Nat.le_refl _), lens_eq1 (L := m) HL.out (by rw [HKB.out]; exact hk2)] at hR9
              have HR9 := Lib.hid hR9
              have HG9 : Hid (Grow w1 wr) := Keeps.trans HG6.out HK.out fun b hb e => by omega
              clear hR9 HR6 HK
              have hR2 := HR2.out
              subst hR2
              go_wp2_with fail
              go_ret2
              exact ⟨_, _, n, rfl, HR9.out.own hgz, HG9.out⟩
        · have hk2i : ¬ (k : Int) < 2 := by omega
          obtain ⟨g, rfl⟩ : ∃ g, A1 = some ⟨g, 0, none⟩ := by
            rcases HO.out.2 with ⟨hv, h0⟩ | ⟨g', cap', cur, hv, _⟩
            · injection hv with hv h0 h1; omega
            · injection hv with hv _ _
              exact ⟨g', hv⟩
          have HCB : Hid (∀ p ∈ comers 0 xs, p.1 ≤ 1099511627776) := fun p hp => by
            have h1 : coinOf p ∈ (baseP xs).map coinOf := List.mem_map_of_mem ((baseP_perm xs).mem_iff.2 hp)
            have h2 := sumF_mem (F := (·.1)) h1
            have h3 : (coinOf p).1 ≤ sumF (·.1) ((baseP xs).map coinOf) := h2
            have h4 := HSUM.out
            have h5 : (coinOf p).1 = p.1 := rfl
            omega
          go_wp2_with (refine wpList_make rfl (.tmp 46) (.tmp 46) 22 3 rfl Try.underlying22 Try.infoI64L rfl n rfl rfl (by omega) (by unfold maxLen; omega) ?_; intro w6 ho6 hg6 hz6)
          obtain ⟨go, hgo⟩ : ∃ go, go = wr.heap.size := ⟨_, rfl⟩
          have HLR : Hid (LenRow w6 go n (List.replicate n 0)) := by
            rw [← hgo] at ho6
            exact LenRow.of_own (by rw [List.map_replicate]; exact ho6) (by omega)
          have HG6 := Lib.hid (Grow.trans _ _ _ HG.out hg6)
          have HO6 := Lib.hid (owns_keep HO.out hg6 (fun _ _ h => h))
          have HC6 := Lib.hid (HC.out.grow hg6)
          have hgz : w1.heap.size ≤ go := by rw [hgo]; exact HG.out.size
          have hggo : g < go := by rw [hgo]; exact (HO.out.lt g rfl).2
          have hgw : w1.heap.size ≤ g := own_ge HO.out g rfl
          have hrf := (rowF_of HO6.out HC6.out HT2.out HCB.out (by omega)).1
          have hasc := rowF_asc HO6.out HC6.out HT2.out HCB.out (by omega) (comers_asc xs 0)
          have HST := Lib.hid (sortStable_is (ordOf w6) w6 g k c1 (fOf ps) hrf (by omega) hasc)
          have hF : cmpFn = .func (.func 13) #[] #[] := rfl
          rw [hF] at HST
          simp only [← hgo]
          clear ho6 hg6 hz6 HO HC HG hgo hrf hasc hF
          go_wp2_with fail
          refine HST.out.mono ?_
          rintro e w7 ⟨rfl, f', hr, hp, hu, hk⟩
          obtain ⟨hpt, hbc⟩ := sorted_base HO6.out HC6.out HT2.out HCB.out (by omega) hr hp hu hk
          have HBP := Lib.hid hpt
          have HBC := Lib.hid hbc
          have HLR7 := Lib.hid (HLR.out.keep hk (by omega))
          have HG7 : Hid (Grow w1 w7) := Keeps.trans HG6.out hk fun b hb e => by omega
          generalize basePC (ordOf w6) k f' = bp at *
          clear hr hp hu hk hpt hbc HST HLR HG6 HO6 HC6 HT2 HCB hi
          go_upto_region 24 with fail
          obtain ⟨gt, hgt⟩ : ∃ gt, gt = w7.heap.size := ⟨_, rfl⟩
          have HBT : Hid ((w7.alloc (.cells #[.slice (some ⟨g, 0, none⟩) k c1, .func (.func 15) #[] #[]] 45)).heap[gt]? = some (.cells #[.slice (some ⟨g, 0, none⟩) k c1, .func (.func 15) #[] #[]] 45 (0, 0))) := by
            show _ = _
            rw [hgt]; exact heap_alloc_new w7 _
          have k8 : Grow w7 (w7.alloc (.cells #[.slice (some ⟨g, 0, none⟩) k c1, .func (.func 15) #[] #[]] 45)) := (Keeps.refl _ w7).alloc _
          have HBP8 := Lib.hid (HBP.out.grow k8)
          have HLR8 := Lib.hid (HLR7.out.keep k8 (fun h => h))
          have HG8 := Lib.hid (Grow.trans _ _ _ HG7.out k8)
          simp only [← hgt]
          clear k8 hgt HBP HLR7 HG7
          generalize w7.alloc (.cells #[.slice (some ⟨g, 0, none⟩) k c1, .func (.func 15) #[] #[]] 45) = w8 at *
          obtain ⟨B, hB⟩ : ∃ B, B = (baseP xs).map coinOf := ⟨_, rfl⟩
          have hBL : B.length = k := by rw [hB, List.length_map, HKB.out]
          have HBL := Lib.hid hBL
          have HBE := Lib.hid hB
          rw [← hB] at HBC HSUM
          have hmi : (m : Int) ≤ 20 := by omega
          have hm1i : (m : Int) - 1 = ((m - 1 : Nat) : Int) := by omega
          obtain ⟨mm, hmm⟩ : ∃ mm, mm = m - 1 := ⟨_, rfl⟩
          rw [← hmm] at hm1i
          have hmm20 : mm ≤ 19 := by omega
          have HMM := Lib.hid hmm
          clear hmm hB hBL
          go_wp2_with fail
          go_loopw [14, 72] (fun vc vj wr => ∃ (j k1 c2 : Nat) (A2 : Option Addr) (cs : List PC), j ≤ mm ∧ vj = .int .i64 (j : Nat) ∧ vc = .slice A2 k1 c2 ∧ Hid (Ptrs wr A2 k1 c2 cs) ∧ Hid (cs.map (fun p => p.1.coin) = rounds B j) ∧ Hid (Ptrs wr (some ⟨g, 0, none⟩) k c1 bp) ∧ Hid (wr.heap[gt]? = some (.cells #[.slice (some ⟨g, 0, none⟩) k c1, .func (.func 15) #[] #[]] 45 (0, 0))) ∧ Hid (LenRow wr go n (List.replicate n 0)) ∧ Hid (Grow w1 wr)) (fun _ vj _ => mm - (intOf vj).toNat)
          case atStart => exact ⟨0, k, c1, _, bp, Nat.zero_le _, by simp, rfl, HBP8.out, HBC.out, HBP8.out, HBT.out, HLR8.out, HG8.out⟩
          case round =>
            clear HBT HBP8 HLR8 HG8
            obtain ⟨j, k1, c2, A2, cs, hj, rfl, rfl, HCS, HCC, HBP, HBT, HLR, HG⟩ := hrel
            have hcl : cs.length = (rounds B j).length := by rw [← HCC.out, List.length_map]
            have hk1 : k1 ≤ 131072 := by
              have h1 := rounds_le B j
              have h2 := HCS.out.len
              have h3 := HBL.out
              omega
            by_cases hjm : j < mm
            · have hjmi : (j : Int) < (mm : Int) := by omega
              have HV := Lib.hid (coin_val HCC.out HSUM.out (by omega))
              have HBV := Lib.hid (coin_val (j := 0) (B := B) HBC.out HSUM.out (by omega))
              have e0 := blk_cell HBT.out 0
              have e1 := blk_cell HBT.out 1
              simp at e0 e1
              go_upto_region 26 with fail
              have HBTd : Hid (∀ w9, Grow wr w9 → w9.heap[gt]? = some (.cells #[.slice (some ⟨g, 0, none⟩) k c1, .func (.func 15) #[] #[]] 45 (0, 0))) := fun w9 h9 => block_keep HBT.out h9 (fun h => h)
              have KD : Hid (Grow wr wr.drew) := (Keeps.refl _ _).drew
              refine wp_region_hold Grow Grow.refl Grow.trans [0] [(0, [1]), (1, [0]), (2, [2]), (2, [3]), (0, [4])] [(0, [?o1]), (1, [?o0]), (2, [?o2]), (2, [?o3]), (0, [?o4])] [?o0, ?o1, ?o2, ?o3, ?o4] (by kernel_rfl) (by kernel_rfl) (by kernel_rfl) ?_
              clear e0 e1
              have HBTe : Hid (∀ w9, Grow wr.drew w9 → w9.heap[gt]? = some (.cells #[.slice (some ⟨g, 0, none⟩) k c1, .func (.func 15) #[] #[]] 45 (0, 0))) := fun w9 h9 => HBTd.out w9 (Grow.trans _ _ _ KD.out h9)
              clear HBTd
              generalize wr.drew = wd at *
              refine seg_calm ?_
              go_wp2_with fail
              refine seg_held (by kernel_rfl) (.agg #[.slice (some ⟨g, 0, none⟩) k c1, .func (.func 15) #[] #[]]) (fun w7 hk7 => ?_) ?_
              · have d0 := blk_cell (HBTe.out w7 hk7) 0
                have d1 := blk_cell (HBTe.out w7 hk7) 1
                simp at d0 d1
                go_simp
              refine seg_call ?_
              go_wp2_with fail
              refine (packed_is wd A2 k1 c2 cs (HCS.out.grow KD.out) (by omega) HV.out).mono ?_
              rintro e w9 ⟨v, qs, rfl, hq, ho, hqc, hg9⟩
              obtain ⟨Aq, cq, rfl⟩ := rowf ho
              have hql : qs.length ≤ 131072 := by
                have h1 : qs.length = (pairsT cs).length := by rw [← hq, List.length_map]
                have h2 := congrArg List.length (pairsT_coin cs)
                rw [List.length_map, pairsP_len, List.length_map] at h2
                have h3 := HCS.out.len
                omega
              have HQ := Lib.hid (Ptrs.of_own ho hqc)
              have HQT := Lib.hid hq
              have HG9 := Lib.hid hg9
              have HQV : Hid (∀ p ∈ qs, p.1.val ≤ 1152921504606846976) := fun p hp => by
                have h1 : p.1 ∈ pairsT cs := by rw [← hq]; exact List.mem_map_of_mem hp
                have h2 : p.1.coin ∈ pairsP (rounds B j) := by
                  rw [← HCC.out, ← pairsT_coin cs]
                  exact List.mem_map_of_mem h1
                have h3 := sumF_mem (F := (·.1)) h2
                have h4 := pairsP_sum addi_fst (pairsP (rounds B j)).length (rounds B j) (by rw [pairsP_len]; omega)
                rw [List.take_length] at h4
                have h5 := sumF_take (·.1) (rounds B j) (2 * (pairsP (rounds B j)).length)
                have h6 := rounds_sum addi_fst B j
                have h7 : (j + 1) * sumF (·.1) B ≤ 21 * 1099511627776 := Nat.mul_le_mul (by omega) HSUM.out
                have h8 : p.1.coin.1 ≤ sumF (·.1) (pairsP (rounds B j)) := h3
                have h9 : p.1.coin.1 = p.1.val := rfl
                omega
              clear ho hqc hg9 hq
              go_wp2_with fail
              refine ⟨HG9.out, ?_⟩
              refine seg_call ?_
              go_wp2_with fail
              refine (merge_is w9 (some ⟨g, 0, none⟩) Aq k c1 qs.length cq bp qs ((HBP.out.grow KD.out).grow HG9.out) HQ.out (by omega) hql HBV.out HQV.out).mono ?_
              rintro e w10 ⟨A3, c3, rfl, ho, hcc, hg10⟩
              have HP10 := Lib.hid (Ptrs.of_own ho hcc)
              have HK10 := Lib.hid (Grow.trans _ _ _ (Grow.trans _ _ _ KD.out HG9.out) hg10)
              have HCC10 := Lib.hid (round_coins HBC.out HCC.out HQT.out)
              have HG10 := Lib.hid hg10
              clear ho hcc hg10
              go_wp2_with fail
              refine ⟨HG10.out, ?_⟩
              refine seg_calm ?_
              go_wp2_with fail
              refine seg_end ⟨by kernel_rfl, ?_⟩
              have X1 := Lib.hid (HBP.out.grow HK10.out)
              have X2 : Hid (w10.heap[gt]? = some (.cells #[.slice (some ⟨g, 0, none⟩) k c1, .func (.func 15) #[] #[]] 45 (0, 0))) := block_keep HBT.out HK10.out (fun h => h)
              have X3 := Lib.hid (HLR.out.keep HK10.out (fun h => h))
              have X4 := Lib.hid (Grow.trans _ _ _ HG.out HK10.out)
              clear HBP HBT HLR HG HBTe KD HQ HQT HQV HG9 HCS HG10
              go_wp2_with fail
              go_roundw
              case rel => exact ⟨j + 1, k + qs.length, c3, A3, _, hjm, by go_num, rfl, HP10.out, HCC10.out, X1.out, X2.out, X3.out, X4.out⟩
              case measure => simp [intOf]; omega
            · obtain rfl : j = mm := by omega
              have hjmi : ¬ (j : Int) < (j : Int) := by omega
              obtain ⟨t, ht⟩ : ∃ t, t = 2 * k - 2 := ⟨_, rfl⟩
              have hti : (2 : Int) * (k : Int) - 2 = (t : Int) := by omega
              have ht2n : t ≤ k1 := by
                have h1 := rounds_2n B j (by rw [HBL.out]; omega) (by
                  rw [HBL.out]
                  have h2 := HM.out
                  have h3 := HMM.out
                  rw [show j + 1 = m by omega, ← h2]
                  omega)
                rw [HBL.out, ← hcl, HCS.out.len, ← ht] at h1
                exact h1
              have hc2 := HCS.out.cap
              have hsl : ∀ w9 : World, (Instr.slice 36 (.slice A2 k1 c2) none (some (.int .i64 (t : Nat))) none).run Try.prog w9 = .ok (.slice A2 t c2) w9 := fun w9 => run_pre Try.underlying36 (P := Try.prog) rfl A2 k1 c2 t (by omega) w9
              have hs1 := hsl wr
              have htk : (t : Int) ≤ 131072 := by omega
              have HTT := Lib.hid ht
              have HCT := Lib.hid (HCS.out.take t ht2n)
              have HSY : Hid (∀ p ∈ cs, ∀ s ∈ p.1.syms, s < n) := fun p hp s hs => by
                have h1 : p.1.coin ∈ rounds B j := by rw [← HCC.out]; exact List.mem_map_of_mem hp
                have h2 := rounds_syms (fun s => s < n) B (fun c hc s hs => by
                  rw [HBE.out] at hc
                  obtain ⟨q, hq, rfl⟩ := List.mem_map.1 hc
                  have h3 := (baseP_mem hq).1
                  simp [coinOf] at hs
                  rw [hs, ← HL.out]; exact h3) j _ h1 s hs
                exact h2
              have HRM : Hid (((cs.take t).flatMap (fun p => p.1.syms)).length ≤ 2097152) := by
                show _ ≤ _
                have e1 : (cs.take t).flatMap (fun p => p.1.syms) = ((rounds B j).take t).flatMap (·.2) := by
                  rw [← HCC.out, ← List.map_take, List.flatMap_map]
                  rfl
                rw [e1, flat_len]
                have h1 := sumF_take (fun c => c.2.length) (rounds B j) t
                have h2 := rounds_sum addi_len B j
                have h3 : sumF (fun c => c.2.length) B ≤ 65536 := by
                  have h4 : sumF (fun c => c.2.length) B = B.length := by
                    rw [HBE.out]
                    unfold sumF
                    rw [List.map_map, List.length_map]
                    have : ∀ l : List (Nat × Nat), (l.map ((fun c : Coin => c.2.length) ∘ coinOf)).sum = l.length := fun l => by
                      induction l with
                      | nil => rfl
                      | cons a l ih => rw [List.map_cons, List.sum_cons, ih, List.length_cons]; show 1 + _ = _; omega
                    exact this _
                  rw [h4, HBL.out]; omega
                have h5 : (j + 1) * sumF (fun c => c.2.length) B ≤ 20 * 65536 := Nat.mul_le_mul (by omega) h3
                omega
              have HFIN : Hid (bumpL (List.replicate n 0) ((cs.take t).flatMap (fun p => p.1.syms)) = lensP xs m) := by
                show _ = _
                have e1 : (cs.take t).flatMap (fun p => p.1.syms) = ((rounds B j).take t).flatMap (·.2) := by
                  rw [← HCC.out, ← List.map_take, List.flatMap_map]
                  rfl
                have h9 := lens_eq2 (L := m) HL.out (by rw [HKB.out]; exact hk2)
                rw [← HBE.out, HKB.out, ← HMM.out, ← HTT.out] at h9
                rw [e1]; exact h9
              obtain ⟨ds, hds⟩ : ∃ ds, ds = cs.take t := ⟨_, rfl⟩
              have HSD : Hid (∀ p ∈ ds, ∀ s ∈ p.1.syms, s < n) := fun p hp => HSY.out p (List.mem_of_mem_take (by rw [← hds]; exact hp))
              rw [← hds] at HCT HRM HFIN
              clear ht HSY HCS HCC HBP HBT hcl hds
              generalize wr = w9 at *
              go_wp2_with fail
              clear hs1
              have HBK : Hid (∀ b o, 0 < t → A2 = some ⟨b, o, none⟩ → b ≠ go) := fun b o h0 e eb => by
                obtain ⟨b2, o2, e2, hc9⟩ := HCT.out.at_ h0
                rw [e] at e2
                injection e2 with e2
                injection e2 with e2 e3
                subst e2 e3
                have hl9 := HCT.out.len
                have h1 := hc9 0 _ (List.getElem?_eq_getElem (by omega))
                rw [eb] at h1
                exact HLR.out.no_ptr _ _ h1
              have hgn : (n : Int) ≤ 65536 := hni
              go_loopw [16, 86] (fun _ vi wr => ∃ (i : Nat), i ≤ t ∧ vi = .int .i64 (i : Nat) ∧ Hid (LenRow wr go n (bumpL (List.replicate n 0) ((ds.take i).flatMap (fun p => p.1.syms)))) ∧ Hid (Keeps (fun x => x = go) w9 wr)) (fun _ vi _ => t - (intOf vi).toNat)
              case atStart => exact ⟨0, Nat.zero_le _, by simp, HLR.out, Keeps.refl _ _⟩
              case round =>
                obtain ⟨i, hi, rfl, HR6, HK⟩ := hrel
                by_cases hit : i < t
                · have hiti : (i : Int) < (t : Int) := by omega
                  have HPr := Lib.hid (HCT.out.keep HK.out (fun b o e hb => HBK.out b o (by omega) e hb) HLR.out.noCoin)
                  have hpl := HPr.out.len
                  obtain ⟨p, hp⟩ : ∃ p, ds[i]? = some p := ⟨_, List.getElem?_eq_getElem (by omega)⟩
                  obtain ⟨b, o, rfl, hcell⟩ := HPr.out.at_ (by omega)
                  have c0 : wr.cell? ⟨b, o + i, none⟩ = some (.pointer (some ⟨p.2, 0, none⟩)) := hcell i p hp
                  have hpm := List.mem_of_getElem? hp
                  have htk1 : ds.take (i + 1) = ds.take i ++ [p] := by
                    rw [List.take_succ_eq_append_getElem (by omega)]
                    congr 1
                    rw [List.getElem?_eq_getElem (by omega)] at hp
                    injection hp with hp
                    rw [hp]
                  have hflat : (ds.take (i + 1)).flatMap (fun p => p.1.syms) = (ds.take i).flatMap (fun p => p.1.syms) ++ p.1.syms := by
                    rw [htk1, List.flatMap_append]; simp
                  have hroom : Room (bumpL (List.replicate n 0) ((ds.take i).flatMap (fun p => p.1.syms))) p.1.syms.length := by
                    refine Room.bump (fun j => ?_)
                    rw [zeros_get]
                    have h1 : ((ds.take i).flatMap (fun p => p.1.syms)).length + p.1.syms.length ≤ (ds.flatMap (fun p => p.1.syms)).length := by
                      rw [← List.length_append, ← hflat]
                      have e9 : ds.flatMap (fun p => p.1.syms) = (ds.take (i + 1)).flatMap (fun p => p.1.syms) ++ (ds.drop (i + 1)).flatMap (fun p => p.1.syms) := by
                        rw [← List.flatMap_append, List.take_append_drop]
                      have e10 := congrArg List.length e9
                      rw [List.length_append] at e10
                      omega
                    have h2 := HRM.out
                    omega
                  have HSP := Lib.hid (spend_is p.1 wr p.2 go n _ (HPr.out.coins p hpm) HR6.out (HSD.out p hpm) hroom)
                  have HFL := Lib.hid hflat
                  clear hcell hp hpm htk1 hflat hroom HPr hpl HR6
                  go_wp2_with fail
                  refine HSP.out.mono ?_
                  rintro e w10 ⟨rfl, hr, hk⟩
                  rw [← bumpL_append, ← HFL.out] at hr
                  have X1 := Lib.hid hr
                  have X2 := Lib.hid (Keeps.trans HK.out hk fun _ _ h => h)
                  clear hr hk HSP HFL HK c0
                  go_wp2_with fail
                  go_roundw
                  case rel => exact ⟨i + 1, hit, by go_num, X1.out, X2.out⟩
                  case measure => simp [intOf]; omega
                · obtain rfl : t = i := by omega
                  have hR9 := HR6.out
                  rw [List.take_of_length_le (by rw [HCT.out.len]; exact Nat.le_refl _), HFIN.out] at hR9
                  have HR9 := Lib.hid hR9
                  have HG9 : Hid (Grow w1 wr) := Keeps.trans HG.out HK.out fun b hb e => by omega
                  have hR2 := HR2.out
                  subst hR2
                  clear hR9 HR6 HK
                  go_wp2_with fail
                  go_ret2
                  exact ⟨_, _, n, rfl, HR9.out.own hgz, HG9.out⟩
end Go.Proofs.Ytfegjdabjdahgaa
