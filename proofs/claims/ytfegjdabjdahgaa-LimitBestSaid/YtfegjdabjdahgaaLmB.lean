/- (list).merge walked. -/
import Derived.Test.YtfegjdabjdahgaaLmA
namespace Go.Proofs.Ytfegjdabjdahgaa
open Go.RowKit
set_option linter.unusedVariables false
set_option linter.unusedSimpArgs false

theorem Try.infoPtr : (Try.prog.info? 37).map (fun i => (i.zero, i.size, i.bytes)) = some (some (.pointer none), 1, 8) := by kernel_rfl
/-- 'make([]T, 0, c)'. -/
theorem wpList_make0 {P : Program} {w : World} {ops : Array Oper} {rest : List Oper} {o : Oper} {a : Act} {Q : Exit → Act → World → Prop}
    (hg : o.guard = none) (l c : Operand) (t e : TypeId) (hop : o.op = Op.makeSlice t l c)
    {z : Value} {bytes : Nat} (h1 : P.underlying t = some (.slice e)) (hinfo : (P.info? e).map (fun i => (i.zero, i.size, i.bytes)) = some (some z, 1, bytes)) (hz1 : z.cells = #[z])
    (n : Nat) (hl : a.eval l = .int .i64 0) (hc : a.eval c = .int .i64 n) (b2 : bytes * n ≤ 281474976710656) (b3 : n ≤ maxLen)
    (hK : ∀ w', w'.ownsRow w.heap.size e 1 (.slice (some ⟨w.heap.size, 0, none⟩) 0 n) 0 [] → Grow w w' → w'.heap.size = w.heap.size + 1 → wpList P ops Q rest (a.put o.dst (.slice (some ⟨w.heap.size, 0, none⟩) 0 n)) w') :
    wpList P ops Q (o :: rest) a w := by
  obtain ⟨i, hi, hz, h4, h5⟩ := info_parts hinfo
  refine wpList_plain hg fun K hK' => ?_
  have h63' : (n : Int) ≤ 9223372036854775807 := by simp [maxLen] at b3; omega
  have hb' : (i.bytes : Int) * (n : Int) ≤ 281474976710656 := by
    have h : ((i.bytes * n : Nat) : Int) ≤ 281474976710656 := by rw [h5]; omega
    rwa [Int.natCast_mul] at h
  have hr := run_make (P := P) w t e i z h1 hi hz .i64 .i64 0 n (by omega) (by omega) hb' h63'
  simp only [Int.toNat_natCast, Int.toNat_zero] at hr
  rw [h4, Nat.mul_one, hz1] at hr
  unfold Oper.wp
  have hex : (execOp a.eval o).run P w = .ok (.value (.slice (some ⟨w.heap.size, 0, none⟩) 0 n)) (w.alloc (.cells (madeCells #[z] n) e)) := by
    obtain ⟨d, op, ty, p, af, g⟩ := o
    simp only at hop
    subst hop
    show (Instr.makeSlice t (a.eval l) (a.eval c) >>= fun v => (pure (Next.value v) : Sem Next)).run P w = _
    rw [Sem.run_bind, hl, hc, hr]
    rfl
  rw [hex]
  have ho : (w.alloc (.cells (madeCells #[z] n) e)).ownsRow w.heap.size e 1 (.slice (some ⟨w.heap.size, 0, none⟩) 0 n) 0 [] :=
    ⟨rfl, .inr ⟨w.heap.size, n, madeCells #[z] n, rfl, Nat.le_refl _, heap_alloc_new w _, Nat.zero_le _, b3, by rw [size_madeCells, Nat.mul_one], by simp⟩⟩
  exact hK' _ _ (hK _ ho ((Keeps.refl _ w).alloc _) (by simp))
def worthFn : Value := .func (.func 15) #[] #[]
theorem hyP (B g : Nat) : Hv.Hyp2 Grow Grow (fun _ v w' => ∃ b, v = .slice (some ⟨b, 0, none⟩) 1 1 ∧ B ≤ b ∧ w'.heap[b]? = some (.cells #[.pointer (some ⟨g, 0, none⟩)] 37 (0, 0))) :=
  ⟨Keeps.refl _, fun _ _ _ h k => Keeps.trans h k fun _ _ h => h, fun _ v w1 w2 h q => by
      obtain ⟨b, hv, hg, hh⟩ := h
      exact ⟨b, hv, hg, block_keep hh q fun h => h⟩,
    Keeps.refl _, fun _ _ _ h k => Keeps.trans h k fun _ _ h => h, fun _ _ h => h⟩
theorem coins_merge {w : World} {l r : List PC} (hl : Coins w l) (hr : Coins w r) : Coins w (mergeBy keyOf l r) := fun p hp => by
  rcases List.mem_append.1 ((mergeBy_perm keyOf l r).mem_iff.1 hp) with h | h
  · exact hl p h
  · exact hr p h
theorem srcP_one {w : World} {b : Nat} {p : PC} (h : w.heap[b]? = some (.cells #[ptrOf p] 37 (0, 0))) : Src w 1 (some ⟨b, 0, none⟩) 1 1 [ptrOf p] := by
  refine ⟨rfl, (fun h => nomatch h), fun ad e2 j y hj => ?_, fun y hy => by rw [List.mem_singleton.1 hy]; rfl⟩
  injection e2 with e2
  subst e2
  match j, hj with
  | 0, hj =>
    injection hj with hj
    subst hj
    exact blk_cell h 0
set_option maxRecDepth 8000 in
set_option maxHeartbeats 4000000 in
theorem merge_is (w : World) (A1 A2 : Option Addr) (n1 c1 n2 c2 : Nat) (ps1 ps2 : List PC) (h1 : Ptrs w A1 n1 c1 ps1) (h2 : Ptrs w A2 n2 c2 ps2) (hb1 : n1 ≤ 131072) (hb2 : n2 ≤ 131072) (hv1 : ∀ p ∈ ps1, p.1.val ≤ 1152921504606846976) (hv2 : ∀ p ∈ ps2, p.1.val ≤ 1152921504606846976) :
    Calls Try.prog 16 #[.agg #[.slice A1 n1 c1, worthFn], .slice A2 n2 c2] w fun e w' => ∃ A c, e = .returned (.slice A (n1 + n2) c) ∧ w'.ownsRow w.heap.size 37 1 (.slice A (n1 + n2) c) (n1 + n2) ((mergeBy keyOf ps1 ps2).map ptrOf) ∧ Coins w' (mergeBy keyOf ps1 ps2) ∧ Grow w w' := by
  unfold worthFn
  obtain ⟨R, hR⟩ : ∃ R, R = mergeBy keyOf ps1 ps2 := ⟨_, rfl⟩
  have HRL : Hid (R.length = n1 + n2) := by
    show _ = _
    rw [hR, mergeBy_len, h1.len, h2.len]
  have HCR : Hid (Coins w R) := by
    show Coins w R
    rw [hR]; exact coins_merge h1.coins h2.coins
  rw [← hR]
  have HR := Lib.hid hR
  have H1 := Lib.hid h1
  have H2 := Lib.hid h2
  have HV1 := Lib.hid hv1
  have HV2 := Lib.hid hv2
  have hn1 : (n1 : Int) ≤ 131072 := by omega
  have hn2 : (n2 : Int) ≤ 131072 := by omega
  clear h1 h2 hv1 hv2 hR
  go_enter Try.func16, Try.ntmps16
  go_upto_region 1 with fail
  obtain ⟨g0, hg0⟩ : ∃ g0, g0 = w.heap.size := ⟨_, rfl⟩
  obtain ⟨bx, hbx⟩ : ∃ bx : Obj, bx = .cells #[.slice A1 n1 c1, .func (.func 15) #[] #[]] 45 := ⟨_, rfl⟩
  have hw1 : (w.alloc bx).heap[g0]? = some bx := by rw [hg0]; exact heap_alloc_new w _
  have hg1 : Grow w (w.alloc bx) := (Keeps.refl _ w).alloc _
  have hz1 : (w.alloc bx).heap.size = g0 + 1 := by rw [hg0]; simp
  obtain ⟨N, hN⟩ : ∃ N, N = n1 + n2 := ⟨_, rfl⟩
  have hNi : (n1 : Int) + (n2 : Int) = (N : Int) := by omega
  have hNb : (N : Int) ≤ 262144 := by omega
  rw [← hN] at HRL
  have HG0 : Hid (w.heap.size ≤ g0) := by show _ ≤ _; omega
  simp only [← hbx, ← hg0, ← hN]
  subst hbx
  have HNN := Lib.hid hN
  have HGG := Lib.hid hg0
  have HB0 := Lib.hid hw1
  have HG1 := Lib.hid hg1
  clear hw1 hg1 hg0 hN
  generalize w.alloc (.cells #[.slice A1 n1 c1, .func (.func 15) #[] #[]] 45) = w1 at *
  have d0 := blk_cell HB0.out 0
  have d1 := blk_cell HB0.out 1
  simp at d0 d1
  go_wp2_with (refine wpList_make0 rfl (.const (.int .i64 0)) (.tmp 14) 36 37 rfl Try.underlying36 Try.infoPtr rfl N rfl rfl (by omega) (by unfold maxLen; omega) ?_; intro w2 ho2 hg2 hz2; have d2 := blk_cell (block_keep HB0.out hg2 (fun h => h)) 0; simp at d2)
  rw [hz1] at ho2
  have HO2 := Lib.hid ho2
  have HB2 : Hid (w2.heap[g0]? = some (.cells #[.slice A1 n1 c1, .func (.func 15) #[] #[]] 45 (0, 0))) := block_keep HB0.out hg2 (fun h => h)
  have HG2 := Lib.hid (Grow.trans _ _ _ HG1.out hg2)
  clear d0 d1 ho2 hg2 HB0 HG1 hz1 hz2
  clear d2
  go_loopw [5, 6, 8, 20] (fun vo vr _ vi wr => ∃ (i no nr : Nat) (Ao Ar : Option Addr) (co cr : Nat) (os rs : List PC), i ≤ n2 ∧ vi = .int .i64 (i : Nat) ∧ vo = .slice Ao no co ∧ vr = .slice Ar nr cr ∧ no + nr + (n2 - i) = N ∧ Hid (wr.ownsRow (g0 + 1) 37 1 (.slice Ao no co) no (os.map ptrOf)) ∧ Hid (Ptrs w Ar nr cr rs) ∧ Hid (∀ p ∈ rs, p ∈ ps1) ∧ Hid (os ++ mergeBy keyOf rs (ps2.drop i) = R) ∧ Hid (wr.heap[g0]? = some (.cells #[.slice A1 n1 c1, .func (.func 15) #[] #[]] 45 (0, 0))) ∧ Hid (Grow w wr)) (fun _ _ _ vi _ => n2 - (intOf vi).toNat)
  case atStart => exact ⟨0, 0, n1, _, A1, N, c1, [], ps1, Nat.zero_le _, by simp, rfl, rfl, by have := HNN.out; omega, HO2.out, H1.out, fun p h => h, HR.out.symm, HB2.out, HG2.out⟩
  case round =>
    clear HO2 HB2 HG2
    obtain ⟨i, no, nr, Ao, Ar, co, cr, os, rs, hi, rfl, rfl, rfl, hN, HO, HP, HS, HE, HB, HG⟩ := hrel
    have hNo : (no : Int) ≤ 262144 := by omega
    by_cases hin : i < n2
    · have hini : (i : Int) < (n2 : Int) := by omega
      have H2r := Lib.hid (H2.out.grow HG.out)
      have hl2 : i < ps2.length := by rw [H2.out.len]; exact hin
      obtain ⟨px, hpx⟩ : ∃ px, ps2[i]? = some px := ⟨_, List.getElem?_eq_getElem hl2⟩
      have hdr : ps2.drop i = px :: ps2.drop (i + 1) := by
        rw [List.drop_eq_getElem_cons hl2]
        congr 1
        rw [List.getElem?_eq_getElem hl2] at hpx
        injection hpx
      obtain ⟨b2, o2, rfl, hcell⟩ := H2r.out.at_ (by omega)
      have cx : wr.cell? ⟨b2, o2 + i, none⟩ = some (.pointer (some ⟨px.2, 0, none⟩)) := hcell i px hpx
      have hmx : px ∈ ps2 := List.mem_of_getElem? hpx
      have HX : Hid (CoinAt w px.1 px.2) := H2.out.coins px hmx
      have HXB : Hid (px.1.val ≤ 1152921504606846976) := HV2.out px hmx
      have HE1 : Hid (os ++ mergeBy keyOf rs (px :: ps2.drop (i + 1)) = R) := by
        show _ = _
        rw [← hdr]; exact HE.out
      obtain ⟨tx, gx⟩ := px
      simp only at cx
      clear hcell hpx hdr hmx hl2 HE
      go_wp2_with fail
      generalize wr = w3 at *
      have HZ3 := Lib.hid hN
      clear cx hN hNo
      go_loopw [5, 6] (fun vo vr wr => ∃ (no nr : Nat) (Ao Ar : Option Addr) (co cr : Nat) (os rs : List PC), vo = .slice Ao no co ∧ vr = .slice Ar nr cr ∧ no + nr + (n2 - i) = N ∧ Hid (wr.ownsRow (g0 + 1) 37 1 (.slice Ao no co) no (os.map ptrOf)) ∧ Hid (Ptrs w Ar nr cr rs) ∧ Hid (∀ p ∈ rs, p ∈ ps1) ∧ Hid (os ++ mergeBy keyOf rs ((tx, gx) :: ps2.drop (i + 1)) = R) ∧ Hid (wr.heap[g0]? = some (.cells #[.slice A1 n1 c1, .func (.func 15) #[] #[]] 45 (0, 0))) ∧ Hid (Grow w wr)) (fun _ vr _ => match vr with | .slice _ n _ => n | _ => 0)
      case atStart => exact ⟨no, nr, Ao, Ar, co, cr, os, rs, rfl, rfl, HZ3.out, HO.out, HP.out, HS.out, HE1.out, HB.out, HG.out⟩
      case round =>
        clear HO HP HS HE1 HB HG HZ3 H2r
        obtain ⟨no, nr, Ao, Ar, co, cr, os, rs, rfl, rfl, hN, HO, HP, HS, HE, HB, HG⟩ := hrel
        have hNo : (no : Int) ≤ 262144 := by omega
        have hNr : (nr : Int) ≤ 262144 := by omega
        have hzg := HG.out.size
        have hgz : g0 < wr.heap.size := blk_lt HB.out
        match rs, HP, HS, HE with
        | [], HP, HS, HE =>
          have hn0 : nr = 0 := by have := HP.out.len; simpa using this.symm
          subst hn0
          have HE2 : Hid ((os ++ [(tx, gx)]) ++ mergeBy keyOf ([] : List PC) (ps2.drop (i + 1)) = R) := by
            show _ = _
            rw [← HE.out, mergeBy_nil, mergeBy_nil, List.append_assoc]; rfl
          have hN2 : no + 1 + 0 + (n2 - (i + 1)) = N := by omega
          clear hN
          have hq1 : decide ((0 : Int) < 0) = false := rfl
          go_wp2_with fail
          go_quiet (fail)
          have HOd := Lib.hid (owns_keep HO.out ((Keeps.refl (fun _ => False) wr).drewN nq) (fun _ _ h => h))
          have HBd : Hid ((wr.drewN nq).heap[g0]? = some (.cells #[.slice A1 n1 c1, .func (.func 15) #[] #[]] 45 (0, 0))) := HB.out
          have HGd : Hid (Grow w (wr.drewN nq)) := Keeps.drewN HG.out nq
          have hzd : g0 + 1 ≤ (wr.drewN nq).heap.size := hgz
          clear HO HB HG hgz hzg
          generalize wr.drewN nq = w5 at *
          go_wp2_with (at_builtin; refine wpList_app1 rfl (.tmp 48) (.tmp 50) 36 37 rfl Try.underlying36 Try.infoPtr rfl (g0 + 1) _ no _ rfl HOd.out hzd rfl rfl (by unfold maxLen; omega) (by omega) ?_)
          intro g2 c4 w7 ho7 hk7 hm7
          have HO7 : Hid (w7.ownsRow (g0 + 1) 37 1 (.slice (some ⟨g2, 0, none⟩) (no + 1) c4) (no + 1) ((os ++ [(tx, gx)]).map ptrOf)) := by
            show World.ownsRow _ _ _ _ _ _ _
            rw [List.map_append]
            exact ho7
          have HGE : Hid (∀ b, (Value.slice Ao no co).ownBlock = some b → g0 + 1 ≤ b) := fun b hb => own_ge HOd.out b hb
          have HB7 : Hid (w7.heap[g0]? = some (.cells #[.slice A1 n1 c1, .func (.func 15) #[] #[]] 45 (0, 0))) := block_keep HBd.out hk7 (fun e => by have := HGE.out g0 e; omega)
          have HG7 : Hid (Grow w w7) := Keeps.trans HGd.out hk7 fun b hb e => by have := HGE.out b e; have := HG0.out; omega
          clear ho7 hk7 hm7 HOd HBd HGd hzd
          go_wp2_with fail
          go_roundw
          case rel => exact ⟨i + 1, no + 1, 0, _, _, _, _, _, _, hin, by go_num, rfl, rfl, hN2, HO7.out, HP.out, HS.out, HE2.out, HB7.out, HG7.out⟩
          case measure => simp [intOf]; omega
        | p :: rs, HP, HS, HE =>
          obtain ⟨q, hq⟩ : ∃ q, nr = q + 1 := ⟨nr - 1, by have := HP.out.len; simp at this; omega⟩
          have hqn : q < nr := by omega
          have hnr1 : (0 : Int) < (nr : Int) := by omega
          have hnr2 : decide ((0 : Int) < (nr : Int)) = true := decide_eq_true hnr1
          have hnr3 : decide (0 < nr) = true := decide_eq_true (by omega)
          have HPr := Lib.hid (HP.out.grow HG.out)
          obtain ⟨bp, op, rfl, hcell⟩ := HPr.out.at_ (by omega)
          have cp : wr.cell? ⟨bp, op + 0, none⟩ = some (.pointer (some ⟨p.2, 0, none⟩)) := hcell 0 p rfl
          rw [Nat.add_zero] at cp
          have e0 := blk_cell HB.out 1
          simp at e0
          have HPC : Hid (CoinAt w p.1 p.2) := HP.out.coins p (List.mem_cons_self ..)
          have hpv : p.1.val ≤ 1152921504606846976 := HV1.out p (HS.out p (List.mem_cons_self ..))
          have HK1 : Hid (∀ m, Calls Try.prog 15 #[.pointer (some ⟨p.2, 0, none⟩)] (wr.drewN m) fun e w' => e = .returned (.int .i64 (p.1.val : Nat)) ∧ w' = wr.drewN m) := fun m => key_is (wr.drewN m) p.1 p.2 (HPC.out.grow (Keeps.drewN HG.out m))
          have HK2 : Hid (∀ m, Calls Try.prog 15 #[.pointer (some ⟨gx, 0, none⟩)] (wr.drewN m) fun e w' => e = .returned (.int .i64 (tx.val : Nat)) ∧ w' = wr.drewN m) := fun m => key_is (wr.drewN m) tx gx (HX.out.grow (Keeps.drewN HG.out m))
          have HE0 := HE.out
          rw [mergeBy_cons] at HE0
          obtain ⟨tp, gp⟩ := p
          have HKY : Hid (keyOf (tp, gp) = tp.val ∧ keyOf (tx, gx) = tx.val) := ⟨rfl, rfl⟩
          rw [HKY.out.1, HKY.out.2] at HE0
          simp only at cp hpv HK1 HK2
          have HXBo := HXB.out
          obtain ⟨u, hu⟩ : ∃ u, u = tp.val := ⟨_, rfl⟩
          obtain ⟨v, hv⟩ : ∃ v, v = tx.val := ⟨_, rfl⟩
          rw [← hu] at HE0 HK1 hpv
          rw [← hv] at HE0 HK2 HXBo
          clear hcell hu hv
          by_cases huv : u ≤ v
          · have HE2 : Hid ((os ++ [(tp, gp)]) ++ mergeBy keyOf rs ((tx, gx) :: ps2.drop (i + 1)) = R) := by
              show _ = _
              rw [← HE0, if_pos huv, List.append_assoc]; rfl
            have hN2 : no + 1 + q + (n2 - i) = N := by omega
            have huvi : (u : Int) ≤ (v : Int) := by omega
            have hd2 : decide ((u : Int) ≤ (v : Int)) = true := decide_eq_true huvi
            have hd3 : decide (u ≤ v) = true := decide_eq_true huv
            have HPT := HP.out.drop 1 (by omega)
            rw [show nr - 1 = q by omega] at HPT
            have HPT : Hid (Ptrs w (Nums.off (some ⟨bp, op, none⟩) cr 1) q (cr - 1) rs) := HPT
            have HST : Hid (∀ p ∈ rs, p ∈ ps1) := fun p hp => HS.out p (List.mem_cons_of_mem _ hp)
            have hs7 : ∀ w7 : World, (Instr.slice 36 (.slice (some ⟨bp, op, none⟩) nr cr) (some (.int .i64 1)) none none).run Try.prog w7 = .ok (.slice (Nums.off (some ⟨bp, op, none⟩) cr 1) q (cr - 1)) w7 := fun w7 => by
              have h9 := run_post Try.underlying36 (P := Try.prog) rfl rfl (some ⟨bp, op, none⟩) nr cr 1 (by omega) w7
              rw [show nr - 1 = q by omega] at h9
              exact h9
            clear HE0 HE hN HP HS hq
            go_wp2_with fail
            go_quiet (first | refine Calls.quiet_of_same (HK1.out _) | refine Calls.quiet_of_same (HK2.out _))
            have HOd := Lib.hid (owns_keep HO.out ((Keeps.refl (fun _ => False) wr).drewN nq) (fun _ _ h => h))
            have HBd : Hid ((wr.drewN nq).heap[g0]? = some (.cells #[.slice A1 n1 c1, .func (.func 15) #[] #[]] 45 (0, 0))) := HB.out
            have HGd : Hid (Grow w (wr.drewN nq)) := Keeps.drewN HG.out nq
            have hzd : g0 + 1 ≤ (wr.drewN nq).heap.size := hgz
            have HPd := Lib.hid (HPr.out.grow ((Keeps.refl (fun _ => False) wr).drewN nq))
            have cp : (wr.drewN nq).cell? ⟨bp, op, none⟩ = some (.pointer (some ⟨gp, 0, none⟩)) := cp
            clear HO HB HG hgz hzg HPr HK1 HK2 e0
            generalize wr.drewN nq = w5 at *
            go_upto_region 7 with fail
            have HCP : Hid (∀ w7, Grow w5.drew w7 → w7.cell? ⟨bp, op, none⟩ = some (.pointer (some ⟨gp, 0, none⟩))) := fun w7 h7 => ckp (show w5.drew.cell? ⟨bp, op, none⟩ = some (.pointer (some ⟨gp, 0, none⟩)) from cp) h7 (fun h => h)
            have KD : Grow w5.drew w5.drew := Keeps.refl _ _
            have HOe := Lib.hid (owns_keep HOd.out ((Keeps.refl (fun _ => False) w5).drew) (fun _ _ h => h))
            have HBe : Hid (w5.drew.heap[g0]? = some (.cells #[.slice A1 n1 c1, .func (.func 15) #[] #[]] 45 (0, 0))) := HBd.out
            have HGe : Hid (Grow w w5.drew) := HGd.out.drew
            have hze : g0 + 1 ≤ w5.drew.heap.size := hzd
            refine Hv.wp_region_hav2 Grow Grow (fun _ v w' => ∃ b, v = .slice (some ⟨b, 0, none⟩) 1 1 ∧ w5.drew.heap.size ≤ b ∧ w'.heap[b]? = some (.cells #[.pointer (some ⟨gp, 0, none⟩)] 37 (0, 0))) (hyP w5.drew.heap.size gp) [3] [4, 1005] [(0, [0, 1, 2]), (1, [3]), (3, [4]), (4, [5]), (0, [6, 7, 8, 9])] [(0, 0, [?o0, ?o1, ?o2]), (1, 3, [?o3]), (3, 4, [?o4]), (4, 5, [?o5]), (0, 6, [?o6, ?o7, ?o8, ?o9])] [?o0, ?o1, ?o2, ?o3, ?o4, ?o5, ?o6, ?o7, ?o8, ?o9] (by kernel_rfl) (by kernel_rfl) (by kernel_rfl) ?_
            clear cp HOd HBd HGd hzd
            generalize w5.drew = wd at *
            refine Hv.seg_calm ?_
            go_wp2_with fail
            refine Hv.seg_held (by kernel_rfl) (.pointer (some ⟨gp, 0, none⟩)) (fun w7 hk7 => ?_) ?_
            · have c7 := HCP.out w7 hk7
              go_simp
            refine Hv.seg_free (by kernel_rfl) KD ⟨44, rfl, by simp [Act.put]⟩ (fun w4 q4 => ?_) (fun v w4 q4 hV => ?_)
            · go_wp2_with fail
              exact ⟨_, rfl, (Keeps.refl _ _).alloc _, w4.heap.size, rfl, q4.size, heap_alloc_new _ _⟩
            obtain ⟨bn, rfl, hbn, hh⟩ := hV
            have HSR := Lib.hid (srcP_one (p := (tp, gp)) hh)
            have HO4 := Lib.hid (owns_keep HOe.out q4 (fun _ _ h => h))
            have HB4 : Hid (w4.heap[g0]? = some (.cells #[.slice A1 n1 c1, .func (.func 15) #[] #[]] 45 (0, 0))) := block_keep HBe.out q4 (fun h => h)
            have HG4 := Lib.hid (Grow.trans _ _ _ HGe.out q4)
            have hz4 : g0 + 1 ≤ w4.heap.size := blk_lt HB4.out
            clear q4 hh hbn HOe HBe HGe hze KD HCP
            refine Hv.seg_last ?_
            go_wp2_with (at_builtin; refine wpList_appS rfl (.tmp 40) (.tmp 44) 36 37 rfl Try.underlying36 Try.infoPtr rfl (by decide) (g0 + 1) _ no _ rfl HO4.out hz4 (some ⟨bn, 0, none⟩) 1 1 _ rfl HSR.out (by unfold maxLen; omega) (by omega) ?_)
            intro A5 c5 w6 ho5 hk5 hm5
            have HO6 : Hid (w6.ownsRow (g0 + 1) 37 1 (.slice A5 (no + 1) c5) (no + 1) ((os ++ [(tp, gp)]).map ptrOf)) := by
              show World.ownsRow _ _ _ _ _ _ _
              rw [List.map_append]
              exact ho5
            have HGE : Hid (∀ b, (Value.slice Ao no co).ownBlock = some b → g0 + 1 ≤ b) := fun b hb => own_ge HO4.out b hb
            have HB6 : Hid (w6.heap[g0]? = some (.cells #[.slice A1 n1 c1, .func (.func 15) #[] #[]] 45 (0, 0))) := block_keep HB4.out hk5 (fun e => by have := HGE.out g0 e; omega)
            have HG6 : Hid (Grow w w6) := Keeps.trans HG4.out hk5 fun b hb e => by have := HGE.out b e; have := HG0.out; omega
            clear ho5 hk5 hm5 HO4 HB4 HG4 hz4
            go_wp2_with fail
            refine Hv.seg_calm ?_
            have hs8 := hs7 w6
            go_wp2_with fail
            refine Hv.seg_end ⟨by kernel_rfl, ?_⟩
            go_wp2_with fail
            go_roundw
            case rel => exact ⟨no + 1, q, _, _, _, _, _, _, rfl, rfl, hN2, HO6.out, HPT.out, HST.out, HE2.out, HB6.out, HG6.out⟩
            case measure => (simp only []; omega)
          · have HE2 : Hid ((os ++ [(tx, gx)]) ++ mergeBy keyOf ((tp, gp) :: rs) (ps2.drop (i + 1)) = R) := by
              show _ = _
              rw [← HE0, if_neg huv, List.append_assoc]; rfl
            have hN2 : no + 1 + nr + (n2 - (i + 1)) = N := by omega
            have huvi : ¬ (u : Int) ≤ (v : Int) := by omega
            have hd2 : decide ((u : Int) ≤ (v : Int)) = false := decide_eq_false huvi
            have hd3 : decide (u ≤ v) = false := decide_eq_false huv
            clear HE0 HE hN hq
            go_wp2_with fail
            go_quiet (first | refine Calls.quiet_of_same (HK1.out _) | refine Calls.quiet_of_same (HK2.out _))
            have HOd := Lib.hid (owns_keep HO.out ((Keeps.refl (fun _ => False) wr).drewN nq) (fun _ _ h => h))
            have HBd : Hid ((wr.drewN nq).heap[g0]? = some (.cells #[.slice A1 n1 c1, .func (.func 15) #[] #[]] 45 (0, 0))) := HB.out
            have HGd : Hid (Grow w (wr.drewN nq)) := Keeps.drewN HG.out nq
            have hzd : g0 + 1 ≤ (wr.drewN nq).heap.size := hgz
            clear HO HB HG hgz hzg
            generalize wr.drewN nq = w5 at *
            go_wp2_with (at_builtin; refine wpList_app1 rfl (.tmp 48) (.tmp 50) 36 37 rfl Try.underlying36 Try.infoPtr rfl (g0 + 1) _ no _ rfl HOd.out hzd rfl rfl (by unfold maxLen; omega) (by omega) ?_)
            intro g2 c4 w7 ho7 hk7 hm7
            have HO7 : Hid (w7.ownsRow (g0 + 1) 37 1 (.slice (some ⟨g2, 0, none⟩) (no + 1) c4) (no + 1) ((os ++ [(tx, gx)]).map ptrOf)) := by
              show World.ownsRow _ _ _ _ _ _ _
              rw [List.map_append]
              exact ho7
            have HGE : Hid (∀ b, (Value.slice Ao no co).ownBlock = some b → g0 + 1 ≤ b) := fun b hb => own_ge HOd.out b hb
            have HB7 : Hid (w7.heap[g0]? = some (.cells #[.slice A1 n1 c1, .func (.func 15) #[] #[]] 45 (0, 0))) := block_keep HBd.out hk7 (fun e => by have := HGE.out g0 e; omega)
            have HG7 : Hid (Grow w w7) := Keeps.trans HGd.out hk7 fun b hb e => by have := HGE.out b e; have := HG0.out; omega
            clear ho7 hk7 hm7 HOd HBd HGd hzd
            go_wp2_with fail
            go_roundw
            case rel => exact ⟨i + 1, no + 1, nr, _, _, _, _, _, _, hin, by go_num, rfl, rfl, hN2, HO7.out, HP.out, HS.out, HE2.out, HB7.out, HG7.out⟩
            case measure => simp [intOf]; omega
    · obtain rfl : n2 = i := by omega
      have hE1 : os ++ rs = R := by
        have h9 := HE.out
        rw [List.drop_eq_nil_of_le (by rw [H2.out.len]; exact Nat.le_refl _), mergeBy_nil2] at h9
        exact h9
      have HPr := Lib.hid ((HP.out.grow HG.out).src)
      have hzg : g0 + 1 ≤ wr.heap.size := blk_lt HB.out
      have hNN : no + nr = N := by omega
      have HE1 := Lib.hid hE1
      have hNr : (nr : Int) ≤ 262144 := by omega
      clear hE1 HE
      go_wp2_with (at_builtin; refine wpList_appS rfl (.tmp 53) (.tmp 54) 36 37 rfl Try.underlying36 Try.infoPtr rfl (by decide) (g0 + 1) _ no _ rfl HO.out hzg Ar nr cr _ rfl HPr.out (by unfold maxLen; omega) (by omega) ?_)
      intro A5 c5 w5 ho5 hk5 hm5
      try rw [hNN] at ho5
      have HO5 : Hid (w5.ownsRow (g0 + 1) 37 1 (.slice A5 N c5) N (R.map ptrOf)) := by
        show World.ownsRow _ _ _ _ _ _ _
        rw [← HE1.out, List.map_append]
        exact ho5
      have HG5 : Hid (Grow w w5) := Keeps.trans HG.out hk5 fun b hb e => by have := own_ge HO.out b e; have := HG0.out; omega
      clear ho5 hk5 hm5 HO HG hN
      try rw [hNN]
      clear hNN
      go_wp2_with fail
      go_ret
      have e9 := HNN.out
      subst e9
      exact ⟨A5, c5, rfl, owns_any_base HO5.out (by have := HG0.out; omega), HCR.out.grow HG5.out, HG5.out⟩
end Go.Proofs.Ytfegjdabjdahgaa
