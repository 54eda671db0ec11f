/- runs.Front walked. -/
import Derived.Test.YteccmnjcmmbhlaaFrA
namespace Go.Proofs.Yteccmnjcmmbhlaa
open Go.RowKit
set_option linter.unusedVariables false
set_option linter.unusedSimpArgs false

theorem wpList_val {P : Program} {w : World} {ops : Array Oper} {rest : List Oper} {o : Oper} {a : Act} {Q : Exit → Act → World → Prop}
    (hg : o.guard = none) (v : Value) (hex : (execOp a.eval o).run P w = .ok (.value v) w) (hK : wpList P ops Q rest (a.put o.dst v) w) :
    wpList P ops Q (o :: rest) a w := by
  refine wpList_plain hg fun K hK' => ?_
  unfold Oper.wp
  rw [hex]
  exact hK' _ _ hK
/-- A row just made. -/
def rowZ (m : Nat) : Array Value := ((List.append (List.replicate 256 (.int .u8 0)) [.int .i64 (m : Nat)]) : List Value).toArray
def rowL (m : Nat) : List Value := List.append (List.replicate 256 (.int .u8 0)) [.int .i64 (m : Nat)]
theorem rowL_len (m : Nat) : (rowL m).length = 257 := by
  show ((List.replicate 256 (Value.int .u8 0)) ++ [Value.int .i64 (m : Nat)]).length = 257
  rw [List.length_append, List.length_replicate]; rfl
theorem rowL_256 (m : Nat) : (rowL m)[256]? = some (.int .i64 (m : Nat)) := by
  unfold rowL
  show ((List.replicate 256 (Value.int .u8 0)) ++ [Value.int .i64 (m : Nat)])[256]? = _
  rw [List.getElem?_append_right (by rw [List.length_replicate]; exact Nat.le_refl _), List.length_replicate]
  rfl
theorem rowS_new {w : World} {g m : Nat} {us : List Int} {cs : List Value} (h : w.heap[g]? = some (.cells (splice (rowL m) 0 cs).toArray 64 (0, 0))) (hcs : cs = us.map (Value.int .u8)) (hm : us.length = m) (hm2 : m ≤ 256) (hu : ∀ x ∈ us, inKind .u8 x) : RowS w g us := by
  have hcl : cs.length = m := by rw [hcs, List.length_map, hm]
  refine ⟨_, h, ?_, ?_, by omega, fun j hj => ?_, hu⟩
  · rw [length_splice _ _ _ (by rw [rowL_len]; omega), rowL_len]
  · unfold splice
    rw [List.take_zero, List.nil_append, Nat.zero_add, List.getElem?_append_right (by omega), List.getElem?_drop, show cs.length + (256 - cs.length) = 256 by omega, rowL_256, hm]
  · unfold splice
    rw [List.take_zero, List.nil_append, List.getElem?_append_left (by omega), hcs, List.getElem?_map, List.getElem?_eq_getElem hj, List.getD_eq_getElem?_getD, List.getElem?_eq_getElem hj]
    rfl
theorem indexB_is (w : World) (g n c : Nat) (l : List Int) (x : Int) (hn : l.length = n) (hnb : n ≤ 256) (hc : ∀ j, j < n → w.cell? ⟨g, j, none⟩ = some (.int .u8 (l.getD j 0))) (hx : x ∈ l) :
    Calls Try.prog 38 #[.slice (some ⟨g, 0, none⟩) n c, .int .u8 x] w fun e w' => e = .returned (.int .i64 (idxP l x : Nat)) ∧ w' = w := by
  have hg : ∀ i, i < l.length → l[i]! = l.getD i 0 := fun i hi => by
    rw [getElem!_pos l i hi]
    simp [List.getD_eq_getElem?_getD, hi]
  have h := AnyE.slices_Index Try.idxB (Value.int .u8) (fun x y => x == y) (EqlAt.int _ _ .u8) g 0 n c l x w (by omega) (by omega) (fun j hj => by rw [Nat.zero_add, hc j (by omega), hg j hj])
  have hi : Lib.idxBy (fun x y : Int => x == y) (l.take n) x = (idxP l x : Nat) := by
    have hlt := idxP_lt hx
    refine Lib.idxBy_hit _ l n (idxP l x) x (by omega) (by omega) ?_ fun j hj => ?_
    · rw [hg _ hlt, idxP_get hx]; simp
    · rw [hg j (by omega)]
      have := idxP_not hj
      simp only [beq_eq_false_iff_ne, ne_eq]
      exact fun e => this e.symm
  rw [hi] at h
  exact h
set_option maxRecDepth 8000 in
set_option maxHeartbeats 4000000 in
theorem front_is (w : World) (A : Option Addr) (n c : Nat) (xs : List Int) (h : Nums .u8 w A n c xs) (hnb : n ≤ 1048576) :
    Calls Try.prog 27 #[.slice A n c] w fun e w' => ∃ A1 c1 A2 c2, e = .returned (.tuple #[.slice A1 (usedP xs).length c1, .slice A2 n c2]) ∧ w'.ownsRow w.heap.size 5 1 (.slice A1 (usedP xs).length c1) (usedP xs).length ((usedP xs).map (Value.int .u8)) ∧ w'.ownsRow w.heap.size 3 1 (.slice A2 n c2) n ((mtfP (usedP xs) xs).map (Value.int .i64)) ∧ (∀ b, (Value.slice A2 n c2).ownBlock = some b → (Value.slice A1 (usedP xs).length c1).ownBlock ≠ some b) ∧ Grow w w' := by
  have H := Lib.hid h
  have hni : (n : Int) ≤ 1048576 := by omega
  have hU := Lib.hid (usedP_len xs)
  have hga : Grow w (w.alloc (.cells #[.slice A n c] 22)) := (Keeps.refl _ w).alloc _
  have hb1 : (w.alloc (.cells #[.slice A n c] 22)).cell? ⟨w.heap.size, 0, none⟩ = some (.slice A n c) := by
    rw [blk_cell (heap_alloc_new w _)]; rfl
  have HSR := Lib.hid (sortedB_is (w.alloc (.cells #[.slice A n c] 22)) w.heap.size A n c xs hnb (by simp) hb1 (h.grow hga))
  have HGA := Lib.hid hga
  have hza : (w.alloc (.cells #[.slice A n c] 22)).heap.size = w.heap.size + 1 := by simp
  clear h hga hb1
  go_enter Try.func27, Try.ntmps27
  go_wp2_with fail
  refine (values_is w A n c).mono ?_
  rintro e _ ⟨rfl, rfl⟩
  generalize w.alloc (.cells #[.slice A n c] 22) = w1 at *
  go_wp2_with fail
  refine HSR.out.mono ?_
  rintro e w2 ⟨A1, c1, ys, rfl, ho, hp, hs, hg⟩
  have hxy : ∀ x ∈ ys, inKind .u8 x := fun x hx => H.out.rng x (hp.mem_iff.1 hx)
  have hcu := compact_usedP H.out.rng hp hs
  have ho0 := ho.2
  have HG2 := Lib.hid (Grow.trans _ _ _ HGA.out hg)
  have hz2 := hg.size
  have HCO : Hid (Calls Try.prog 35 #[.slice A1 n c1] w2 fun e w' => ∃ c2, e = .returned (.slice A1 (usedP xs).length c2) ∧ w'.ownsRow w.heap.size 5 1 (.slice A1 (usedP xs).length c2) (usedP xs).length ((usedP xs).map (Value.int .u8)) ∧ Grow w w') := by
    show Calls _ _ _ _ _
    rcases ho0 with ⟨hv, hn0⟩ | ⟨g, cap, cur, hv, hB, hh, hnc, hcm, hcs, htk⟩
    · injection hv with e1 e2 e3
      subst e1; subst e2; subst e3
      have hx0 : xs = [] := List.eq_nil_of_length_eq_zero H.out.len
      refine (compB_nil w2).mono ?_
      rintro e _ ⟨rfl, rfl⟩
      refine ⟨0, ?_, ?_, HG2.out⟩
      · rw [hx0]; rfl
      · rw [hx0]; exact own_nil _ _ _
    · injection hv with e1 e2 e3
      subst e1; subst e3
      refine (compB_is w2 w1.heap.size g n c1 ys ho hxy hnb).mono ?_
      rintro e w3 ⟨rfl, ho3, hk3⟩
      rw [hcu] at ho3 ⊢
      exact ⟨c1, rfl, owns_any_base ho3 (by omega), Keeps.trans HG2.out hk3 fun i hi e => by omega⟩
  clear ho hp hs hg hxy hcu ho0 HSR HG2 HGA hza hz2
  go_wp2_with fail
  refine HCO.out.mono ?_
  rintro e w3 ⟨c2, rfl, ho3, hg3⟩
  have HO3 := Lib.hid ho3
  have HG3 := Lib.hid hg3
  obtain ⟨m, hm⟩ : ∃ m, m = (usedP xs).length := ⟨_, rfl⟩
  rw [← hm] at HO3 hU
  try simp only [← hm]
  have hmU : (usedP xs).length = m := hm.symm
  have HM := Lib.hid hmU
  have hm256 : m ≤ 256 := hU.out
  have HU0 := Lib.hid (mem_usedP H.out.rng)
  have HUI := Lib.hid (usedP_in (b := xs))
  obtain ⟨us, hus⟩ : ∃ us, us = usedP xs := ⟨_, rfl⟩
  rw [← hus] at HO3 HM HU0 HUI
  have HUS := Lib.hid hus
  clear ho3 hg3 HCO hm hmU hus hU
  go_upto_region 2 with fail
  refine wp_region_lit ?_
  iterate 6 go_step
  refine wpList_val rfl (.agg (rowZ m)) (by go_simp; rfl) ?_
  go_upto_region 3 with fail
  obtain ⟨g, hgz⟩ : ∃ g, g = w3.heap.size := ⟨_, rfl⟩
  have hw4 : (w3.alloc (.cells (rowZ m) 64)).heap[g]? = some (.cells (rowZ m) 64 (0, 0)) := by
    rw [hgz]; exact heap_alloc_new w3 _
  have k4 : Grow w3 (w3.alloc (.cells (rowZ m) 64)) := (Keeps.refl _ w3).alloc _
  have HO4 := Lib.hid (owns_keep HO3.out k4 fun _ _ h => h)
  have HG4 := Lib.hid (Grow.trans _ _ _ HG3.out k4)
  have HLT : Hid (∀ k, (Value.slice A1 m c2).ownBlock = some k → k < g) := fun k hk => by rw [hgz]; exact (HO3.out.lt k hk).2
  have hgw : Hid (w.heap.size ≤ g) := by
    show _ ≤ _
    rw [hgz]; exact HG3.out.size
  simp only [← hgz]
  clear k4 HO3 HG3 hgz
  generalize w3.alloc (.cells (rowZ m) 64) = w4 at *
  obtain ⟨cs, hcs⟩ : ∃ cs, cs = us.map (Value.int .u8) := ⟨_, rfl⟩
  have hcl : cs.length = m := by rw [hcs, List.length_map]; exact HM.out
  have hmin : cs.length = Nat.min m 256 := by rw [hcl]; exact (Nat.min_eq_left hm256).symm
  have hone : ∀ v ∈ cs, v.oneCell' = true := fun v hv => by
    rw [hcs] at hv
    obtain ⟨y, _, rfl⟩ := List.mem_map.1 hv
    rfl
  have hpos : 0 < cs.length → (some ⟨g, 0, none⟩ : Option Addr) = some ⟨g, 0, none⟩ ∧ ∃ ad, A1 = some ad ∧ ∀ j v, cs[j]? = some v → w4.cell? (ad.add j) = some v := fun h0 => by
    refine ⟨rfl, ?_⟩
    obtain ⟨b0, hb0, _⟩ := own_at HO4.out 0 (by omega)
    refine ⟨_, hb0, fun j v hj => ?_⟩
    have hjm : j < m := by have := (List.getElem?_eq_some_iff.1 hj).1; omega
    obtain ⟨b1, hb1, hc1⟩ := own_at HO4.out j hjm
    rw [hb0] at hb1
    injection hb1 with hb1
    injection hb1 with hb1 _
    subst hb1
    rw [show ((⟨b0, 0, none⟩ : Addr).add j) = ⟨b0, j, none⟩ by simp [Addr.add_lit], hc1]
    have hjl : j < us.length := by rw [HM.out]; exact hjm
    rw [hcs, List.getElem?_map, List.getElem?_eq_getElem hjl] at hj
    rw [← hj, List.getD_eq_getElem?_getD, List.getElem?_eq_getElem hjl]
    rfl
  have hfit : 0 + cs.length ≤ (rowL m).length := by rw [rowL_len, hcl]; omega
  have HCS := Lib.hid (And.intro hcs (And.intro hmin (And.intro hone (And.intro hpos (And.intro hfit hcl)))))
  clear hcs hmin hone hpos hfit hcl
  go_wp2_with (refine wpList_copy_keep rfl (.tmp 19) (.tmp 20) 22 22 rfl 5 Try.underlying22 Try.sizeU8 (some ⟨g, 0, none⟩) A1 256 256 m c2 rfl rfl g 0 (rowL m) 64 hw4 cs HCS.out.2.1 HCS.out.2.2.2.1 HCS.out.2.2.2.2.1 HCS.out.2.2.1 ?_; intro w5 hg5 hk5)
  have HR5 := Lib.hid (rowS_new hg5.out HCS.out.1 HM.out hm256 (fun x hx => HUI.out x hx))
  clear hg5 HCS
  have HAB : Hid (∀ k, (Value.slice A1 m c2).ownBlock = some k → k ≠ g) := fun k hk => by have := HLT.out k hk; omega
  have HO5 := Lib.hid (owns_keep HO4.out hk5.out (fun k hk e => HAB.out k hk e))
  have HG5 : Hid (Grow w w5) := Keeps.trans HG4.out hk5.out fun i hi e => by have h1 : w.heap.size ≤ g := hgw; omega
  have HME : Hid (∀ x ∈ xs, x ∈ us) := fun x hx => (HU0.out x).2 hx
  clear hk5 HO4 HG4 hw4
  go_upto_region 4 with fail
  go_wp2_with fail
  go_loopw [3, 6, 7, 24] (fun v3 _ _ vi wr => ∃ (i : Nat) (A2 : Option Addr) (c3 : Nat) (l zs : List Int), i ≤ n ∧ vi = .int .i64 (i : Nat) ∧ v3 = .slice A2 i c3 ∧ Hid (RowS wr g l) ∧ Hid (l.length = m) ∧ Hid (wr.ownsRow (g + 1) 3 1 (.slice A2 i c3) i (zs.map (Value.int .i64))) ∧ Hid (wr.ownsRow w.heap.size 5 1 (.slice A1 m c2) m (us.map (Value.int .u8))) ∧ Hid (zs ++ mtfP l (xs.drop i) = mtfP us xs) ∧ Hid (∀ x ∈ xs, x ∈ l) ∧ Hid (Grow w wr)) (fun _ _ _ vi _ => n - (intOf vi).toNat)
  case atStart => exact ⟨0, none, 0, us, [], Nat.zero_le _, by simp, rfl, HR5.out, HM.out, own_nil _ _ _, HO5.out, rfl, HME.out, HG5.out⟩
  case round =>
    clear HR5 HO5 HG5 HME
    obtain ⟨i, A2, c3, l, zs, hi, rfl, rfl, HR, HLL, HZ, HO, HE, HME, HG⟩ := hrel
    by_cases hin : i < n
    · have hini : (i : Int) < (n : Int) := by omega
      have HNr := Lib.hid (H.out.grow HG.out)
      obtain ⟨ba, oa, rfl, hcell⟩ := HNr.out.at_ (by omega)
      have cx := hcell i hin
      have hxl : i < xs.length := by rw [H.out.len]; exact hin
      obtain ⟨x, hx⟩ : ∃ x, x = xs.getD i 0 := ⟨_, rfl⟩
      have hxm : x ∈ l := HME.out x (by rw [hx, List.getD_eq_getElem?_getD, List.getElem?_eq_getElem hxl]; exact List.getElem_mem hxl)
      rw [← hx] at cx
      have hE1 : zs ++ (((idxP l x : Nat) : Int) :: mtfP (takeP l (idxP l x)) (xs.drop (i + 1))) = mtfP us xs := by
        rw [← HE.out, List.drop_eq_getElem_cons hxl, mtfP]
        have hxx : xs[i] = x := by rw [hx, List.getD_eq_getElem?_getD, List.getElem?_eq_getElem hxl]; rfl
        rw [hxx]
      have hkl := idxP_lt hxm
      have hIX : ∀ q, Calls Try.prog 38 #[.slice (some ⟨g, 0, none⟩) m 256, .int .u8 x] (wr.drewN q) fun e w' => e = .returned (.int .i64 (idxP l x : Nat)) ∧ w' = wr.drewN q := fun q => indexB_is (wr.drewN q) g m 256 l x HLL.out hm256 (fun j hj => HR.out.cell (by rw [HLL.out]; exact hj)) hxm
      have HIX := Lib.hid hIX
      have HLM : Hid (∀ y ∈ xs, y ∈ takeP l (idxP l x)) := fun y hy => (takeP_mem hkl y).2 (HME.out y hy)
      have HLT2 : Hid ((takeP l (idxP l x)).length = m) := by
        show _ = _
        rw [takeP_len hkl]; exact HLL.out
      obtain ⟨k, hk⟩ : ∃ k, k = idxP l x := ⟨_, rfl⟩
      rw [← hk] at hE1 hkl HIX HLM HLT2
      have HE1 := Lib.hid hE1
      have c256 := HR.out.n
      rw [HLL.out] at c256 hkl
      have hmi : (m : Int) ≤ 256 := by omega
      have hs2 : ∀ w7 : World, (Instr.sliceAt 62 (.pointer (some ⟨g, 0, none⟩)) none (some (.int .i64 (m : Nat))) none).run Try.prog w7 = .ok (.slice (some ⟨g, 0, none⟩) m 256) w7 := fun w7 => run_arr_pre Try.underlying62 rfl rfl g m (by omega) w7
      clear hcell hx hxm hIX hk hE1 hxl HE HME
      go_wp2_with fail
      go_quiet (refine Calls.quiet_of_same (HIX.out _))
      have HRd := Lib.hid (HR.out.drewN nq)
      have HZd := Lib.hid (owns_keep HZ.out ((Keeps.refl (fun _ => False) wr).drewN nq) (fun _ _ h => h))
      have HOd := Lib.hid (owns_keep HO.out ((Keeps.refl (fun _ => False) wr).drewN nq) (fun _ _ h => h))
      have HGd : Hid (Grow w (wr.drewN nq)) := Keeps.drewN HG.out nq
      clear cx c256 hs2 HIX HNr HR HZ HO HG
      generalize wr.drewN nq = w6 at *
      have hz6 := HRd.out.lt
      go_wp2_with (at_builtin; refine wpList_app1 rfl (.tmp 38) (.tmp 40) 28 3 rfl Try.underlying28 Try.infoI64 rfl (g + 1) _ i _ rfl HZd.out (by omega) rfl rfl (by unfold maxLen; omega) (by omega) ?_)
      intro g2 c4 w7 ho7 hk7 hm7
      have hz7 : g < w7.heap.size := by have := hk7.size; omega
      have HO7 : Hid (w7.ownsRow (g + 1) 3 1 (.slice (some ⟨g2, 0, none⟩) (i + 1) c4) (i + 1) ((zs ++ [(k : Int)]).map (Value.int .i64))) := by
        show World.ownsRow _ _ _ _ _ _ _
        rw [List.map_append]
        exact ho7
      have HZG : Hid (∀ b, (Value.slice A2 i c3).ownBlock = some b → g + 1 ≤ b) := fun b hb => own_ge HZd.out b hb
      have HR7 := Lib.hid (HRd.out.keep hk7 fun e => by have := HZG.out g e; omega)
      have HOu7 := Lib.hid (owns_keep HOd.out hk7 (fun b hb e => by have h1 := HZG.out b e; have h2 := HLT.out b hb; omega))
      have HG7 : Hid (Grow w w7) := Keeps.trans HGd.out hk7 fun b hb e => by have h1 := HZG.out b e; have h2 : w.heap.size ≤ g := hgw; omega
      have HG2 : Hid (g + 1 ≤ g2) := own_ge ho7 g2 rfl
      clear ho7 hk7 hm7 HZd HRd HOd HGd HZG
      go_wp2_with fail
      refine (take_is w7 g k l HR7.out (by rw [HLL.out]; exact hkl)).mono ?_
      rintro e w8 ⟨rfl, hr8, hk8⟩
      have HR8 := Lib.hid hr8
      have HO8 := Lib.hid (owns_keep HO7.out hk8 (fun b hb e => by have h1 := own_ge HO7.out b hb; omega))
      have HOu8 := Lib.hid (owns_keep HOu7.out hk8 (fun b hb e => by have h2 := HLT.out b hb; omega))
      have HG8 : Hid (Grow w w8) := Keeps.trans HG7.out hk8 fun b hb e => by have h2 : w.heap.size ≤ g := hgw; omega
      clear hr8 hk8 HR7 HO7 HOu7 HG7
      go_wp2_with fail
      go_roundw
      case rel => exact ⟨i + 1, _, _, _, _, hin, by go_num, rfl, HR8.out, HLT2.out, HO8.out, HOu8.out, by show _ = _; rw [List.append_assoc]; exact HE1.out, HLM.out, HG8.out⟩
      case measure => simp [intOf]; omega
    · obtain rfl : n = i := by omega
      have hE1 : zs = mtfP us xs := by
        have h9 := HE.out
        rw [List.drop_eq_nil_of_le (by rw [H.out.len]; exact Nat.le_refl _), mtfP, List.append_nil] at h9
        exact h9
      have HE1 := Lib.hid hE1
      clear hE1
      go_wp2_with fail
      go_ret2
      refine ⟨A1, c2, A2, c3, by rw [← HUS.out, HM.out]; rfl, ?_, ?_, ?_, HG.out⟩
      · rw [← HUS.out, HM.out]; exact HO.out
      · rw [← HUS.out, ← HE1.out]
        exact owns_any_base HZ.out (by have h2 : w.heap.size ≤ g := hgw; omega)
      · intro b hb e
        rw [← HUS.out, HM.out] at e
        have h1 := own_ge HZ.out b hb
        have h2 := HLT.out b e
        omega
end Go.Proofs.Yteccmnjcmmbhlaa
