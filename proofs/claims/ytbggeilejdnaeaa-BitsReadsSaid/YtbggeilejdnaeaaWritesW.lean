/- The law BitsWrites, for inputs of bulk at most 1048576: the walk. -/
import Derived.Test.YtbggeilejdnaeaaBitsM
import Derived.Test.YtbggeilejdnaeaaParts
namespace Go.Proofs.Ytbggeilejdnaeaa
open Go.RowKit
set_option linter.unusedVariables false
set_option linter.unusedSimpArgs false

/-- The bits behind one act more. -/
def wStep (hi : Bool) (l : List Int) (x : Act4) : List Int :=
  if x.1 = 0 then (if mayPut x.2.1 x.2.2.1 = true then l ++ bitsOf hi x.2.1 x.2.2.1.toNat else l)
  else if x.1 = 1 then aligned l else if x.1 = 2 then (if l.length % 8 = 0 then l ++ ofBytes hi x.2.2.2.1 else l) else l
def wSt (hi : Bool) (l : List Act4) : List Int := l.foldl (wStep hi) []
theorem wSt_snoc (hi : Bool) (l : List Act4) (i : Nat) (x : Act4) (h : l[i]? = some x) : wSt hi (l.take (i + 1)) = wStep hi (wSt hi (l.take i)) x := by
  rw [List.take_add_one, h]
  simp [wSt, List.foldl_append]
def actBulk (x : Act4) : Nat := Sh.bulk (.pair (.int .i64) (.pair (.int .u64) (.pair (.int .i64) (.pair (.sl 1 (.int .u8)) .nil)))) x
theorem actBulk_eq (x : Act4) : actBulk x = x.2.2.2.1.length + 4 := by
  have h : ∀ l : List Int, (List.map (fun _ => 1) l).sum = l.length := fun l => by
    induction l with
    | nil => rfl
    | cons x l ih => simp only [List.map_cons, List.sum_cons, List.length_cons] at *; omega
  show 1 + (1 + (1 + (((List.map (fun _ => 1) x.2.2.2.1).sum + 1) + 0))) = _
  rw [h]; omega
theorem wStep_len (hi : Bool) (l : List Int) (x : Act4) : (wStep hi l x).length ≤ l.length + 64 * actBulk x := by
  rw [actBulk_eq]
  unfold wStep
  split
  · split
    · rename_i h
      have h : 0 ≤ x.2.2.1 ∧ x.2.2.1 ≤ 64 ∧ _ := of_decide_eq_true h
      rw [List.length_append]
      have : (bitsOf hi x.2.1 x.2.2.1.toNat).length = x.2.2.1.toNat := by simp [bitsOf]
      omega
    · omega
  · split
    · rw [aligned_length]; omega
    · split
      · split
        · rw [List.length_append, ofBytes_length]; omega
        · omega
      · omega
theorem wSt_len (hi : Bool) (l : List Act4) : (wSt hi l).length ≤ 64 * (l.map actBulk).sum := by
  suffices h : ∀ (l : List Act4) (s : List Int), (l.foldl (wStep hi) s).length ≤ s.length + 64 * (l.map actBulk).sum by
    have := h l []
    simpa [wSt] using this
  intro l
  induction l with
  | nil => intro s; simp
  | cons x l ih =>
    intro s
    have h1 := ih (wStep hi s x)
    have h2 := wStep_len hi s x
    simp only [List.foldl_cons, List.map_cons, List.sum_cons]
    omega
theorem sum_take (l : List Act4) (i : Nat) : ((l.take i).map actBulk).sum ≤ (l.map actBulk).sum := by
  induction l generalizing i with
  | nil => simp
  | cons x l ih =>
    cases i with
    | zero => simp
    | succ i => simp only [List.take_succ_cons, List.map_cons, List.sum_cons]; have := ih i; omega
theorem one_le_sum (l : List Act4) (i : Nat) (x : Act4) (h : l[i]? = some x) : actBulk x ≤ (l.map actBulk).sum := by
  have hm := List.mem_of_getElem? h
  clear h
  induction l with
  | nil => cases hm
  | cons y l ih =>
    simp only [List.map_cons, List.sum_cons]
    rcases List.mem_cons.1 hm with rfl | hm
    · omega
    · have := ih hm; omega
theorem len_le_sum (l : List Act4) : 4 * l.length ≤ (l.map actBulk).sum := by
  induction l with
  | nil => simp
  | cons y l ih => simp only [List.map_cons, List.sum_cons, List.length_cons, actBulk_eq] at *; omega

/-- Where the writer and the list of bits stand. -/
structure BWs (W : World) (hi : Bool) (w : World) (v vl : Value) (L : List Int) : Prop where
  wr : Wr w W.heap.size hi v L
  own : w.ownsRow W.heap.size 3 1 vl L.length (L.map (Value.int .i64))
  grow : Grow W w
  far : Far W v
theorem BWs.keep {W w w' : World} {hi : Bool} {v vl : Value} {L : List Int} {S : Nat → Prop} (h : BWs W hi w v vl L) (k : Keeps S w w') (hS : ∀ b, b < w.heap.size → ¬ S b) : BWs W hi w' v vl L :=
  ⟨h.wr.keep k (hS _ (blk_lt h.wr.2.1)) (fun i hi => hS i (row_lt h.wr.2.2 i hi)), owns_keep h.own k (fun i hi => hS i (row_lt h.own i hi)), Keeps.trans h.grow k (fun i hi hs => absurd hs (hS i (Nat.lt_of_lt_of_le hi h.grow.size))), h.far⟩
theorem BWs.grown {W w w' : World} {hi : Bool} {v vl : Value} {L : List Int} (h : BWs W hi w v vl L) (k : Grow w w') : BWs W hi w' v vl L := h.keep k fun _ _ h => h
theorem BWs.nums {W w : World} {hi : Bool} {v : Value} {A : Option Addr} {n c : Nat} {L : List Int} (h : BWs W hi w v (.slice A n c) L) (hn : L.length = n) : Nums .i64 w A n c L := by
  subst hn
  exact Nums.of_own h.own (bits_in L h.wr.1)
theorem rows_ne {w : World} {b e s n b' e' s' n' : Nat} {v v' : Value} {xs xs' : List Value} (h : w.ownsRow b e s v n xs) (h' : w.ownsRow b' e' s' v' n' xs') (hne : e ≠ e') (k : Nat) (hk : v.ownBlock = some k) : v'.ownBlock ≠ some k := by
  rcases h.2 with ⟨rfl, _⟩ | ⟨g, cap, cur, rfl, _, hg, _⟩
  · simp [Value.ownBlock] at hk
  · have hk : g = k := by simpa [Value.ownBlock] using hk
    subst hk
    exact row_ne h' hg (fun e => hne e.symm)
/-- The writer is written; the list stands. -/
theorem BWs.put {W w w' : World} {hi : Bool} {v v' vl : Value} {L L' : List Int} (h : BWs W hi w v vl L) (hW : Wr w' W.heap.size hi v' L') (k : WrKeep w w' W.heap.size v v') :
    w'.ownsRow W.heap.size 3 1 vl L.length (L.map (Value.int .i64)) ∧ Grow W w' ∧ Far W v' := by
  refine ⟨owns_keep h.own k.1 fun i hi hs => ?_, (k.far h.grow (Nat.le_refl _) h.far).1, (k.far h.grow (Nat.le_refl _) h.far).2⟩
  rcases hs with hs | hs
  · subst hs; exact row_ne h.own h.wr.2.1 (by decide) hi
  · exact rows_ne h.own h.wr.2.2 (by decide) i hi hs
/-- The list is written; the writer stands. -/
theorem BWs.app {W w w' : World} {hi : Bool} {v vl vl' : Value} {L' : List Int} {n : Nat} {xs : List Value} (hW : Wr w W.heap.size hi v L') (hG : Grow W w) (hF : Far W v) (ho : w.ownsRow W.heap.size 3 1 vl n xs)
    (k : Keeps (fun b => vl.ownBlock = some b) w w') (ho' : w'.ownsRow W.heap.size 3 1 vl' L'.length (L'.map (Value.int .i64))) : BWs W hi w' v vl' L' :=
  ⟨hW.keep k (row_ne ho hW.2.1 (by decide)) (fun i hi hs => rows_ne hW.2.2 ho (by decide) i hi hs), ho', grow_own hG ho (Nat.le_refl _) k, hF⟩
def sliceLen : Value → Nat
  | .slice _ n _ => n
  | _ => 0
theorem str_same (l : List Int) : ((strOfNums l).toList == (strOfNums l).toList) = true := by simp

theorem names01_is (w : World) : Calls Try.prog 18 #[] w fun e w' => e = .returned (.bool true) ∧ w = w' := by
  go_enter Try.func18, Try.ntmps18
  go_wp2_with fail
  go_ret
  exact ⟨rfl, rfl⟩

set_option maxRecDepth 4000 in
set_option maxHeartbeats 4000000 in
theorem walkBitsWrites (W : World) (x0 : Bool) (a1 : Option Addr) (c1 : Nat) (x1 : List ((Int) × (Int) × (Int) × (List (Int)) × Unit)) (_h1 : Sh.Rd W (.sl 48 (.pair (.int .i64) (.pair (.int .u64) (.pair (.int .i64) (.pair (.sl 1 (.int .u8)) .nil))))) [.slice a1 x1.length c1] x1) (_hk : Sh.bulk .bool x0 + Sh.bulk (.sl 48 (.pair (.int .i64) (.pair (.int .u64) (.pair (.int .i64) (.pair (.sl 1 (.int .u8)) .nil))))) x1 ≤ 1048576) :
    Calls Try.prog 4 #[.bool x0, .slice a1 x1.length c1] W fun e w' => e = .returned (.bool true) ∧ Below W.heap.size W w' := by
  have hsum : (x1.map actBulk).sum ≤ 1048574 := by
    have h : 1 + ((x1.map actBulk).sum + 1) ≤ 1048576 := _hk
    omega
  have hn4 := len_le_sum x1
  have HSUM := Lib.hid hsum
  have HC := Lib.hid (fun i hi => acts_cells _h1 i hi)
  have HLB : Hid (∀ i, (wSt x0 (x1.take i)).length ≤ 67108864) := fun i => by
    have h1 := wSt_len x0 (x1.take i)
    have h2 := sum_take x1 i
    omega
  have hn : x1.length ≤ 1048576 := by omega
  clear _h1 _hk hsum hn4
  go_enter Try.func4, Try.ntmps4
  go_wp2_with fail
  refine (new_any _ x0).mono ?_
  rintro e wA ⟨rfl, HA, KA⟩
  have hB0 : BWs W x0 wA (.slice none 0 0) (.slice none 0 0) [] := ⟨HA, own_nil _ _ _, KA, Far.nil _ 0 0⟩
  clear HA KA
  go_wp2_with fail
  go_loopw [6, 7] (fun vl vi wr => ∃ (i : Nat) (v : Value) (L : List Int), i ≤ x1.length ∧ vi = .int .i64 i ∧ Hid (L = wSt x0 (x1.take i)) ∧ BWs W x0 wr v vl L) (fun _ vi _ => x1.length + 1 - (intOf vi).toNat)
  case atStart => exact ⟨0, _, [], by omega, rfl, rfl, hB0⟩
  case round =>
    clear hB0
    obtain ⟨i, v, L, hi, rfl, hL, hB⟩ := hrel
    obtain ⟨wo, rfl⟩ : ∃ wo : World, wo = wr := ⟨_, rfl⟩
    obtain ⟨A, c, rfl⟩ := row_form hB.own
    have hlen : L.length ≤ 67108864 := by rw [hL.out]; exact HLB.out i
    obtain ⟨n, hn'⟩ : ∃ n, n = L.length := ⟨_, rfl⟩
    obtain ⟨m, hm⟩ : ∃ m, m = (n + 7) / 8 := ⟨_, rfl⟩
    rw [← hn'] at hlen hB ⊢
    have hmb : m ≤ 67108864 := by omega
    have HNL := Lib.hid hn'
    have HM := Lib.hid hm
    have HB := Lib.hid hB
    have hi' : (i : Int) ≤ x1.length := by omega
    clear hB hn' hm
    go_wp2_with fail
    refine (bytes_any wo W.heap.size x0 v L HB.out.wr (by rw [← HNL.out]; omega)).mono ?_
    rw [← HNL.out, ← HM.out]
    rintro e w1 ⟨A1, c1', rfl, hx1, k1⟩
    have HX1 := Lib.hid hx1
    have HB1 := Lib.hid (HB.out.grown k1)
    have HG1 := Lib.hid k1
    have hz1 := k1.size
    clear hx1 k1
    go_wp2_with fail
    refine (bytes_any w1 W.heap.size x0 v L HB1.out.wr (by rw [← HNL.out]; omega)).mono ?_
    rw [← HNL.out, ← HM.out]
    rintro e w2 ⟨A2, c2', rfl, hx2, k2⟩
    have HX2 := Lib.hid hx2
    have HX1' := Lib.hid (owns_keep HX1.out k2 (fun _ _ h => h))
    have HB2 := Lib.hid (HB1.out.grown k2)
    have HG2 := Lib.hid (Grow.trans _ _ _ HG1.out k2)
    have hz2 := k2.size
    have HFX : Hid (∀ b, (Value.slice A1 m c1').ownBlock = some b → wo.heap.size ≤ b ∧ b < w1.heap.size) := fun b hb => ⟨own_ge HX1.out b hb, row_lt HX1.out b hb⟩
    clear hx2 k2 HX1 HB1
    go_wp2_with fail
    refine (refBytes_is w2 A n c L x0 (HB2.out.nums HNL.out.symm) HB2.out.wr.1 (by omega)).mono ?_
    rw [← HM.out]
    rintro e w3 ⟨g3, rfl, hx3, k3⟩
    have HX1 := Lib.hid (owns_keep HX1'.out k3 (fun _ _ h => h))
    have HX2' := Lib.hid (owns_keep HX2.out k3 (fun _ _ h => h))
    have HB3 := Lib.hid (HB2.out.grown k3)
    have HG3 := Lib.hid (Grow.trans _ _ _ HG2.out k3)
    have hpk := pk_isByte x0 L HB3.out.wr.1
    have hcv3 := run_str (P := Try.prog) (w := w3) Try.underlying29 Try.underlying5 Try.underlying9 hx3
    have hcv1 := run_str (P := Try.prog) (w := w3) Try.underlying29 Try.underlying5 Try.underlying9 HX1.out
    clear hx3 k3 HX1' HB2
    generalize hS : strOfNums (pk x0 L) = S at *
    have HS := Lib.hid hS
    clear hS hpk
    go_wp2_with fail
    refine (len_any w3 W.heap.size x0 v L HB3.out.wr).mono ?_
    rw [← HNL.out]
    rintro e w4 ⟨rfl, rfl⟩
    go_wp2_with fail
    have hcv2 : ∀ w', Keeps (fun b => (Value.slice A1 m c1').ownBlock = some b) w3 w' → (convert 29 9 (.slice A2 m c2')).run Try.prog w' = .ok (.string S) w' := fun w' k => by
      have h2 := owns_keep HX2'.out k (fun b hb h => by
        have h3 := HFX.out b h
        have h4 := own_ge HX2.out b hb
        omega)
      rw [← HS.out]
      exact run_str (P := Try.prog) Try.underlying29 Try.underlying5 Try.underlying9 h2
    have HCV2 := Lib.hid hcv2
    clear hcv1 hcv2 hcv3
    go_loopw [11] (fun vk wr2 => ∃ (k : Nat) (ys : List Int), k ≤ m ∧ vk = .int .i64 k ∧ wr2.ownsRow wo.heap.size 5 1 (.slice A1 m c1') m (ys.map (Value.int .u8)) ∧ Hid (∀ y ∈ ys, inKind .u8 y) ∧ Keeps (fun b => (Value.slice A1 m c1').ownBlock = some b) w3 wr2) (fun vk _ => m - (intOf vk).toNat)
    case atStart => exact ⟨0, _, by omega, rfl, HX1.out, fun y hy => by have := pk_isByte x0 L HB3.out.wr.1 y hy; exact mk_u8 this.1 (by omega), Keeps.refl _ _⟩
    case round =>
      obtain ⟨k, ys, hk, rfl, hox, hys, hkx⟩ := hrel
      by_cases hkm : k < m
      · have hN := Nums.of_own hox hys.out
        obtain ⟨b, o, rfl, hc⟩ := hN.at_ (by omega)
        have hbo : o = 0 := by
          rcases hox.2 with ⟨e, _⟩ | ⟨g, cap, cur, e, _⟩
          · cases e
          · injection e with e _ _
            injection e with e
            injection e
        subst hbo
        have d0 := hc k hkm
        have hy := hN.byte k
        have fr := hox.frozenAt k
        rw [Nat.zero_add] at d0
        have hst := (hox.stored k (.int .u8 ((ys.getD k 0 + 1) % 256))).1
        rw [map_set_u8] at hst
        have hys2 : Hid (∀ y ∈ ys.set k ((ys.getD k 0 + 1) % 256), inKind .u8 y) := fun y hy => by
          rcases List.mem_or_eq_of_mem_set hy with h | h
          · exact hys.out y h
          · rw [h]; exact mk_u8 (by omega) (by omega)
        generalize ys.set k ((ys.getD k 0 + 1) % 256) = zs at *
        generalize ys.getD k 0 = y at *
        have HST := Lib.hid hst
        have HKX := Lib.hid hkx
        have hkm' : (k : Int) < m := by omega
        clear hc hst hkx hox hN
        go_wp2_with fail
        go_roundw
        case rel => exact ⟨k + 1, zs, by omega, by go_num, HST.out, hys2, HKX.out.setCell (p := ⟨b, k, none⟩) (fun _ => rfl) _⟩
        case measure => simp [intOf]; omega
      · obtain rfl : m = k := by omega
        have HKX := Lib.hid hkx
        have HG5 : Hid (Grow wo wr) := Keeps.trans HG3.out hkx (fun b hb h => absurd hb (Nat.not_lt.2 (HFX.out b h).1))
        have HB5 := Lib.hid (HB.out.grown HG5.out)
        have hcv2 := HCV2.out wr hkx
        clear hkx hox HB3 HX1 HX2' HCV2 HX2 HG1 HG2 HG3
        by_cases hend : i = x1.length
        · subst hend
          go_wp2_with fail
          refine (names01_is wr).mono ?_
          rintro e w5 ⟨rfl, rfl⟩
          go_wp2_with fail
          go_ret
          exact ⟨rfl, HB5.out.grow.below (fun _ _ h => h) (Nat.le_refl _)⟩
        · have hil : i < x1.length := by omega
          have hil' : (i : Int) < x1.length := by omega
          have hne : ((i : Int) == x1.length) = false := by rw [beq_eq_false_iff_ne]; omega
          obtain ⟨b, off, A', c', x, rfl, hx, k0, k1, k2, k3, h0, hv, hnn, hbb⟩ := HC.out i hil
          have hgW := HB5.out.grow
          have d0 := cell_keep k0 hgW (fun h => h)
          have d1 := cell_keep k1 hgW (fun h => h)
          have d2 := cell_keep k2 hgW (fun h => h)
          have d3 := cell_keep k3 hgW (fun h => h)
          have HNB := Lib.hid ((Nums.of_rd hbb).1.grow hgW)
          have HNB0 : Hid (∀ w', Grow W w' → Nums .u8 w' A' x.2.2.2.1.length c' x.2.2.2.1) := fun w' h => (Nums.of_rd hbb).1.grow h
          have hvr := wf_u64 hv
          have hnr := wf_i64 hnn
          have HX := Lib.hid hx
          have hbl : x.2.2.2.1.length ≤ 1048576 := by
            have h1 := one_le_sum x1 i x hx
            have h2 := HSUM.out
            rw [actBulk_eq] at h1
            omega
          have HSN := Lib.hid (wSt_snoc x0 x1 i x hx)
          rw [← hL.out] at HSN
          have HNN := Lib.hid (inKind_wf hnn)
          clear k0 k1 k2 k3 h0 hv hnn hbb hgW hx
          obtain ⟨kd, vv, nn', bs, u⟩ := x
          simp only at d0 d1 d2 d3 hvr hnr hbl HSN HNB HNN HNB0
          generalize hbn : bs.length = bn at *
          have HBN := Lib.hid hbn
          clear hbn
          go_upto_region 18 with fail
          have hga := heap_alloc_new wr (.cells #[.int .i64 kd, .int .u64 vv, .int .i64 nn', .slice A' bn c'] 36)
          have HB6 := Lib.hid (HB5.out.grown ((Keeps.refl (fun _ => False) wr).alloc (.cells #[.int .i64 kd, .int .u64 vv, .int .i64 nn', .slice A' bn c'] 36)))
          have HNB6 := Lib.hid (HNB.out.grow ((Keeps.refl (fun _ => False) wr).alloc (.cells #[.int .i64 kd, .int .u64 vv, .int .i64 nn', .slice A' bn c'] 36)))
          have HGA := Lib.hid hga
          clear d0 d1 d2 d3 hga hcv2 hne HB5 HNB HB
          generalize wr.alloc (.cells #[.int .i64 kd, .int .u64 vv, .int .i64 nn', .slice A' bn c'] 36) = wb at *
          have e0 := blk_cell HGA.out 0
          have e1 := blk_cell HGA.out 1
          have e2 := blk_cell HGA.out 2
          have e3 := blk_cell HGA.out 3
          simp at e0 e1 e2 e3
          have hgne : wr.heap.size ≠ W.heap.size := by
            intro e
            have h1 := HGA.out
            rw [e, HB6.out.wr.2.1] at h1
            injection h1 with h1
            injection h1 with _ h1
            exact absurd h1 (by decide)
          have hgv : v.ownBlock ≠ some wr.heap.size := row_ne HB6.out.wr.2.2 HGA.out (by decide)
          obtain ⟨ga, hgae⟩ : ∃ ga, ga = wr.heap.size := ⟨_, rfl⟩
          rw [← hgae] at e0 e1 e2 e3 hgne hgv HGA ⊢
          clear hgae
          have HGV := Lib.hid hgv
          clear hgv
          by_cases hk0 : kd = 0
          · subst hk0
            cases hmay : mayPut vv nn'
            · have hstep : wStep x0 L (0, vv, nn', bs, u) = L := by simp [wStep, hmay]
              rw [hstep] at HSN
              have HMAY := Lib.hid (refMay_is wb vv nn' hvr.1 hvr.2 HNN.out)
              rw [hmay] at HMAY
              have hno : nn' < 0 ∨ 64 < nn' ∨ (0 ≤ nn' ∧ nn' < 64 ∧ vv / 2 ^ nn'.toNat ≠ 0) := by
                have h : ¬ (0 ≤ nn' ∧ nn' ≤ 64 ∧ (nn' = 64 ∨ vv / 2 ^ nn'.toNat = 0)) := of_decide_eq_false hmay
                by_cases h1 : nn' < 0
                · exact .inl h1
                · by_cases h2 : 64 < nn'
                  · exact .inr (.inl h2)
                  · refine .inr (.inr ⟨by omega, ?_, fun h3 => h ⟨by omega, by omega, .inr h3⟩⟩)
                    rcases Int.lt_or_lt_of_ne (fun h3 : nn' = 64 => h ⟨by omega, by omega, .inl h3⟩) with h4 | h4
                    · exact h4
                    · omega
              have HP := Lib.hid (put_no wb W.heap.size x0 v L vv nn' HB6.out.wr hvr.1 hvr.2 hno)
              clear hno hmay hstep
              go_wp2_with fail
              refine HP.out.mono ?_
              rintro e w5 ⟨rfl, rfl⟩
              go_wp2_with fail
              refine HMAY.out.mono ?_
              rintro e w5 ⟨rfl, rfl⟩
              go_wp2_with fail
              go_roundw
              case rel => exact ⟨i + 1, v, L, by omega, by go_num, HSN.out.symm, HB6.out⟩
              case measure => simp [intOf]; omega
            · have HMT := Lib.hid hmay
              obtain ⟨hm0, hm1, hm2⟩ : 0 ≤ nn' ∧ nn' ≤ 64 ∧ (nn' = 64 ∨ vv / 2 ^ nn'.toNat = 0) := of_decide_eq_true hmay
              have hstep : wStep x0 L (0, vv, nn', bs, u) = L ++ bitsOf x0 vv nn'.toNat := by simp [wStep, hmay]
              rw [hstep] at HSN
              have HMAY := Lib.hid (refMay_is wb vv nn' hvr.1 hvr.2 HNN.out)
              rw [hmay] at HMAY
              obtain ⟨k, rfl⟩ := Int.eq_ofNat_of_zero_le hm0
              rw [Int.toNat_natCast] at HSN hm2
              have hk64 : k ≤ 64 := by omega
              have HP := Lib.hid (put_yes wb W.heap.size x0 v L vv k HB6.out.wr hvr.1 hvr.2 hk64 (by rcases hm2 with h | h; (left; omega); exact .inr h) (by rw [← HNL.out]; omega))
              have hlb : (bitsOf x0 vv k).length = k := by simp [bitsOf]
              have HLB2 := Lib.hid hlb
              clear hm2 hmay hstep hm0 hm1 hlb
              go_wp2_with fail
              refine HP.out.mono ?_
              rintro e w5 ⟨rfl, v', hW5, hK5⟩
              have hput := HB6.out.put hW5 hK5
              rw [← HNL.out] at hput
              have HPUT := Lib.hid hput
              have HW5 := Lib.hid hW5
              have hact : w5.heap[ga]? = some _ := block_keep HGA.out hK5.1 (fun h => by
                rcases h with h | h
                · exact hgne h
                · exact HGV.out h)
              have HACT := Lib.hid hact
              clear hput hK5 hW5 e0 e1 e2 e3 hact
              have f0 := blk_cell HACT.out 0
              have f1 := blk_cell HACT.out 1
              have f2 := blk_cell HACT.out 2
              simp at f0 f1 f2
              have HMAY := Lib.hid (refMay_is w5 vv k hvr.1 hvr.2 HNN.out)
              rw [show mayPut vv k = true from HMT.out] at HMAY
              go_wp2_with fail
              refine HMAY.out.mono ?_
              rintro e w6 ⟨rfl, rfl⟩
              go_wp2_with fail
              refine (refBits_is w5 vv k x0 hvr.1 hvr.2 hk64).mono ?_
              rintro e w6 ⟨A6, c6, rfl, ho6, k6⟩
              have HS6 := Lib.hid (src_own ho6 (fun u hu => by obtain ⟨y, _, rfl⟩ := List.mem_map.1 hu; rfl))
              have HO6 := Lib.hid (owns_keep HPUT.out.1 k6 (fun _ _ h => h))
              have HW6 := Lib.hid (HW5.out.keep k6 (fun h => h) (fun _ _ h => h))
              have HG6 := Lib.hid (Grow.trans _ _ _ HPUT.out.2.1 k6)
              have hz6 := HG6.out.size
              clear ho6 k6 f0 f1 f2
              go_wp2_with (at_builtin; refine wpList_appS rfl (.tmp 93) (.tmp 99) 33 3 rfl Try.underlying33 Try.infoI64 rfl (by decide) W.heap.size _ n _ rfl HO6.out hz6 A6 k c6 _ rfl HS6.out (by unfold maxLen; omega) (by omega) ?_)
              intro A7 c7 w7 ho7 k7 _
              rw [← List.map_append] at ho7
              have HB7 : Hid (BWs W x0 w7 v' (.slice A7 (n + k) c7) (L ++ bitsOf x0 vv k)) := BWs.app HW6.out HG6.out HPUT.out.2.2 HO6.out k7 (by rw [List.length_append, HLB2.out, ← HNL.out]; exact ho7)
              clear ho7 k7
              go_wp2_with fail
              go_roundw
              case rel => exact ⟨i + 1, v', _, by omega, by go_num, HSN.out.symm, HB7.out⟩
              case measure => simp [intOf]; omega
          by_cases hk1 : kd = 1
          · subst hk1
            clear hk0
            have hstep : wStep x0 L (1, vv, nn', bs, u) = aligned L := by simp [wStep]
            rw [hstep] at HSN
            have HP := Lib.hid (align_any wb W.heap.size x0 v L HB6.out.wr (by rw [← HNL.out]; omega))
            clear hstep
            go_wp2_with fail
            refine HP.out.mono ?_
            rintro e w5 ⟨rfl, hW5, hK5⟩
            have hput := HB6.out.put hW5 hK5
            rw [← HNL.out] at hput
            have HPUT := Lib.hid hput
            have HW5 := Lib.hid hW5
            obtain ⟨J, hJ⟩ : ∃ J, J = (8 - n % 8) % 8 := ⟨_, rfl⟩
            have HAL : Hid (aligned L = L ++ List.replicate J 0) := by
              show aligned L = _
              unfold aligned
              rw [← HNL.out, ← hJ]
            have hJ8 : J < 8 := by omega
            have hJm : (n + J) % 8 = 0 := by omega
            have HJ : Hid (∀ j, j < J → (n + j) % 8 ≠ 0) := fun j hj => by omega
            clear hput hK5 hW5 e0 e1 e2 e3 hJ
            go_wp2_with fail
            go_loopw [6] (fun vl wr => ∃ (j : Nat) (A7 : Option Addr) (c7 : Nat), j ≤ J ∧ vl = .slice A7 (n + j) c7 ∧ wr.ownsRow W.heap.size 3 1 vl (n + j) ((L ++ List.replicate j 0).map (Value.int .i64)) ∧ Wr wr W.heap.size x0 v (aligned L) ∧ Grow W wr) (fun vl _ => n + J - sliceLen vl)
            case atStart => exact ⟨0, A, c, by omega, rfl, by simpa using HPUT.out.1, HW5.out, HPUT.out.2.1⟩
            case round =>
              obtain ⟨j, A7, c7, hj, rfl, ho7, hW7, hG7⟩ := hrel
              have HO7 := Lib.hid ho7
              have HW7 := Lib.hid hW7
              have HG7 := Lib.hid hG7
              have hz7 := hG7.size
              clear ho7 hW7 hG7
              obtain ⟨r, hr⟩ : ∃ r, r = (n + j) % 8 := ⟨_, rfl⟩
              have hri : ((n : Int) + j) % 8 = r := by omega
              have hr8 : r < 8 := by omega
              by_cases hjJ : j < J
              · have hr0 : r ≠ 0 := by rw [hr]; exact HJ.out j hjJ
                have b0 : ((r : Int) == 0) = false := by rw [beq_eq_false_iff_ne]; omega
                have b0' : ((r : Int) != 0) = true := by rw [bne, b0]; rfl
                have hsn : Hid ((L ++ List.replicate j 0).map (Value.int .i64) ++ [.int .i64 0] = (L ++ List.replicate (j + 1) 0).map (Value.int .i64)) := by
                  show _ = _
                  rw [List.replicate_succ', ← List.append_assoc, List.map_append (l₂ := [0])]; rfl
                obtain ⟨ZS, hZS⟩ : ∃ ZS, ZS = (L ++ List.replicate j 0).map (Value.int .i64) := ⟨_, rfl⟩
                rw [← hZS] at hsn HO7
                clear hr hZS
                go_wp2_with (at_builtin; refine wpList_app1 rfl (.tmp 110) (.tmp 111) 33 3 rfl Try.underlying33 Try.infoI64 rfl W.heap.size _ (n + j) _ rfl HO7.out hz7 rfl rfl (by unfold maxLen; omega) (by omega) ?_)
                intro g8 c8 w8 ho8 k8 _
                rw [hsn.out] at ho8
                have HO8 := Lib.hid ho8
                have HG8 := Lib.hid (grow_own HG7.out HO7.out (Nat.le_refl _) k8)
                have HW8 := Lib.hid (HW7.out.keep k8 (row_ne HO7.out HW7.out.2.1 (by decide)) (fun i hi hs => rows_ne HW7.out.2.2 HO7.out (by decide) i hi hs))
                clear ho8 k8
                go_wp2_with fail
                go_roundw
                case rel => exact ⟨j + 1, _, _, by omega, rfl, HO8.out, HW8.out, HG8.out⟩
                case measure => simp [sliceLen]; omega
              · obtain rfl : J = j := by omega
                have hr0 : r = 0 := by omega
                subst hr0
                clear hr
                go_wp2_with fail
                go_roundw
                case rel =>
                  refine ⟨i + 1, v, aligned L, by omega, by go_num, HSN.out.symm, HW7.out, ?_, HG7.out, HPUT.out.2.2⟩
                  have h := HO7.out
                  rw [← HAL.out] at h
                  rw [show (aligned L).length = n + J from by rw [HAL.out, List.length_append, ← HNL.out]; simp]
                  exact h
                case measure => simp [intOf]; omega
          by_cases hk2 : kd = 2
          · subst hk2
            clear hk0 hk1
            have hN6 := HNB6.out
            have ho0 := own_none wb 5
            have HS0 := Lib.hid (hN6.grow ((Keeps.refl (fun _ => False) wb).alloc (.cells #[] 5))).src
            clear hN6
            have e3b : (wb.alloc (.cells #[] 5)).cell? ⟨ga, 3, none⟩ = some (.slice A' bn c') := by rw [blk_cell (blk_alloc HGA.out (.cells #[] 5)) 3]; rfl
            go_wp2_with (at_builtin; refine wpList_appS rfl (.tmp 115) (.tmp 117) 29 5 rfl Try.underlying29 Try.infoU8 rfl (by decide) wb.heap.size _ 0 _ rfl ho0 (by simp) A' bn c' _ rfl HS0.out (by unfold maxLen; omega) (by omega) ?_)
            intro A7 c7 w7 ho7 k7 _
            (try simp only [Nat.zero_add, List.nil_append] at ho7)
            (try simp only [Nat.zero_add])
            have HG7 : Hid (Grow wb w7) := Keeps.trans ((Keeps.refl (fun _ => False) wb).alloc (.cells #[] 5)) k7 (fun i hi h => by simp [Value.ownBlock] at h; omega)
            have HO7 := Lib.hid ho7
            have hz7 := HG7.out.size
            clear ho7 k7 ho0
            go_wp2_with (at_builtin; refine wpList_app1 rfl (.tmp 118) (.tmp 119) 29 5 rfl Try.underlying29 Try.infoU8 rfl wb.heap.size _ bn _ rfl HO7.out hz7 rfl rfl (by unfold maxLen; omega) (by omega) ?_)
            intro g8 c8 w8 ho8 k8 _
            rw [show bs.map (Value.int .u8) ++ [Value.int .u8 90] = (bs ++ [90]).map (Value.int .u8) from by simp] at ho8
            have HO8 := Lib.hid ho8
            have HG8 := Lib.hid (grow_own HG7.out HO7.out (Nat.le_refl _) k8)
            clear ho8 k8 e0 e1 e2 e3 e3b
            have hact := block_keep HGA.out HG8.out (fun h => h)
            have HACT := Lib.hid hact
            have f3 := blk_cell hact 3
            simp at f3
            have hrb : ∀ y ∈ bs ++ [(90 : Int)], inKind .u8 y := fun y hy => by
              rcases List.mem_append.1 hy with h | h
              · exact HNB6.out.rng y h
              · rw [List.mem_singleton.1 h]; exact mk_u8 (by decide) (by decide)
            have HN8 := Lib.hid (Nums.of_own HO8.out hrb)
            have HN8b := Lib.hid (HN8.out.take bn (by omega))
            have HB8 := Lib.hid (HB6.out.grown HG8.out)
            have hcap : bn ≤ c8 := by have := HN8.out.cap; omega
            clear hact
            have htk : (bs ++ [(90 : Int)]).take bn = bs := by rw [List.take_append_of_le_length (by rw [HBN.out]; exact Nat.le_refl _)]; exact List.take_of_length_le (by rw [HBN.out]; exact Nat.le_refl _)
            rw [htk] at HN8b
            have hgw8 : W.heap.size < wb.heap.size := blk_lt HB6.out.wr.2.1
            have hfr8 : Hid (∀ b, (Value.slice (some ⟨g8, 0, none⟩) (bn + 1) c8).ownBlock = some b → ¬ (b = W.heap.size ∨ v.ownBlock = some b)) := fun b hb h => by
              have h1 := own_ge HO8.out b hb
              rcases h with h | h
              · omega
              · have h2 := row_lt HB6.out.wr.2.2 b h
                omega
            have hsz : (strOfNums bs).size = bn := by rw [strOfNums_size]; exact HBN.out
            have happ := str_snoc bs
            have HAPP := Lib.hid happ
            have HSZ := Lib.hid hsz
            obtain ⟨r, hr⟩ : ∃ r, r = n % 8 := ⟨_, rfl⟩
            have hri : (n : Int) % 8 = r := by omega
            have hr8 : r < 8 := by omega
            have HR := Lib.hid hr
            clear hr htk hrb
            have hrun : ∀ w9, Keeps (fun k => k = W.heap.size ∨ v.ownBlock = some k) w8 w9 → Grow W w9 → (convert 29 9 (.slice (some ⟨g8, 0, none⟩) (bn + 1) c8)).run Try.prog w9 = .ok (.string (strOfNums (bs ++ [90]))) w9 := fun w9 k _ =>
              run_str Try.underlying29 Try.underlying5 Try.underlying9 (owns_keep HO8.out k hfr8.out)
            have HRUN := Lib.hid hrun
            clear hrun
            by_cases hr0 : r = 0
            · subst hr0
              have hL8 : L.length % 8 = 0 := by rw [← HNL.out]; exact HR.out.symm
              have hstep : wStep x0 L (2, vv, nn', bs, u) = L ++ ofBytes x0 bs := by simp [wStep, hL8]
              rw [hstep] at HSN
              have HP := Lib.hid (putBytes_yes w8 W.heap.size x0 v L (some ⟨g8, 0, none⟩) bn c8 bs HB8.out.wr HN8b.out hL8 (by rw [← HNL.out]; omega))
              clear hL8 hstep happ hsz
              go_wp2_with fail
              refine HP.out.mono ?_
              rintro e w9 ⟨rfl, v', hW9, hK9⟩
              have hput := HB8.out.put hW9 hK9
              rw [← HNL.out] at hput
              have HPUT := Lib.hid hput
              have HW9 := Lib.hid hW9
              have hcvA := HRUN.out w9 hK9.1 hput.2.1
              have hact : w9.heap[ga]? = some _ := block_keep HACT.out hK9.1 (fun h => by
                rcases h with h | h
                · exact hgne h
                · exact HGV.out h)
              clear f3
              have f3 := blk_cell hact 3
              simp at f3
              have hN9 := HNB0.out w9 hput.2.1
              have HN9 := Lib.hid hN9
              have hcvB := run_str_src (P := Try.prog) Try.underlying29 Try.underlying5 Try.underlying9 hN9.src
              have happ := HAPP.out
              have hsz := HSZ.out
              have hz9 := hput.2.1.size
              clear hput hK9 hW9 hact hN9
              go_upto_region 38 with fail
              clear hcvA hcvB happ hsz
              go_wp2_with fail
              refine (refOf_is w9 A' bn c' bs x0 HN9.out (by omega)).mono ?_
              rintro e w10 ⟨A10, c10, rfl, ho10, k10⟩
              have HS10 := Lib.hid (src_own ho10 (fun u hu => by obtain ⟨y, _, rfl⟩ := List.mem_map.1 hu; rfl))
              have HO10 := Lib.hid (owns_keep HPUT.out.1 k10 (fun _ _ h => h))
              have HW10 := Lib.hid (HW9.out.keep k10 (fun h => h) (fun _ _ h => h))
              have HG10 := Lib.hid (Grow.trans _ _ _ HPUT.out.2.1 k10)
              have hz10 := HG10.out.size
              have HOL : Hid ((ofBytes x0 bs).length = 8 * bn) := by show _ = _; rw [ofBytes_length, HBN.out]
              clear ho10 k10 f3
              go_wp2_with (at_builtin; refine wpList_appS rfl (.tmp 154) (.tmp 158) 33 3 rfl Try.underlying33 Try.infoI64 rfl (by decide) W.heap.size _ n _ rfl HO10.out hz10 A10 (8 * bn) c10 _ rfl HS10.out (by unfold maxLen; omega) (by omega) ?_)
              intro A11 c11 w11 ho11 k11 _
              rw [← List.map_append] at ho11
              have HB11 : Hid (BWs W x0 w11 v' (.slice A11 (n + 8 * bn) c11) (L ++ ofBytes x0 bs)) := BWs.app HW10.out HG10.out HPUT.out.2.2 HO10.out k11 (by rw [List.length_append, HOL.out, ← HNL.out]; exact ho11)
              clear ho11 k11
              go_wp2_with fail
              go_roundw
              case rel => exact ⟨i + 1, v', _, by omega, by go_num, HSN.out.symm, HB11.out⟩
              case measure => simp [intOf]; omega
            · have hL8 : L.length % 8 ≠ 0 := by rw [← HNL.out, ← HR.out]; exact hr0
              have hstep : wStep x0 L (2, vv, nn', bs, u) = L := by simp [wStep, hL8]
              rw [hstep] at HSN
              have HP := Lib.hid (putBytes_no w8 W.heap.size x0 v L (some ⟨g8, 0, none⟩) bn c8 HB8.out.wr hL8 (by rw [← HNL.out]; omega))
              have b0 : ((r : Int) == 0) = false := by rw [beq_eq_false_iff_ne]; omega
              have b0' : ((r : Int) != 0) = true := by rw [bne, b0]; rfl
              clear hL8 hstep happ hsz
              go_wp2_with fail
              refine HP.out.mono ?_
              rintro e w9 ⟨rfl, rfl⟩
              have hcvA := HRUN.out w8 (Keeps.refl _ _) HB8.out.grow
              have hN9 := HNB0.out w8 HB8.out.grow
              have hcvB := run_str_src (P := Try.prog) Try.underlying29 Try.underlying5 Try.underlying9 hN9.src
              have happ := HAPP.out
              have hsz := HSZ.out
              clear hN9
              go_wp2_with fail
              go_roundw
              case rel => exact ⟨i + 1, v, L, by omega, by go_num, HSN.out.symm, HB8.out⟩
              case measure => simp [intOf]; omega
          · have hstep : wStep x0 L (kd, vv, nn', bs, u) = L := by simp [wStep, hk0, hk1, hk2]
            rw [hstep] at HSN
            clear hstep
            go_wp2_with fail
            go_roundw
            case rel => exact ⟨i + 1, v, L, by omega, by go_num, HSN.out.symm, HB6.out⟩
            case measure => simp [intOf]; omega
end Go.Proofs.Ytbggeilejdnaeaa
