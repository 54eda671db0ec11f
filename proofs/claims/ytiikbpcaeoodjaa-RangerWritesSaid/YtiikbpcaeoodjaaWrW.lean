/- The law RangerWrites: the walk. -/
import Derived.Test.YtiikbpcaeoodjaaWrK
namespace Go.Proofs.Ytiikbpcaeoodjaa
open Go.RowKit
set_option linter.unusedVariables false
set_option linter.unusedSimpArgs false

theorem EncTo2.rel {w w' : World} {g gc cc ga : Nat} {vo : Value} {e e' : Enc} {cs : Array Value} (h : EncAt w g gc cc vo e) (hga : w.heap[ga]? = some (.cells cs 43 (0, 0))) (t : EncTo2 w g gc cc vo e' w') : Keeps (fun k => k ≠ ga) w w' := by
  obtain ⟨vo', _, h2, _⟩ := t
  refine h2.mono fun k _ hk => ?_
  rintro rfl
  rcases hk with hk | hk | hk
  · exact blk_ne h.blk hga (by decide) hk.symm
  · obtain ⟨cs, h9⟩ := h.chs_blk
    exact blk_ne h9 hga (by decide) hk.symm
  · exact row_ne h.out hga (by decide) hk
theorem RefTo2.rel {w w' : World} {g ga : Nat} {vc vo : Value} {e e' : Enc} {cs : Array Value} (h : RefAt w g vc vo e) (hga : w.heap[ga]? = some (.cells cs 43 (0, 0))) (t : RefTo2 w g vc vo e' w') : Keeps (fun k => k ≠ ga) w w' := by
  obtain ⟨vo', _, h2, _⟩ := t
  refine h2.mono fun k _ hk => ?_
  rintro rfl
  rcases hk with hk | hk | hk
  · exact blk_ne h.blk hga (by decide) hk.symm
  · exact row_ne h.chs hga (by decide) hk
  · exact row_ne h.out hga (by decide) hk
/-- The document's chances are set. -/
theorem EE.setR {W w : World} {n cg cgc rg m c : Nat} {cvo rvc rvo : Value} {e f : Enc} {A : Option Addr} {l : List Nat} (h : EE W w n cg cgc rg cvo rvc rvo e f) (ho : w.ownsRow W.heap.size 3 1 (.slice A m c) l.length ((toI l).map (Value.int .i64))) :
    EE W (w.setCell ⟨rg, 0, none⟩ (.slice A m c)) n cg cgc rg cvo (.slice A m c) rvo e { f with ch := l } := by
  have hk := (Keeps.refl (fun k => k = rg) w).setCell (p := ⟨rg, 0, none⟩) (fun _ => rfl) (.slice A m c)
  refine ⟨h.enc.keep hk (fun h9 => h.c_rg h9) (fun h9 => h.cgc_rg h9) (fun i hi h9 => h.cvo_rg (by rw [← h9]; exact hi)), ⟨?_, ?_, ?_⟩, ?_, h.hcg, h.hcgc, h.hrg, h.hcvo, own_ge ho, h.hrvo, h.ne⟩
  · exact blk_set h.ref.blk 0 (.slice A m c)
  · exact row_set_far (owns_any_base ho (Nat.zero_le _)) (p := ⟨rg, 0, none⟩) (row_ne ho h.ref.blk (by decide)) _
  · exact row_set_far h.ref.out (p := ⟨rg, 0, none⟩) h.ref.ne_out _
  · exact Keeps.trans h.grow hk fun i hi h9 => by have := h.hrg; omega

set_option maxRecDepth 8000 in
set_option maxHeartbeats 4000000 in
theorem walkRangerWrites (W : World) (x0 : Int) (_h0 : (Lit.int .i64 x0).wf = true) (a1 : Option Addr) (c1 : Nat) (x1 : List ((Int) × (Int) × (Int) × (Int) × (List (Int)) × Unit)) (_h1 : Sh.Rd W (.sl 56 (.pair (.int .i64) (.pair (.int .i64) (.pair (.int .i64) (.pair (.int .i64) (.pair (.sl 8 (.int .i64)) .nil)))))) [.slice a1 x1.length c1] x1) :
    Calls Try.prog 4 #[.int .i64 x0, .slice a1 x1.length c1] W fun e w' => e = .returned (.bool true) ∧ Below W.heap.size W w' := by
  have HL5 := Lib.hid (acts5_len _h1)
  have HC := Lib.hid (fun i hi => acts5_cells _h1 i hi)
  have hlen : (x1.length : Int) ≤ 2513169434844 := by have := HL5.out; omega
  clear _h1 _h0
  by_cases hx : x0 < 0 ∨ 65536 < x0
  · have HA := Lib.hid (new_bad W x0 hx)
    have HB := Lib.hid (refNew_bad W x0 hx)
    clear hx
    go_enter Try.func4, Try.ntmps4
    go_wp2_with fail
    refine HA.out.mono ?_
    rintro e w1 ⟨rfl, rfl⟩
    go_wp2_with fail
    refine HB.out.mono ?_
    rintro e w1 ⟨rfl, rfl⟩
    go_wp2_with fail
    refine (Try.names13_fn _).mono ?_
    rintro e w1 ⟨rfl, rfl⟩
    go_wp2_with fail
    go_loopw [9] (fun vi wr => vi = .int .i64 0 ∧ W = wr) (fun _ _ => 0)
    case atStart => exact ⟨rfl, rfl⟩
    case round =>
      obtain ⟨rfl, rfl⟩ := hrel
      go_wp2_with fail
      go_ret
      exact ⟨rfl, Below.refl _ _⟩
  obtain ⟨n, rfl⟩ : ∃ n : Nat, x0 = (n : Int) := ⟨x0.toNat, by omega⟩
  have hn : n ≤ 65536 := by omega
  have HA := Lib.hid (new_is W n hn)
  have HN := Lib.hid hn
  clear hx
  go_enter Try.func4, Try.ntmps4
  go_wp2_with fail
  refine HA.out.mono ?_
  rintro e w1 ⟨cg, cgc, rfl, h1, h2, h3, h4⟩
  have HB := Lib.hid (refNew_is w1 n hn)
  have H1 := Lib.hid h1
  have H2 := Lib.hid h2
  have H3 := Lib.hid h3
  have H4 := Lib.hid h4
  clear h1 h2 h3 h4 HA hn
  go_wp2_with fail
  refine HB.out.mono ?_
  rintro e w2 ⟨rg, rfl, h1, h2, h3⟩
  have HE0 : Hid (EE W w2 n cg cgc rg (.slice none 0 0) (.slice (some ⟨w1.heap.size, 0, none⟩) n n) (.slice none 0 0) (Enc.new n) (Enc.new n)) :=
    ⟨H3.out.keep h3 (fun h => h) (fun h => h) (fun _ _ h => h), h2, Grow.trans _ _ _ H4.out h3, H1.out, H2.out, Nat.le_trans H4.out.size h1, fun _ h => by simp [Value.ownBlock] at h, fun k h => by
      have h9 : w1.heap.size = k := by simpa [Value.ownBlock] using h
      have := H4.out.size
      omega, fun _ h => by simp [Value.ownBlock] at h, fun _ h => by simp [Value.ownBlock] at h⟩
  clear h1 h2 h3 HB H1 H2 H3 H4
  go_wp2_with fail
  refine (Try.names13_fn _).mono ?_
  rintro e w3 ⟨rfl, rfl⟩
  go_wp2_with fail
  go_loopw [9] (fun vi wr => ∃ (i : Nat) (cvo rvc rvo : Value) (e : Enc), i ≤ x1.length ∧ vi = .int .i64 i ∧ Hid (EE W wr n cg cgc rg cvo rvc rvo e e) ∧ Hid (e.Ok ∧ e.ch.length = n ∧ e.out.length + e.waiting ≤ 1 + 31 * i)) (fun vi _ => x1.length + 1 - (intOf vi).toNat)
  case atStart => exact ⟨0, _, _, _, Enc.new n, by omega, rfl, HE0.out, Enc.new_ok n, by simp [Enc.new], by simp [Enc.new]⟩
  case round =>
    clear HE0
    obtain ⟨i, cvo, rvc, rvo, e, hi, rfl, HE, HX⟩ := hrel
    obtain ⟨wo, rfl⟩ : ∃ wo : World, wo = wr := ⟨_, rfl⟩
    obtain ⟨Av, cv, hrv⟩ := rowf HE.out.ref.chs
    rw [HX.out.2.1] at hrv
    subst hrv
    have HBND : Hid (e.out.length + e.waiting ≤ 99999999999900) := by have h1 := HX.out.2.2; have h2 := HL5.out; show _ ≤ _; omega
    obtain ⟨bl, hbl⟩ : ∃ bl, bl = e.bytes.length := ⟨_, rfl⟩
    have HBL := Lib.hid hbl
    have HC1 := Lib.hid (bytes_is wo cg cgc n cvo e HE.out.enc HX.out.1 HBND.out)
    rw [← hbl] at HC1
    have hi' : (i : Int) ≤ x1.length := by omega
    clear hbl
    go_wp2_with fail
    refine HC1.out.mono ?_
    rintro x w4 ⟨A1, c1, rfl, ho1, hg1⟩
    have HO1 := Lib.hid ho1
    have HG1 := Lib.hid hg1
    have HE1 := Lib.hid (HE.out.grown hg1)
    have HC2 := Lib.hid (refBytes_is w4 rg _ rvo e HE1.out.ref HX.out.1 HBND.out)
    rw [← HBL.out] at HC2
    clear HC1 ho1 hg1
    go_wp2_with fail
    refine HC2.out.mono ?_
    rintro x w5 ⟨A2, c2, rfl, ho2, hg2⟩
    have HO2 := Lib.hid ho2
    have HE2 := Lib.hid (HE1.out.grown hg2)
    have HO1b := Lib.hid (owns_keep HO1.out hg2 fun _ _ h => h)
    have HG2 := Lib.hid (Grow.trans _ _ _ HG1.out hg2)
    have HS1 := Lib.hid (spoilt13_is w5 _ _ A1 A2 bl c1 c2 (toI e.bytes) (by rw [← u8s_toI]; exact HO1b.out) (by rw [← u8s_toI]; exact HO2.out))
    clear HC2 ho2 hg2
    go_wp2_with fail
    refine HS1.out.mono ?_
    rintro x w6 ⟨rfl, hk6⟩
    have HG6 : Hid (Grow wo w6) := Keeps.trans HG2.out hk6 fun b hb h => by have := own_ge HO1.out b h; omega
    have HE6 := Lib.hid (HE.out.grown HG6.out)
    have HC1 := Lib.hid (bytes_is w6 cg cgc n cvo e HE6.out.enc HX.out.1 HBND.out)
    rw [← HBL.out] at HC1
    clear HS1 hk6 HE2 HO2 HO1b HG2 HE1 HG1 HO1
    go_wp2_with fail
    refine HC1.out.mono ?_
    rintro x w7 ⟨A3, c3, rfl, ho1, hg1⟩
    have HO1 := Lib.hid ho1
    have HG1 := Lib.hid hg1
    have HE1 := Lib.hid (HE6.out.grown hg1)
    have HC2 := Lib.hid (refBytes_is w7 rg _ rvo e HE1.out.ref HX.out.1 HBND.out)
    rw [← HBL.out] at HC2
    clear HC1 ho1 hg1
    go_wp2_with fail
    refine HC2.out.mono ?_
    rintro x w8 ⟨A4, c4, rfl, ho2, hg2⟩
    have HO2 := Lib.hid ho2
    have HE2 := Lib.hid (HE1.out.grown hg2)
    have HO1b := Lib.hid (owns_keep HO1.out hg2 fun _ _ h => h)
    have HG2 := Lib.hid (Grow.trans _ _ _ HG1.out hg2)
    have HS1 := Lib.hid (spoilt13_is w8 _ _ A3 A4 bl c3 c4 (toI e.bytes) (by rw [← u8s_toI]; exact HO1b.out) (by rw [← u8s_toI]; exact HO2.out))
    clear HC2 ho2 hg2
    go_wp2_with fail
    refine HS1.out.mono ?_
    rintro x w9 ⟨rfl, hk6⟩
    have HG9 : Hid (Grow wo w9) := Keeps.trans HG6.out (Keeps.trans HG2.out hk6 fun b hb h => by have := own_ge HO1.out b h; omega) fun _ _ h => h
    have HE9 := Lib.hid (HE.out.grown HG9.out)
    clear HS1 hk6 HE2 HO2 HO1b HG2 HE1 HG1 HO1 HE6 HG6
    go_wp2_with fail
    by_cases hn100 : (n : Int) < 100
    · obtain ⟨B, hB⟩ : ∃ B, B = w9.heap.size := ⟨_, rfl⟩
      obtain ⟨S, hS⟩ : ∃ S : Nat → Prop, S = fun k => B ≤ k := ⟨_, rfl⟩
      have HSe := Lib.hid hS
      have HB9 := Lib.hid hB
      clear hS hB
      refine Hv.wp_region_hav2 (Keeps S) Grow (fun _ _ _ => True) (hyT S) [8, 17] [] [(0, [0, 1, 2, 3, 5, 6, 7]), (1, [8]), (2, [4]), (2, [9]), (2, [10]), (0, [11, 12, 14, 15, 16]), (1, [17]), (2, [13]), (2, [18]), (2, [19]), (0, [20, 21])] [(0, 0, [?o0, ?o1, ?o2, ?o3, ?o5, ?o6, ?o7]), (1, 8, [?o8]), (2, 4, [?o4]), (2, 9, [?o9]), (2, 10, [?o10]), (0, 11, [?o11, ?o12, ?o14, ?o15, ?o16]), (1, 17, [?o17]), (2, 13, [?o13]), (2, 18, [?o18]), (2, 19, [?o19]), (0, 20, [?o20, ?o21])] [?o0, ?o1, ?o2, ?o3, ?o4, ?o5, ?o6, ?o7, ?o8, ?o9, ?o10, ?o11, ?o12, ?o13, ?o14, ?o15, ?o16, ?o17, ?o18, ?o19, ?o20, ?o21] (by kernel_rfl) (by kernel_rfl) (by kernel_rfl) ?_
      have HEd := Lib.hid (HE9.out.grown (Keeps.refl _ w9).drew)
      have HBd : Hid (w9.drew.heap.size = B) := HB9.out.symm
      have HKB0 : Hid (Keeps S w9.drew w9.drew) := Keeps.refl _ _
      clear HB9 HG9 HE9
      generalize w9.drew = wd at *
      have HSN : Hid (∀ b, b < wd.heap.size → ¬ S b) := fun b hb h => by
        rw [HSe.out] at h
        have h2 : B ≤ b := h
        have h3 := HBd.out
        omega
      have HC7 : Hid (∀ w7, Keeps S wd w7 → w7.cell? ⟨rg, 0, none⟩ = some (.slice Av n cv)) := fun w7 h7 => by
        have h8 := blk_cell (HEd.out.keep h7 HSN.out).ref.blk 0
        simpa using h8
      refine Hv.seg_calm ?_
      go_wp2_with fail
      refine Hv.seg_held (by kernel_rfl) (.slice Av n cv) (fun w7 hk7 => ?_) ?_
      · have c7 := HC7.out w7 (Keeps.trans HKB0.out hk7 fun _ _ h => h)
        go_simp
      refine Hv.seg_call (fun a1 q => ?_)
      have HKA1 : Hid (Keeps S wd a1) := Keeps.trans HKB0.out (gk q) fun _ _ h => h
      have HEA1 := Lib.hid (HEd.out.keep HKA1.out HSN.out)
      have HCA := Lib.hid (chances_is a1 cg cgc n cvo e HEA1.out.enc HX.out.1.ch (by rw [HX.out.2.1]; exact HN.out))
      rw [HX.out.2.1] at HCA
      clear q
      go_wp2_with fail
      refine HCA.out.mono ?_
      rintro x a1b ⟨A5, c5, rfl, ho, hg⟩
      have HO1 := Lib.hid ho
      have HKC1 : Hid (Keeps S wd a1b) := Keeps.trans HKA1.out (gk hg) fun _ _ h => h
      have hr9 : Keeps S a1 a1b := gk hg
      clear ho hg HCA
      go_wp2_with fail
      refine ⟨hr9, ?_⟩
      clear hr9
      refine Hv.seg_call (fun a1c q => ?_)
      have HKD1 : Hid (Keeps S wd a1c) := Keeps.trans HKC1.out (gk q) fun _ _ h => h
      have HED1 := Lib.hid (HEd.out.keep HKD1.out HSN.out)
      have HO1b := Lib.hid (owns_keep HO1.out q fun _ _ h => h)
      have hcr := HED1.out.ref.chs
      rw [HX.out.2.1] at hcr
      have HCA := Lib.hid (same13_is a1c _ 0 A5 Av n c5 cv (toI e.ch) HO1b.out hcr (fun b hb h9 => by
        have h1 := own_ge HO1.out b h9
        have h2 := (HEA1.out.ref.chs.lt b hb).2
        omega))
      clear q hcr
      go_wp2_with fail
      refine HCA.out.mono ?_
      rintro x a1d ⟨rfl, hk⟩
      have hr9 : Keeps S a1c a1d := keeps_of hk fun b hb h9 => by
        rw [HSe.out]
        have h1 := own_ge HO1.out b h9
        have h2 := HKA1.out.size
        have h3 := HBd.out
        show B ≤ b
        omega
      have HKE1 : Hid (Keeps S wd a1d) := Keeps.trans HKD1.out hr9 fun _ _ h => h
      clear hk HCA HED1 HEA1 HO1 HO1b HKA1 HKC1 HKD1
      go_wp2_with fail
      refine ⟨hr9, ?_⟩
      clear hr9
      refine Hv.seg_call (fun a1e q => ?_)
      have HKB1 : Hid (Keeps S wd a1e) := Keeps.trans HKE1.out (gk q) fun _ _ h => h
      clear q HKE1
      go_wp2_with fail
      refine ⟨Keeps.refl _ _, ?_⟩
      refine Hv.seg_calm ?_
      go_wp2_with fail
      refine Hv.seg_held (by kernel_rfl) (.slice Av n cv) (fun w7 hk7 => ?_) ?_
      · have c7 := HC7.out w7 (Keeps.trans HKB1.out hk7 fun _ _ h => h)
        go_simp
      refine Hv.seg_call (fun a2 q => ?_)
      have HKA2 : Hid (Keeps S wd a2) := Keeps.trans HKB1.out (gk q) fun _ _ h => h
      have HEA2 := Lib.hid (HEd.out.keep HKA2.out HSN.out)
      have HCA := Lib.hid (chances_is a2 cg cgc n cvo e HEA2.out.enc HX.out.1.ch (by rw [HX.out.2.1]; exact HN.out))
      rw [HX.out.2.1] at HCA
      clear q
      go_wp2_with fail
      refine HCA.out.mono ?_
      rintro x a2b ⟨A6, c6, rfl, ho, hg⟩
      have HO2 := Lib.hid ho
      have HKC2 : Hid (Keeps S wd a2b) := Keeps.trans HKA2.out (gk hg) fun _ _ h => h
      have hr9 : Keeps S a2 a2b := gk hg
      clear ho hg HCA
      go_wp2_with fail
      refine ⟨hr9, ?_⟩
      clear hr9
      refine Hv.seg_call (fun a2c q => ?_)
      have HKD2 : Hid (Keeps S wd a2c) := Keeps.trans HKC2.out (gk q) fun _ _ h => h
      have HED2 := Lib.hid (HEd.out.keep HKD2.out HSN.out)
      have HO2b := Lib.hid (owns_keep HO2.out q fun _ _ h => h)
      have hcr := HED2.out.ref.chs
      rw [HX.out.2.1] at hcr
      have HCA := Lib.hid (same13_is a2c _ 0 A6 Av n c6 cv (toI e.ch) HO2b.out hcr (fun b hb h9 => by
        have h1 := own_ge HO2.out b h9
        have h2 := (HEA2.out.ref.chs.lt b hb).2
        omega))
      clear q hcr
      go_wp2_with fail
      refine HCA.out.mono ?_
      rintro x a2d ⟨rfl, hk⟩
      have hr9 : Keeps S a2c a2d := keeps_of hk fun b hb h9 => by
        rw [HSe.out]
        have h1 := own_ge HO2.out b h9
        have h2 := HKA2.out.size
        have h3 := HBd.out
        show B ≤ b
        omega
      have HKE2 : Hid (Keeps S wd a2d) := Keeps.trans HKD2.out hr9 fun _ _ h => h
      clear hk HCA HED2 HEA2 HO2 HO2b HKA2 HKC2 HKD2
      go_wp2_with fail
      refine ⟨hr9, ?_⟩
      clear hr9
      refine Hv.seg_call (fun a2e q => ?_)
      have HKB2 : Hid (Keeps S wd a2e) := Keeps.trans HKE2.out (gk q) fun _ _ h => h
      clear q HKE2
      go_wp2_with fail
      refine ⟨Keeps.refl _ _, ?_⟩
      refine Hv.seg_calm ?_
      go_wp2_with fail
      refine Hv.seg_end ⟨by kernel_rfl, ?_⟩
      have HEz := Lib.hid (HEd.out.keep HKB2.out HSN.out)
      clear HKB0 HKB1 HKB2 HC7 HSN HBd HSe HEd
      have hBelow := Lib.hid (HEz.out.grow.below (fun _ _ h => h) (Nat.le_refl _))
      by_cases hend : i = x1.length
      · subst hend
        go_wp2_with fail
        go_ret
        exact ⟨rfl, hBelow.out⟩
      have hil : i < x1.length := by omega
      have hil' : (i : Int) < x1.length := by omega
      have hne : ((i : Int) == x1.length) = false := by rw [beq_eq_false_iff_ne]; omega
      obtain ⟨b, off, A', c', x, rfl, hx, k0, k1, k2, k3, k4, v0, v1, v2, v3, hbb⟩ := HC.out i hil
      have hgW := HEz.out.grow
      have d0 := ckp k0 hgW (fun h => h)
      have d1 := ckp k1 hgW (fun h => h)
      have d2 := ckp k2 hgW (fun h => h)
      have d3 := ckp k3 hgW (fun h => h)
      have d4 := ckp k4 hgW (fun h => h)
      have HNB := Lib.hid ((Nums.of_rd hbb).1.grow hgW)
      have HCB := Lib.hid (Nat.le_trans (Nat.mul_le_mul_right 8 (Nums.of_rd hbb).1.cap) (Nums.of_rd hbb).2)
      have HNBW : Hid (∀ w', Grow W w' → Nums .i64 w' A' x.2.2.2.2.1.length c' x.2.2.2.2.1) := fun w' h => (Nums.of_rd hbb).1.grow h
      have HI1 := Lib.hid (inKind_wf v1)
      have HI3 := Lib.hid (inKind_wf v3)
      clear k0 k1 k2 k3 k4 v0 v1 v2 v3 hbb hgW hx hend hBelow
      obtain ⟨kd, bs, v, m, l, u⟩ := x
      simp only at d0 d1 d2 d3 d4 HNB HI1 HI3 HCB HNBW
      generalize hln : l.length = ln at *
      have HLN := Lib.hid hln
      clear hln
      go_upto_region 16 with fail
      have hga := heap_alloc_new a2e (.cells #[.int .i64 kd, .int .i64 bs, .int .i64 v, .int .i64 m, .slice A' ln c'] 43)
      have HE6 := Lib.hid (HEz.out.grown ((Keeps.refl (fun _ => False) a2e).alloc (.cells #[.int .i64 kd, .int .i64 bs, .int .i64 v, .int .i64 m, .slice A' ln c'] 43)))
      have HNB6 := Lib.hid (HNB.out.grow ((Keeps.refl (fun _ => False) a2e).alloc (.cells #[.int .i64 kd, .int .i64 bs, .int .i64 v, .int .i64 m, .slice A' ln c'] 43)))
      have HGA := Lib.hid hga
      clear d0 d1 d2 d3 d4 hga hne HEz HNB HE
      generalize a2e.alloc (.cells #[.int .i64 kd, .int .i64 bs, .int .i64 v, .int .i64 m, .slice A' ln c'] 43) = wb at *
      have e0 := blk_cell HGA.out 0
      have e1 := blk_cell HGA.out 1
      have e2 := blk_cell HGA.out 2
      have e3 := blk_cell HGA.out 3
      have e4 := blk_cell HGA.out 4
      simp at e0 e1 e2 e3 e4
      obtain ⟨ga, hgae⟩ : ∃ ga, ga = a2e.heap.size := ⟨_, rfl⟩
      rw [← hgae] at e0 e1 e2 e3 e4 HGA ⊢
      clear hgae
      have hnb : n ≤ 65536 := HN.out
      have hbnd := HBND.out
      have HNB2 := Lib.hid hnb
      have HBN2 := Lib.hid hbnd
      clear hnb hbnd
      by_cases hk0 : kd = 0
      · subst hk0
        have HACT := Lib.hid (act_bit bs v n e HX.out.1 HX.out.2.1 HN.out HBND.out)
        obtain ⟨code, eN, ok2, len2, bnd2, hc, hr⟩ := HACT.out
        have HCC := Lib.hid hc
        have HRR := Lib.hid hr
        have HX2 := Lib.hid (And.intro ok2 (And.intro len2 bnd2))
        clear hc hr ok2 len2 bnd2 HACT
        go_wp2_with fail
        obtain ⟨S, hS⟩ : ∃ S : Nat → Prop, S = fun k => k ≠ ga := ⟨_, rfl⟩
        have HSe := Lib.hid hS
        clear hS
        refine Hv.wp_region_hav2 (Keeps S) Grow (fun _ _ _ => True) (hyT S) [2, 4, 8, 10] [] [(0, [0, 1, 3, 6, 7, 9]), (1, [2]), (1, [4]), (1, [8]), (1, [10]), (2, [5]), (2, [11]), (0, [12, 13])] [(0, 0, [?p0, ?p1, ?p3, ?p6, ?p7, ?p9]), (1, 2, [?p2]), (1, 4, [?p4]), (1, 8, [?p8]), (1, 10, [?p10]), (2, 5, [?p5]), (2, 11, [?p11]), (0, 12, [?p12, ?p13])] [?p0, ?p1, ?p2, ?p3, ?p4, ?p5, ?p6, ?p7, ?p8, ?p9, ?p10, ?p11, ?p12, ?p13] (by kernel_rfl) (by kernel_rfl) (by kernel_rfl) ?_
        have HEd := Lib.hid (HE6.out.grown (Keeps.refl _ wb).drew)
        have HGAd := Lib.hid (show wb.drew.heap[ga]? = _ from HGA.out)
        clear HE6 HGA e0 e1 e2 e3 e4
        generalize wb.drew = wd at *
        have HC7 : Hid (∀ w7, Keeps S wd w7 → w7.cell? ⟨ga, 1, none⟩ = some (.int .i64 bs) ∧ w7.cell? ⟨ga, 2, none⟩ = some (.int .i64 v) ∧ w7.cell? ⟨ga, 3, none⟩ = some (.int .i64 m)) := fun w7 h7 => by
          have h8 := block_keep HGAd.out h7 (by rw [HSe.out]; exact fun h => h rfl)
          have h9 := blk_cell h8 1
          have h10 := blk_cell h8 2
          have h11 := blk_cell h8 3
          simp at h9 h10 h11
          exact ⟨h9, h10, h11⟩
        refine Hv.seg_calm ?_
        go_wp2_with fail
        refine Hv.seg_held (by kernel_rfl) (.int .i64 bs) (fun w7 hk7 => ?_) ?_
        · have c7 := (HC7.out w7 hk7).1
          go_simp
        refine Hv.seg_held (by kernel_rfl) (.int .i64 v) (fun w7 hk7 => ?_) ?_
        · have c7 := (HC7.out w7 hk7).2.1
          go_simp
        refine Hv.seg_held (by kernel_rfl) (.int .i64 bs) (fun w7 hk7 => ?_) ?_
        · have c7 := (HC7.out w7 hk7).1
          go_simp
        refine Hv.seg_held (by kernel_rfl) (.int .i64 v) (fun w7 hk7 => ?_) ?_
        · have c7 := (HC7.out w7 hk7).2.1
          go_simp
        refine Hv.seg_call (fun w2 q2 => ?_)
        have HE2 := Lib.hid (HEd.out.grown q2)
        have HGA2 := Lib.hid (block_keep HGAd.out q2 fun h => h)
        clear q2
        go_wp2_with fail
        refine (HCC.out w2 cg cgc cvo HE2.out.enc).mono ?_
        rintro x w3 ⟨rfl, t⟩
        have hr9 : Keeps S w2 w3 := by rw [HSe.out]; exact t.rel HE2.out.enc HGA2.out
        obtain ⟨cvo', hE3⟩ := HE2.out.toC HE2.out.grow.size t
        have HE3 := Lib.hid hE3
        have HGA3 := Lib.hid (block_keep HGA2.out hr9 (by rw [HSe.out]; exact fun h => h rfl))
        clear t hE3 HE2 HGA2
        go_wp2_with fail
        refine ⟨hr9, ?_⟩
        clear hr9
        refine Hv.seg_call (fun w4 q4 => ?_)
        have HE4 := Lib.hid (HE3.out.grown q4)
        have HGA4 := Lib.hid (block_keep HGA3.out q4 fun h => h)
        clear q4
        go_wp2_with fail
        refine (HRR.out w4 rg _ rvo HE4.out.ref).mono ?_
        rintro x w5 ⟨rfl, t⟩
        have hr9 : Keeps S w4 w5 := by rw [HSe.out]; exact t.rel HE4.out.ref HGA4.out
        obtain ⟨rvo', hE5⟩ := HE4.out.toR HE4.out.grow.size t
        have HE5 := Lib.hid hE5
        clear t hE5 HE4 HGA4 HE3 HGA3 HCC HRR HC7 HGAd HEd
        go_wp2_with fail
        refine ⟨hr9, ?_⟩
        clear hr9
        refine Hv.seg_calm ?_
        go_wp2_with fail
        refine Hv.seg_end ⟨by kernel_rfl, ?_⟩
        go_wp2_with fail
        go_roundw
        case rel => exact ⟨i + 1, cvo', _, rvo', eN, by omega, by go_num, HE5.out, HX2.out.1, HX2.out.2.1, by have h1 := HX2.out.2.2; have h2 := HX.out.2.2; omega⟩
        case measure => simp [intOf]; omega
      by_cases hk1 : kd = 1
      · subst hk1
        have HACT := Lib.hid (act_direct v m n e HX.out.1 HX.out.2.1 HN.out HBND.out)
        obtain ⟨code, eN, ok2, len2, bnd2, hc, hr⟩ := HACT.out
        have HCC := Lib.hid hc
        have HRR := Lib.hid hr
        have HX2 := Lib.hid (And.intro ok2 (And.intro len2 bnd2))
        clear hc hr ok2 len2 bnd2 HACT
        go_wp2_with fail
        obtain ⟨S, hS⟩ : ∃ S : Nat → Prop, S = fun k => k ≠ ga := ⟨_, rfl⟩
        have HSe := Lib.hid hS
        clear hS
        refine Hv.wp_region_hav2 (Keeps S) Grow (fun _ _ _ => True) (hyT S) [2, 4, 8, 10] [] [(0, [0, 1, 3, 6, 7, 9]), (1, [2]), (1, [4]), (1, [8]), (1, [10]), (2, [5]), (2, [11]), (0, [12, 13])] [(0, 0, [?q0, ?q1, ?q3, ?q6, ?q7, ?q9]), (1, 2, [?q2]), (1, 4, [?q4]), (1, 8, [?q8]), (1, 10, [?q10]), (2, 5, [?q5]), (2, 11, [?q11]), (0, 12, [?q12, ?q13])] [?q0, ?q1, ?q2, ?q3, ?q4, ?q5, ?q6, ?q7, ?q8, ?q9, ?q10, ?q11, ?q12, ?q13] (by kernel_rfl) (by kernel_rfl) (by kernel_rfl) ?_
        have HEd := Lib.hid (HE6.out.grown (Keeps.refl _ wb).drew)
        have HGAd := Lib.hid (show wb.drew.heap[ga]? = _ from HGA.out)
        clear HE6 HGA e0 e1 e2 e3 e4
        generalize wb.drew = wd at *
        have HC7 : Hid (∀ w7, Keeps S wd w7 → w7.cell? ⟨ga, 1, none⟩ = some (.int .i64 bs) ∧ w7.cell? ⟨ga, 2, none⟩ = some (.int .i64 v) ∧ w7.cell? ⟨ga, 3, none⟩ = some (.int .i64 m)) := fun w7 h7 => by
          have h8 := block_keep HGAd.out h7 (by rw [HSe.out]; exact fun h => h rfl)
          have h9 := blk_cell h8 1
          have h10 := blk_cell h8 2
          have h11 := blk_cell h8 3
          simp at h9 h10 h11
          exact ⟨h9, h10, h11⟩
        refine Hv.seg_calm ?_
        go_wp2_with fail
        refine Hv.seg_held (by kernel_rfl) (.int .i64 v) (fun w7 hk7 => ?_) ?_
        · have c7 := (HC7.out w7 hk7).2.1
          go_simp
        refine Hv.seg_held (by kernel_rfl) (.int .i64 m) (fun w7 hk7 => ?_) ?_
        · have c7 := (HC7.out w7 hk7).2.2
          go_simp
        refine Hv.seg_held (by kernel_rfl) (.int .i64 v) (fun w7 hk7 => ?_) ?_
        · have c7 := (HC7.out w7 hk7).2.1
          go_simp
        refine Hv.seg_held (by kernel_rfl) (.int .i64 m) (fun w7 hk7 => ?_) ?_
        · have c7 := (HC7.out w7 hk7).2.2
          go_simp
        refine Hv.seg_call (fun w2 q2 => ?_)
        have HE2 := Lib.hid (HEd.out.grown q2)
        have HGA2 := Lib.hid (block_keep HGAd.out q2 fun h => h)
        clear q2
        go_wp2_with fail
        refine (HCC.out w2 cg cgc cvo HE2.out.enc).mono ?_
        rintro x w3 ⟨rfl, t⟩
        have hr9 : Keeps S w2 w3 := by rw [HSe.out]; exact t.rel HE2.out.enc HGA2.out
        obtain ⟨cvo', hE3⟩ := HE2.out.toC HE2.out.grow.size t
        have HE3 := Lib.hid hE3
        have HGA3 := Lib.hid (block_keep HGA2.out hr9 (by rw [HSe.out]; exact fun h => h rfl))
        clear t hE3 HE2 HGA2
        go_wp2_with fail
        refine ⟨hr9, ?_⟩
        clear hr9
        refine Hv.seg_call (fun w4 q4 => ?_)
        have HE4 := Lib.hid (HE3.out.grown q4)
        have HGA4 := Lib.hid (block_keep HGA3.out q4 fun h => h)
        clear q4
        go_wp2_with fail
        refine (HRR.out w4 rg _ rvo HE4.out.ref).mono ?_
        rintro x w5 ⟨rfl, t⟩
        have hr9 : Keeps S w4 w5 := by rw [HSe.out]; exact t.rel HE4.out.ref HGA4.out
        obtain ⟨rvo', hE5⟩ := HE4.out.toR HE4.out.grow.size t
        have HE5 := Lib.hid hE5
        clear t hE5 HE4 HGA4 HE3 HGA3 HCC HRR HC7 HGAd HEd
        go_wp2_with fail
        refine ⟨hr9, ?_⟩
        clear hr9
        refine Hv.seg_calm ?_
        go_wp2_with fail
        refine Hv.seg_end ⟨by kernel_rfl, ?_⟩
        go_wp2_with fail
        go_roundw
        case rel => exact ⟨i + 1, cvo', _, rvo', eN, by omega, by go_num, HE5.out, HX2.out.1, HX2.out.2.1, by have h1 := HX2.out.2.2; have h2 := HX.out.2.2; omega⟩
        case measure => simp [intOf]; omega
      by_cases hk2 : kd = 2
      · subst hk2
        have HACT := Lib.hid (act_tree bs v m n e HX.out.1 HX.out.2.1 HN.out HBND.out HI1.out HI3.out)
        obtain ⟨code, eN, ok2, len2, bnd2, hc, hr⟩ := HACT.out
        have HCC := Lib.hid hc
        have HRR := Lib.hid hr
        have HX2 := Lib.hid (And.intro ok2 (And.intro len2 bnd2))
        clear hc hr ok2 len2 bnd2 HACT
        go_wp2_with fail
        obtain ⟨S, hS⟩ : ∃ S : Nat → Prop, S = fun k => k ≠ ga := ⟨_, rfl⟩
        have HSe := Lib.hid hS
        clear hS
        refine Hv.wp_region_hav2 (Keeps S) Grow (fun _ _ _ => True) (hyT S) [2, 4, 6, 10, 12, 14] [] [(0, [0, 1, 3, 5, 8, 9, 11, 13]), (1, [2]), (1, [4]), (1, [6]), (1, [10]), (1, [12]), (1, [14]), (2, [7]), (2, [15]), (0, [16, 17])] [(0, 0, [?r0, ?r1, ?r3, ?r5, ?r8, ?r9, ?r11, ?r13]), (1, 2, [?r2]), (1, 4, [?r4]), (1, 6, [?r6]), (1, 10, [?r10]), (1, 12, [?r12]), (1, 14, [?r14]), (2, 7, [?r7]), (2, 15, [?r15]), (0, 16, [?r16, ?r17])] [?r0, ?r1, ?r2, ?r3, ?r4, ?r5, ?r6, ?r7, ?r8, ?r9, ?r10, ?r11, ?r12, ?r13, ?r14, ?r15, ?r16, ?r17] (by kernel_rfl) (by kernel_rfl) (by kernel_rfl) ?_
        have HEd := Lib.hid (HE6.out.grown (Keeps.refl _ wb).drew)
        have HGAd := Lib.hid (show wb.drew.heap[ga]? = _ from HGA.out)
        clear HE6 HGA e0 e1 e2 e3 e4
        generalize wb.drew = wd at *
        have HC7 : Hid (∀ w7, Keeps S wd w7 → w7.cell? ⟨ga, 1, none⟩ = some (.int .i64 bs) ∧ w7.cell? ⟨ga, 2, none⟩ = some (.int .i64 v) ∧ w7.cell? ⟨ga, 3, none⟩ = some (.int .i64 m)) := fun w7 h7 => by
          have h8 := block_keep HGAd.out h7 (by rw [HSe.out]; exact fun h => h rfl)
          have h9 := blk_cell h8 1
          have h10 := blk_cell h8 2
          have h11 := blk_cell h8 3
          simp at h9 h10 h11
          exact ⟨h9, h10, h11⟩
        refine Hv.seg_calm ?_
        go_wp2_with fail
        refine Hv.seg_held (by kernel_rfl) (.int .i64 bs) (fun w7 hk7 => ?_) ?_
        · have c7 := (HC7.out w7 hk7).1
          go_simp
        refine Hv.seg_held (by kernel_rfl) (.int .i64 v) (fun w7 hk7 => ?_) ?_
        · have c7 := (HC7.out w7 hk7).2.1
          go_simp
        refine Hv.seg_held (by kernel_rfl) (.int .i64 m) (fun w7 hk7 => ?_) ?_
        · have c7 := (HC7.out w7 hk7).2.2
          go_simp
        refine Hv.seg_held (by kernel_rfl) (.int .i64 bs) (fun w7 hk7 => ?_) ?_
        · have c7 := (HC7.out w7 hk7).1
          go_simp
        refine Hv.seg_held (by kernel_rfl) (.int .i64 v) (fun w7 hk7 => ?_) ?_
        · have c7 := (HC7.out w7 hk7).2.1
          go_simp
        refine Hv.seg_held (by kernel_rfl) (.int .i64 m) (fun w7 hk7 => ?_) ?_
        · have c7 := (HC7.out w7 hk7).2.2
          go_simp
        refine Hv.seg_call (fun w2 q2 => ?_)
        have HE2 := Lib.hid (HEd.out.grown q2)
        have HGA2 := Lib.hid (block_keep HGAd.out q2 fun h => h)
        clear q2
        go_wp2_with fail
        refine (HCC.out w2 cg cgc cvo HE2.out.enc).mono ?_
        rintro x w3 ⟨rfl, t⟩
        have hr9 : Keeps S w2 w3 := by rw [HSe.out]; exact t.rel HE2.out.enc HGA2.out
        obtain ⟨cvo', hE3⟩ := HE2.out.toC HE2.out.grow.size t
        have HE3 := Lib.hid hE3
        have HGA3 := Lib.hid (block_keep HGA2.out hr9 (by rw [HSe.out]; exact fun h => h rfl))
        clear t hE3 HE2 HGA2
        go_wp2_with fail
        refine ⟨hr9, ?_⟩
        clear hr9
        refine Hv.seg_call (fun w4 q4 => ?_)
        have HE4 := Lib.hid (HE3.out.grown q4)
        have HGA4 := Lib.hid (block_keep HGA3.out q4 fun h => h)
        clear q4
        go_wp2_with fail
        refine (HRR.out w4 rg _ rvo HE4.out.ref).mono ?_
        rintro x w5 ⟨rfl, t⟩
        have hr9 : Keeps S w4 w5 := by rw [HSe.out]; exact t.rel HE4.out.ref HGA4.out
        obtain ⟨rvo', hE5⟩ := HE4.out.toR HE4.out.grow.size t
        have HE5 := Lib.hid hE5
        clear t hE5 HE4 HGA4 HE3 HGA3 HCC HRR HC7 HGAd HEd
        go_wp2_with fail
        refine ⟨hr9, ?_⟩
        clear hr9
        refine Hv.seg_calm ?_
        go_wp2_with fail
        refine Hv.seg_end ⟨by kernel_rfl, ?_⟩
        go_wp2_with fail
        go_roundw
        case rel => exact ⟨i + 1, cvo', _, rvo', eN, by omega, by go_num, HE5.out, HX2.out.1, HX2.out.2.1, by have h1 := HX2.out.2.2; have h2 := HX.out.2.2; omega⟩
        case measure => simp [intOf]; omega
      by_cases hk3 : kd = 3
      · subst hk3
        have HACT := Lib.hid (act_rev bs v m n e HX.out.1 HX.out.2.1 HN.out HBND.out HI1.out HI3.out)
        obtain ⟨code, eN, ok2, len2, bnd2, hc, hr⟩ := HACT.out
        have HCC := Lib.hid hc
        have HRR := Lib.hid hr
        have HX2 := Lib.hid (And.intro ok2 (And.intro len2 bnd2))
        clear hc hr ok2 len2 bnd2 HACT
        go_wp2_with fail
        obtain ⟨S, hS⟩ : ∃ S : Nat → Prop, S = fun k => k ≠ ga := ⟨_, rfl⟩
        have HSe := Lib.hid hS
        clear hS
        refine Hv.wp_region_hav2 (Keeps S) Grow (fun _ _ _ => True) (hyT S) [2, 4, 6, 10, 12, 14] [] [(0, [0, 1, 3, 5, 8, 9, 11, 13]), (1, [2]), (1, [4]), (1, [6]), (1, [10]), (1, [12]), (1, [14]), (2, [7]), (2, [15]), (0, [16, 17])] [(0, 0, [?s0, ?s1, ?s3, ?s5, ?s8, ?s9, ?s11, ?s13]), (1, 2, [?s2]), (1, 4, [?s4]), (1, 6, [?s6]), (1, 10, [?s10]), (1, 12, [?s12]), (1, 14, [?s14]), (2, 7, [?s7]), (2, 15, [?s15]), (0, 16, [?s16, ?s17])] [?s0, ?s1, ?s2, ?s3, ?s4, ?s5, ?s6, ?s7, ?s8, ?s9, ?s10, ?s11, ?s12, ?s13, ?s14, ?s15, ?s16, ?s17] (by kernel_rfl) (by kernel_rfl) (by kernel_rfl) ?_
        have HEd := Lib.hid (HE6.out.grown (Keeps.refl _ wb).drew)
        have HGAd := Lib.hid (show wb.drew.heap[ga]? = _ from HGA.out)
        clear HE6 HGA e0 e1 e2 e3 e4
        generalize wb.drew = wd at *
        have HC7 : Hid (∀ w7, Keeps S wd w7 → w7.cell? ⟨ga, 1, none⟩ = some (.int .i64 bs) ∧ w7.cell? ⟨ga, 2, none⟩ = some (.int .i64 v) ∧ w7.cell? ⟨ga, 3, none⟩ = some (.int .i64 m)) := fun w7 h7 => by
          have h8 := block_keep HGAd.out h7 (by rw [HSe.out]; exact fun h => h rfl)
          have h9 := blk_cell h8 1
          have h10 := blk_cell h8 2
          have h11 := blk_cell h8 3
          simp at h9 h10 h11
          exact ⟨h9, h10, h11⟩
        refine Hv.seg_calm ?_
        go_wp2_with fail
        refine Hv.seg_held (by kernel_rfl) (.int .i64 bs) (fun w7 hk7 => ?_) ?_
        · have c7 := (HC7.out w7 hk7).1
          go_simp
        refine Hv.seg_held (by kernel_rfl) (.int .i64 v) (fun w7 hk7 => ?_) ?_
        · have c7 := (HC7.out w7 hk7).2.1
          go_simp
        refine Hv.seg_held (by kernel_rfl) (.int .i64 m) (fun w7 hk7 => ?_) ?_
        · have c7 := (HC7.out w7 hk7).2.2
          go_simp
        refine Hv.seg_held (by kernel_rfl) (.int .i64 bs) (fun w7 hk7 => ?_) ?_
        · have c7 := (HC7.out w7 hk7).1
          go_simp
        refine Hv.seg_held (by kernel_rfl) (.int .i64 v) (fun w7 hk7 => ?_) ?_
        · have c7 := (HC7.out w7 hk7).2.1
          go_simp
        refine Hv.seg_held (by kernel_rfl) (.int .i64 m) (fun w7 hk7 => ?_) ?_
        · have c7 := (HC7.out w7 hk7).2.2
          go_simp
        refine Hv.seg_call (fun w2 q2 => ?_)
        have HE2 := Lib.hid (HEd.out.grown q2)
        have HGA2 := Lib.hid (block_keep HGAd.out q2 fun h => h)
        clear q2
        go_wp2_with fail
        refine (HCC.out w2 cg cgc cvo HE2.out.enc).mono ?_
        rintro x w3 ⟨rfl, t⟩
        have hr9 : Keeps S w2 w3 := by rw [HSe.out]; exact t.rel HE2.out.enc HGA2.out
        obtain ⟨cvo', hE3⟩ := HE2.out.toC HE2.out.grow.size t
        have HE3 := Lib.hid hE3
        have HGA3 := Lib.hid (block_keep HGA2.out hr9 (by rw [HSe.out]; exact fun h => h rfl))
        clear t hE3 HE2 HGA2
        go_wp2_with fail
        refine ⟨hr9, ?_⟩
        clear hr9
        refine Hv.seg_call (fun w4 q4 => ?_)
        have HE4 := Lib.hid (HE3.out.grown q4)
        have HGA4 := Lib.hid (block_keep HGA3.out q4 fun h => h)
        clear q4
        go_wp2_with fail
        refine (HRR.out w4 rg _ rvo HE4.out.ref).mono ?_
        rintro x w5 ⟨rfl, t⟩
        have hr9 : Keeps S w4 w5 := by rw [HSe.out]; exact t.rel HE4.out.ref HGA4.out
        obtain ⟨rvo', hE5⟩ := HE4.out.toR HE4.out.grow.size t
        have HE5 := Lib.hid hE5
        clear t hE5 HE4 HGA4 HE3 HGA3 HCC HRR HC7 HGAd HEd
        go_wp2_with fail
        refine ⟨hr9, ?_⟩
        clear hr9
        refine Hv.seg_calm ?_
        go_wp2_with fail
        refine Hv.seg_end ⟨by kernel_rfl, ?_⟩
        go_wp2_with fail
        go_roundw
        case rel => exact ⟨i + 1, cvo', _, rvo', eN, by omega, by go_num, HE5.out, HX2.out.1, HX2.out.2.1, by have h1 := HX2.out.2.2; have h2 := HX.out.2.2; omega⟩
        case measure => simp [intOf]; omega
      by_cases hk4 : kd = 4
      · subst hk4
        clear hk0 hk1 hk2 hk3
        have ho0 := own_none wb 3
        have e4a := ckp e4 ((Keeps.refl (fun _ => False) wb).alloc (.cells #[] 3)) (fun h => h)
        have HS0 := Lib.hid ((HNB6.out.grow ((Keeps.refl (fun _ => False) wb).alloc (.cells #[] 3))).src)
        go_wp2_with (at_builtin; refine wpList_appS rfl (.tmp 160) (.tmp 162) 27 3 rfl Try.underlying27 Try.infoI9 rfl (by decide) wb.heap.size _ 0 _ rfl ho0 (by simp) A' ln c' _ rfl HS0.out (by have h1 := HCB.out; unfold maxLen; omega) (by have h1 := HCB.out; omega) ?_)
        intro A8 c8 w8 ho5 hk5 _
        (try simp only [Nat.zero_add, List.nil_append] at ho5)
        (try simp only [Nat.zero_add])
        have hg5 : Grow wb w8 := Keeps.trans ((Keeps.refl (fun _ => False) wb).alloc (.cells #[] 3)) hk5 (fun i hi h => by
          have h8 : wb.heap.size = i := by simpa [Value.ownBlock] using h
          omega)
        have HE8 := Lib.hid (HE6.out.grown hg5)
        have HGw8 := Lib.hid hg5
        have HOw8 := Lib.hid ho5
        clear ho5 hk5 hg5 HS0 ho0 e4a
        have HN8 : Hid (Nums .i64 w8 A8 ln c8 l) := Nums.of_own HOw8.out HNB6.out.rng
        have HNE : Hid (∀ b o, A8 = some ⟨b, o, none⟩ → b ≠ cgc) := fun b o hb h9 => by
          rcases HOw8.out.2 with ⟨hv, _⟩ | ⟨g, cap, cur, hv, hg, _⟩
          · injection hv with hv
            rw [hv] at hb
            cases hb
          · injection hv with hv
            rw [hv] at hb
            injection hb with hb
            injection hb with hb
            have h1 := HE6.out.lt_all.2.1
            omega
        have hact := block_keep HGA.out HGw8.out fun h => h
        have HACT := Lib.hid hact
        clear hact e0 e1 e2 e3 e4
        cases hfit : fitB l n
        · have HB1 := Lib.hid (setE_bad w8 cg cgc n cvo e HE8.out.enc A8 ln c8 l HN8.out (by have h1 := HCB.out; omega) (by rw [HX.out.2.1]; exact hfit))
          have e4 := blk_cell HACT.out 4
          simp at e4
          have HB2 := Lib.hid (refFit_is w8 n A' ln c' l (HNB6.out.grow HGw8.out) (by have h1 := HCB.out; omega))
          rw [hfit] at HB2
          clear hfit
          go_wp2_with fail
          refine HB1.out.mono ?_
          rintro x w9 ⟨rfl, rfl⟩
          go_wp2_with fail
          refine HB2.out.mono ?_
          rintro x w9 ⟨rfl, rfl⟩
          go_wp2_with fail
          go_roundw
          case rel => exact ⟨i + 1, cvo, _, rvo, e, by omega, by go_num, HE8.out, HX.out.1, HX.out.2.1, by have h2 := HX.out.2.2; omega⟩
          case measure => simp [intOf]; omega
        · have HB1 := Lib.hid (setE_is w8 cg cgc n cvo e HE8.out.enc HX.out.1 A8 ln c8 l HN8.out (by have h1 := HCB.out; omega) (by rw [HX.out.2.1]; exact hfit) HNE.out)
          have HF := Lib.hid (fit_ok hfit)
          have HFT : Hid (fitB l n = true) := hfit
          clear hfit
          go_wp2_with fail
          refine HB1.out.mono ?_
          rintro x w9 ⟨rfl, t, ok2, len2⟩
          have hact9 := block_keep HACT.out (t.rel HE8.out.enc HACT.out) (fun h => h rfl)
          obtain ⟨cvo', hE9⟩ := HE8.out.toC HE8.out.grow.size t
          have HE9 := Lib.hid hE9
          have HNB9 := Lib.hid (HNBW.out w9 HE9.out.grow)
          have HX2 := Lib.hid (And.intro ok2 len2)
          have e4 := blk_cell hact9 4
          simp at e4
          have HACT9 := Lib.hid hact9
          have HB2 := Lib.hid (refFit_is w9 n A' ln c' l HNB9.out (by have h1 := HCB.out; omega))
          rw [HFT.out] at HB2
          clear t ok2 len2 hE9 hact9
          go_wp2_with fail
          refine HB2.out.mono ?_
          rintro x w10 ⟨rfl, rfl⟩
          have ho0 := own_none w9 3
          have e4a := ckp e4 ((Keeps.refl (fun _ => False) w9).alloc (.cells #[] 3)) (fun h => h)
          have HS0 := Lib.hid ((HNB9.out.grow ((Keeps.refl (fun _ => False) w9).alloc (.cells #[] 3))).src)
          go_wp2_with (at_builtin; refine wpList_appS rfl (.tmp 170) (.tmp 172) 27 3 rfl Try.underlying27 Try.infoI9 rfl (by decide) w9.heap.size _ 0 _ rfl ho0 (by simp) A' ln c' _ rfl HS0.out (by have h1 := HCB.out; unfold maxLen; omega) (by have h1 := HCB.out; omega) ?_)
          intro A9 c9 w11 ho5 hk5 _
          (try simp only [Nat.zero_add, List.nil_append] at ho5)
          (try simp only [Nat.zero_add])
          have hg5 : Grow w9 w11 := Keeps.trans ((Keeps.refl (fun _ => False) w9).alloc (.cells #[] 3)) hk5 (fun i hi h => by
            have h8 : w9.heap.size = i := by simpa [Value.ownBlock] using h
            omega)
          have HE11 := Lib.hid (HE9.out.grown hg5)
          have HGw11 := Lib.hid hg5
          have HOw11 := Lib.hid ho5
          clear ho5 hk5 hg5 HS0 ho0 e4a
          have d0 := blk_cell HE11.out.ref.blk 0
          have f0 := blk_frozen HE11.out.ref.blk 0
          simp at d0
          go_wp2_with fail
          have HON : Hid (w11.ownsRow W.heap.size 3 1 (.slice A9 ln c9) (toN l).length ((toI (toN l)).map (Value.int .i64))) := by
            show World.ownsRow _ _ _ _ _ _ _
            have h1 : (toN l).length = ln := by rw [HX2.out.2, HX.out.2.1, ← HF.out.1, HLN.out]
            rw [h1, HF.out.2.2.2]
            exact owns_base (owns_any_base HOw11.out (Nat.zero_le _)) (fun b hb => Nat.le_trans HE9.out.grow.size (own_ge HOw11.out b hb))
          have HE12 := Lib.hid (HE11.out.setR HON.out)
          clear d0 f0
          go_roundw
          case rel => exact ⟨i + 1, cvo', _, rvo, _, by omega, by go_num, HE12.out, HX2.out.1, HX2.out.2.trans HX.out.2.1, by have h2 := HX.out.2.2; simp only; omega⟩
          case measure => simp [intOf]; omega
      go_wp2_with fail
      go_roundw
      case rel => exact ⟨i + 1, cvo, _, rvo, e, by omega, by go_num, HE6.out, HX.out.1, HX.out.2.1, by have h2 := HX.out.2.2; omega⟩
      case measure => simp [intOf]; omega
    · obtain ⟨B, hB⟩ : ∃ B, B = w9.heap.size := ⟨_, rfl⟩
      obtain ⟨S, hS⟩ : ∃ S : Nat → Prop, S = fun k => B ≤ k := ⟨_, rfl⟩
      have HSe := Lib.hid hS
      have HB9 := Lib.hid hB
      clear hS hB
      refine Hv.wp_region_hav2 (Keeps S) Grow (fun _ _ _ => True) (hyT S) [8, 17] [] [(0, [0, 1, 2, 3, 5, 6, 7]), (1, [8]), (2, [4]), (2, [9]), (2, [10]), (0, [11, 12, 14, 15, 16]), (1, [17]), (2, [13]), (2, [18]), (2, [19]), (0, [20, 21])] [(0, 0, [?o0, ?o1, ?o2, ?o3, ?o5, ?o6, ?o7]), (1, 8, [?o8]), (2, 4, [?o4]), (2, 9, [?o9]), (2, 10, [?o10]), (0, 11, [?o11, ?o12, ?o14, ?o15, ?o16]), (1, 17, [?o17]), (2, 13, [?o13]), (2, 18, [?o18]), (2, 19, [?o19]), (0, 20, [?o20, ?o21])] [?o0, ?o1, ?o2, ?o3, ?o4, ?o5, ?o6, ?o7, ?o8, ?o9, ?o10, ?o11, ?o12, ?o13, ?o14, ?o15, ?o16, ?o17, ?o18, ?o19, ?o20, ?o21] (by kernel_rfl) (by kernel_rfl) (by kernel_rfl) ?_
      have HEd := Lib.hid (HE9.out.grown (Keeps.refl _ w9).drew)
      have HBd : Hid (w9.drew.heap.size = B) := HB9.out.symm
      have HKB0 : Hid (Keeps S w9.drew w9.drew) := Keeps.refl _ _
      clear HB9 HG9 HE9
      generalize w9.drew = wd at *
      have HSN : Hid (∀ b, b < wd.heap.size → ¬ S b) := fun b hb h => by
        rw [HSe.out] at h
        have h2 : B ≤ b := h
        have h3 := HBd.out
        omega
      refine Hv.seg_calm ?_
      go_wp2_with fail
      refine Hv.seg_skip (by kernel_rfl) ?_
      refine Hv.seg_call (fun b10 q => ?_)
      have HKS10 : Hid (Keeps S wd b10) := Keeps.trans HKB0.out (gk q) fun _ _ h => h
      clear q
      go_wp2_with fail
      refine And.intro (Keeps.refl _ _) ?_
      refine Hv.seg_call (fun b11 q => ?_)
      have HKS11 : Hid (Keeps S wd b11) := Keeps.trans HKS10.out (gk q) fun _ _ h => h
      clear q
      go_wp2_with fail
      refine And.intro (Keeps.refl _ _) ?_
      refine Hv.seg_call (fun b12 q => ?_)
      have HKS12 : Hid (Keeps S wd b12) := Keeps.trans HKS11.out (gk q) fun _ _ h => h
      clear q
      go_wp2_with fail
      refine And.intro (Keeps.refl _ _) ?_
      refine Hv.seg_calm ?_
      go_wp2_with fail
      refine Hv.seg_skip (by kernel_rfl) ?_
      refine Hv.seg_call (fun b20 q => ?_)
      have HKS20 : Hid (Keeps S wd b20) := Keeps.trans HKS12.out (gk q) fun _ _ h => h
      clear q
      refine wpList_skip (by kernel_rfl) ?_
      refine And.intro (Keeps.refl _ _) ?_
      refine Hv.seg_call (fun b21 q => ?_)
      have HKS21 : Hid (Keeps S wd b21) := Keeps.trans HKS20.out (gk q) fun _ _ h => h
      clear q
      refine wpList_skip (by kernel_rfl) ?_
      refine And.intro (Keeps.refl _ _) ?_
      refine Hv.seg_call (fun b22 q => ?_)
      have HKS22 : Hid (Keeps S wd b22) := Keeps.trans HKS21.out (gk q) fun _ _ h => h
      clear q
      refine wpList_skip (by kernel_rfl) ?_
      refine And.intro (Keeps.refl _ _) ?_
      refine Hv.seg_calm ?_
      go_wp2_with fail
      refine Hv.seg_end ⟨by kernel_rfl, ?_⟩
      have HEz := Lib.hid (HEd.out.keep HKS22.out HSN.out)
      clear HKB0 HKS10 HKS11 HKS12 HKS20 HKS21 HKS22 HSN HBd HSe HEd
      have hBelow := Lib.hid (HEz.out.grow.below (fun _ _ h => h) (Nat.le_refl _))
      by_cases hend : i = x1.length
      · subst hend
        go_wp2_with fail
        go_ret
        exact ⟨rfl, hBelow.out⟩
      have hil : i < x1.length := by omega
      have hil' : (i : Int) < x1.length := by omega
      have hne : ((i : Int) == x1.length) = false := by rw [beq_eq_false_iff_ne]; omega
      obtain ⟨b, off, A', c', x, rfl, hx, k0, k1, k2, k3, k4, v0, v1, v2, v3, hbb⟩ := HC.out i hil
      have hgW := HEz.out.grow
      have d0 := ckp k0 hgW (fun h => h)
      have d1 := ckp k1 hgW (fun h => h)
      have d2 := ckp k2 hgW (fun h => h)
      have d3 := ckp k3 hgW (fun h => h)
      have d4 := ckp k4 hgW (fun h => h)
      have HNB := Lib.hid ((Nums.of_rd hbb).1.grow hgW)
      have HCB := Lib.hid (Nat.le_trans (Nat.mul_le_mul_right 8 (Nums.of_rd hbb).1.cap) (Nums.of_rd hbb).2)
      have HNBW : Hid (∀ w', Grow W w' → Nums .i64 w' A' x.2.2.2.2.1.length c' x.2.2.2.2.1) := fun w' h => (Nums.of_rd hbb).1.grow h
      have HI1 := Lib.hid (inKind_wf v1)
      have HI3 := Lib.hid (inKind_wf v3)
      clear k0 k1 k2 k3 k4 v0 v1 v2 v3 hbb hgW hx hend hBelow
      obtain ⟨kd, bs, v, m, l, u⟩ := x
      simp only at d0 d1 d2 d3 d4 HNB HI1 HI3 HCB HNBW
      generalize hln : l.length = ln at *
      have HLN := Lib.hid hln
      clear hln
      go_upto_region 16 with fail
      have hga := heap_alloc_new b22 (.cells #[.int .i64 kd, .int .i64 bs, .int .i64 v, .int .i64 m, .slice A' ln c'] 43)
      have HE6 := Lib.hid (HEz.out.grown ((Keeps.refl (fun _ => False) b22).alloc (.cells #[.int .i64 kd, .int .i64 bs, .int .i64 v, .int .i64 m, .slice A' ln c'] 43)))
      have HNB6 := Lib.hid (HNB.out.grow ((Keeps.refl (fun _ => False) b22).alloc (.cells #[.int .i64 kd, .int .i64 bs, .int .i64 v, .int .i64 m, .slice A' ln c'] 43)))
      have HGA := Lib.hid hga
      clear d0 d1 d2 d3 d4 hga hne HEz HNB HE
      generalize b22.alloc (.cells #[.int .i64 kd, .int .i64 bs, .int .i64 v, .int .i64 m, .slice A' ln c'] 43) = wb at *
      have e0 := blk_cell HGA.out 0
      have e1 := blk_cell HGA.out 1
      have e2 := blk_cell HGA.out 2
      have e3 := blk_cell HGA.out 3
      have e4 := blk_cell HGA.out 4
      simp at e0 e1 e2 e3 e4
      obtain ⟨ga, hgae⟩ : ∃ ga, ga = b22.heap.size := ⟨_, rfl⟩
      rw [← hgae] at e0 e1 e2 e3 e4 HGA ⊢
      clear hgae
      have hnb : n ≤ 65536 := HN.out
      have hbnd := HBND.out
      have HNB2 := Lib.hid hnb
      have HBN2 := Lib.hid hbnd
      clear hnb hbnd
      by_cases hk0 : kd = 0
      · subst hk0
        have HACT := Lib.hid (act_bit bs v n e HX.out.1 HX.out.2.1 HN.out HBND.out)
        obtain ⟨code, eN, ok2, len2, bnd2, hc, hr⟩ := HACT.out
        have HCC := Lib.hid hc
        have HRR := Lib.hid hr
        have HX2 := Lib.hid (And.intro ok2 (And.intro len2 bnd2))
        clear hc hr ok2 len2 bnd2 HACT
        go_wp2_with fail
        obtain ⟨S, hS⟩ : ∃ S : Nat → Prop, S = fun k => k ≠ ga := ⟨_, rfl⟩
        have HSe := Lib.hid hS
        clear hS
        refine Hv.wp_region_hav2 (Keeps S) Grow (fun _ _ _ => True) (hyT S) [2, 4, 8, 10] [] [(0, [0, 1, 3, 6, 7, 9]), (1, [2]), (1, [4]), (1, [8]), (1, [10]), (2, [5]), (2, [11]), (0, [12, 13])] [(0, 0, [?p0, ?p1, ?p3, ?p6, ?p7, ?p9]), (1, 2, [?p2]), (1, 4, [?p4]), (1, 8, [?p8]), (1, 10, [?p10]), (2, 5, [?p5]), (2, 11, [?p11]), (0, 12, [?p12, ?p13])] [?p0, ?p1, ?p2, ?p3, ?p4, ?p5, ?p6, ?p7, ?p8, ?p9, ?p10, ?p11, ?p12, ?p13] (by kernel_rfl) (by kernel_rfl) (by kernel_rfl) ?_
        have HEd := Lib.hid (HE6.out.grown (Keeps.refl _ wb).drew)
        have HGAd := Lib.hid (show wb.drew.heap[ga]? = _ from HGA.out)
        clear HE6 HGA e0 e1 e2 e3 e4
        generalize wb.drew = wd at *
        have HC7 : Hid (∀ w7, Keeps S wd w7 → w7.cell? ⟨ga, 1, none⟩ = some (.int .i64 bs) ∧ w7.cell? ⟨ga, 2, none⟩ = some (.int .i64 v) ∧ w7.cell? ⟨ga, 3, none⟩ = some (.int .i64 m)) := fun w7 h7 => by
          have h8 := block_keep HGAd.out h7 (by rw [HSe.out]; exact fun h => h rfl)
          have h9 := blk_cell h8 1
          have h10 := blk_cell h8 2
          have h11 := blk_cell h8 3
          simp at h9 h10 h11
          exact ⟨h9, h10, h11⟩
        refine Hv.seg_calm ?_
        go_wp2_with fail
        refine Hv.seg_held (by kernel_rfl) (.int .i64 bs) (fun w7 hk7 => ?_) ?_
        · have c7 := (HC7.out w7 hk7).1
          go_simp
        refine Hv.seg_held (by kernel_rfl) (.int .i64 v) (fun w7 hk7 => ?_) ?_
        · have c7 := (HC7.out w7 hk7).2.1
          go_simp
        refine Hv.seg_held (by kernel_rfl) (.int .i64 bs) (fun w7 hk7 => ?_) ?_
        · have c7 := (HC7.out w7 hk7).1
          go_simp
        refine Hv.seg_held (by kernel_rfl) (.int .i64 v) (fun w7 hk7 => ?_) ?_
        · have c7 := (HC7.out w7 hk7).2.1
          go_simp
        refine Hv.seg_call (fun w2 q2 => ?_)
        have HE2 := Lib.hid (HEd.out.grown q2)
        have HGA2 := Lib.hid (block_keep HGAd.out q2 fun h => h)
        clear q2
        go_wp2_with fail
        refine (HCC.out w2 cg cgc cvo HE2.out.enc).mono ?_
        rintro x w3 ⟨rfl, t⟩
        have hr9 : Keeps S w2 w3 := by rw [HSe.out]; exact t.rel HE2.out.enc HGA2.out
        obtain ⟨cvo', hE3⟩ := HE2.out.toC HE2.out.grow.size t
        have HE3 := Lib.hid hE3
        have HGA3 := Lib.hid (block_keep HGA2.out hr9 (by rw [HSe.out]; exact fun h => h rfl))
        clear t hE3 HE2 HGA2
        go_wp2_with fail
        refine ⟨hr9, ?_⟩
        clear hr9
        refine Hv.seg_call (fun w4 q4 => ?_)
        have HE4 := Lib.hid (HE3.out.grown q4)
        have HGA4 := Lib.hid (block_keep HGA3.out q4 fun h => h)
        clear q4
        go_wp2_with fail
        refine (HRR.out w4 rg _ rvo HE4.out.ref).mono ?_
        rintro x w5 ⟨rfl, t⟩
        have hr9 : Keeps S w4 w5 := by rw [HSe.out]; exact t.rel HE4.out.ref HGA4.out
        obtain ⟨rvo', hE5⟩ := HE4.out.toR HE4.out.grow.size t
        have HE5 := Lib.hid hE5
        clear t hE5 HE4 HGA4 HE3 HGA3 HCC HRR HC7 HGAd HEd
        go_wp2_with fail
        refine ⟨hr9, ?_⟩
        clear hr9
        refine Hv.seg_calm ?_
        go_wp2_with fail
        refine Hv.seg_end ⟨by kernel_rfl, ?_⟩
        go_wp2_with fail
        go_roundw
        case rel => exact ⟨i + 1, cvo', _, rvo', eN, by omega, by go_num, HE5.out, HX2.out.1, HX2.out.2.1, by have h1 := HX2.out.2.2; have h2 := HX.out.2.2; omega⟩
        case measure => simp [intOf]; omega
      by_cases hk1 : kd = 1
      · subst hk1
        have HACT := Lib.hid (act_direct v m n e HX.out.1 HX.out.2.1 HN.out HBND.out)
        obtain ⟨code, eN, ok2, len2, bnd2, hc, hr⟩ := HACT.out
        have HCC := Lib.hid hc
        have HRR := Lib.hid hr
        have HX2 := Lib.hid (And.intro ok2 (And.intro len2 bnd2))
        clear hc hr ok2 len2 bnd2 HACT
        go_wp2_with fail
        obtain ⟨S, hS⟩ : ∃ S : Nat → Prop, S = fun k => k ≠ ga := ⟨_, rfl⟩
        have HSe := Lib.hid hS
        clear hS
        refine Hv.wp_region_hav2 (Keeps S) Grow (fun _ _ _ => True) (hyT S) [2, 4, 8, 10] [] [(0, [0, 1, 3, 6, 7, 9]), (1, [2]), (1, [4]), (1, [8]), (1, [10]), (2, [5]), (2, [11]), (0, [12, 13])] [(0, 0, [?q0, ?q1, ?q3, ?q6, ?q7, ?q9]), (1, 2, [?q2]), (1, 4, [?q4]), (1, 8, [?q8]), (1, 10, [?q10]), (2, 5, [?q5]), (2, 11, [?q11]), (0, 12, [?q12, ?q13])] [?q0, ?q1, ?q2, ?q3, ?q4, ?q5, ?q6, ?q7, ?q8, ?q9, ?q10, ?q11, ?q12, ?q13] (by kernel_rfl) (by kernel_rfl) (by kernel_rfl) ?_
        have HEd := Lib.hid (HE6.out.grown (Keeps.refl _ wb).drew)
        have HGAd := Lib.hid (show wb.drew.heap[ga]? = _ from HGA.out)
        clear HE6 HGA e0 e1 e2 e3 e4
        generalize wb.drew = wd at *
        have HC7 : Hid (∀ w7, Keeps S wd w7 → w7.cell? ⟨ga, 1, none⟩ = some (.int .i64 bs) ∧ w7.cell? ⟨ga, 2, none⟩ = some (.int .i64 v) ∧ w7.cell? ⟨ga, 3, none⟩ = some (.int .i64 m)) := fun w7 h7 => by
          have h8 := block_keep HGAd.out h7 (by rw [HSe.out]; exact fun h => h rfl)
          have h9 := blk_cell h8 1
          have h10 := blk_cell h8 2
          have h11 := blk_cell h8 3
          simp at h9 h10 h11
          exact ⟨h9, h10, h11⟩
        refine Hv.seg_calm ?_
        go_wp2_with fail
        refine Hv.seg_held (by kernel_rfl) (.int .i64 v) (fun w7 hk7 => ?_) ?_
        · have c7 := (HC7.out w7 hk7).2.1
          go_simp
        refine Hv.seg_held (by kernel_rfl) (.int .i64 m) (fun w7 hk7 => ?_) ?_
        · have c7 := (HC7.out w7 hk7).2.2
          go_simp
        refine Hv.seg_held (by kernel_rfl) (.int .i64 v) (fun w7 hk7 => ?_) ?_
        · have c7 := (HC7.out w7 hk7).2.1
          go_simp
        refine Hv.seg_held (by kernel_rfl) (.int .i64 m) (fun w7 hk7 => ?_) ?_
        · have c7 := (HC7.out w7 hk7).2.2
          go_simp
        refine Hv.seg_call (fun w2 q2 => ?_)
        have HE2 := Lib.hid (HEd.out.grown q2)
        have HGA2 := Lib.hid (block_keep HGAd.out q2 fun h => h)
        clear q2
        go_wp2_with fail
        refine (HCC.out w2 cg cgc cvo HE2.out.enc).mono ?_
        rintro x w3 ⟨rfl, t⟩
        have hr9 : Keeps S w2 w3 := by rw [HSe.out]; exact t.rel HE2.out.enc HGA2.out
        obtain ⟨cvo', hE3⟩ := HE2.out.toC HE2.out.grow.size t
        have HE3 := Lib.hid hE3
        have HGA3 := Lib.hid (block_keep HGA2.out hr9 (by rw [HSe.out]; exact fun h => h rfl))
        clear t hE3 HE2 HGA2
        go_wp2_with fail
        refine ⟨hr9, ?_⟩
        clear hr9
        refine Hv.seg_call (fun w4 q4 => ?_)
        have HE4 := Lib.hid (HE3.out.grown q4)
        have HGA4 := Lib.hid (block_keep HGA3.out q4 fun h => h)
        clear q4
        go_wp2_with fail
        refine (HRR.out w4 rg _ rvo HE4.out.ref).mono ?_
        rintro x w5 ⟨rfl, t⟩
        have hr9 : Keeps S w4 w5 := by rw [HSe.out]; exact t.rel HE4.out.ref HGA4.out
        obtain ⟨rvo', hE5⟩ := HE4.out.toR HE4.out.grow.size t
        have HE5 := Lib.hid hE5
        clear t hE5 HE4 HGA4 HE3 HGA3 HCC HRR HC7 HGAd HEd
        go_wp2_with fail
        refine ⟨hr9, ?_⟩
        clear hr9
        refine Hv.seg_calm ?_
        go_wp2_with fail
        refine Hv.seg_end ⟨by kernel_rfl, ?_⟩
        go_wp2_with fail
        go_roundw
        case rel => exact ⟨i + 1, cvo', _, rvo', eN, by omega, by go_num, HE5.out, HX2.out.1, HX2.out.2.1, by have h1 := HX2.out.2.2; have h2 := HX.out.2.2; omega⟩
        case measure => simp [intOf]; omega
      by_cases hk2 : kd = 2
      · subst hk2
        have HACT := Lib.hid (act_tree bs v m n e HX.out.1 HX.out.2.1 HN.out HBND.out HI1.out HI3.out)
        obtain ⟨code, eN, ok2, len2, bnd2, hc, hr⟩ := HACT.out
        have HCC := Lib.hid hc
        have HRR := Lib.hid hr
        have HX2 := Lib.hid (And.intro ok2 (And.intro len2 bnd2))
        clear hc hr ok2 len2 bnd2 HACT
        go_wp2_with fail
        obtain ⟨S, hS⟩ : ∃ S : Nat → Prop, S = fun k => k ≠ ga := ⟨_, rfl⟩
        have HSe := Lib.hid hS
        clear hS
        refine Hv.wp_region_hav2 (Keeps S) Grow (fun _ _ _ => True) (hyT S) [2, 4, 6, 10, 12, 14] [] [(0, [0, 1, 3, 5, 8, 9, 11, 13]), (1, [2]), (1, [4]), (1, [6]), (1, [10]), (1, [12]), (1, [14]), (2, [7]), (2, [15]), (0, [16, 17])] [(0, 0, [?r0, ?r1, ?r3, ?r5, ?r8, ?r9, ?r11, ?r13]), (1, 2, [?r2]), (1, 4, [?r4]), (1, 6, [?r6]), (1, 10, [?r10]), (1, 12, [?r12]), (1, 14, [?r14]), (2, 7, [?r7]), (2, 15, [?r15]), (0, 16, [?r16, ?r17])] [?r0, ?r1, ?r2, ?r3, ?r4, ?r5, ?r6, ?r7, ?r8, ?r9, ?r10, ?r11, ?r12, ?r13, ?r14, ?r15, ?r16, ?r17] (by kernel_rfl) (by kernel_rfl) (by kernel_rfl) ?_
        have HEd := Lib.hid (HE6.out.grown (Keeps.refl _ wb).drew)
        have HGAd := Lib.hid (show wb.drew.heap[ga]? = _ from HGA.out)
        clear HE6 HGA e0 e1 e2 e3 e4
        generalize wb.drew = wd at *
        have HC7 : Hid (∀ w7, Keeps S wd w7 → w7.cell? ⟨ga, 1, none⟩ = some (.int .i64 bs) ∧ w7.cell? ⟨ga, 2, none⟩ = some (.int .i64 v) ∧ w7.cell? ⟨ga, 3, none⟩ = some (.int .i64 m)) := fun w7 h7 => by
          have h8 := block_keep HGAd.out h7 (by rw [HSe.out]; exact fun h => h rfl)
          have h9 := blk_cell h8 1
          have h10 := blk_cell h8 2
          have h11 := blk_cell h8 3
          simp at h9 h10 h11
          exact ⟨h9, h10, h11⟩
        refine Hv.seg_calm ?_
        go_wp2_with fail
        refine Hv.seg_held (by kernel_rfl) (.int .i64 bs) (fun w7 hk7 => ?_) ?_
        · have c7 := (HC7.out w7 hk7).1
          go_simp
        refine Hv.seg_held (by kernel_rfl) (.int .i64 v) (fun w7 hk7 => ?_) ?_
        · have c7 := (HC7.out w7 hk7).2.1
          go_simp
        refine Hv.seg_held (by kernel_rfl) (.int .i64 m) (fun w7 hk7 => ?_) ?_
        · have c7 := (HC7.out w7 hk7).2.2
          go_simp
        refine Hv.seg_held (by kernel_rfl) (.int .i64 bs) (fun w7 hk7 => ?_) ?_
        · have c7 := (HC7.out w7 hk7).1
          go_simp
        refine Hv.seg_held (by kernel_rfl) (.int .i64 v) (fun w7 hk7 => ?_) ?_
        · have c7 := (HC7.out w7 hk7).2.1
          go_simp
        refine Hv.seg_held (by kernel_rfl) (.int .i64 m) (fun w7 hk7 => ?_) ?_
        · have c7 := (HC7.out w7 hk7).2.2
          go_simp
        refine Hv.seg_call (fun w2 q2 => ?_)
        have HE2 := Lib.hid (HEd.out.grown q2)
        have HGA2 := Lib.hid (block_keep HGAd.out q2 fun h => h)
        clear q2
        go_wp2_with fail
        refine (HCC.out w2 cg cgc cvo HE2.out.enc).mono ?_
        rintro x w3 ⟨rfl, t⟩
        have hr9 : Keeps S w2 w3 := by rw [HSe.out]; exact t.rel HE2.out.enc HGA2.out
        obtain ⟨cvo', hE3⟩ := HE2.out.toC HE2.out.grow.size t
        have HE3 := Lib.hid hE3
        have HGA3 := Lib.hid (block_keep HGA2.out hr9 (by rw [HSe.out]; exact fun h => h rfl))
        clear t hE3 HE2 HGA2
        go_wp2_with fail
        refine ⟨hr9, ?_⟩
        clear hr9
        refine Hv.seg_call (fun w4 q4 => ?_)
        have HE4 := Lib.hid (HE3.out.grown q4)
        have HGA4 := Lib.hid (block_keep HGA3.out q4 fun h => h)
        clear q4
        go_wp2_with fail
        refine (HRR.out w4 rg _ rvo HE4.out.ref).mono ?_
        rintro x w5 ⟨rfl, t⟩
        have hr9 : Keeps S w4 w5 := by rw [HSe.out]; exact t.rel HE4.out.ref HGA4.out
        obtain ⟨rvo', hE5⟩ := HE4.out.toR HE4.out.grow.size t
        have HE5 := Lib.hid hE5
        clear t hE5 HE4 HGA4 HE3 HGA3 HCC HRR HC7 HGAd HEd
        go_wp2_with fail
        refine ⟨hr9, ?_⟩
        clear hr9
        refine Hv.seg_calm ?_
        go_wp2_with fail
        refine Hv.seg_end ⟨by kernel_rfl, ?_⟩
        go_wp2_with fail
        go_roundw
        case rel => exact ⟨i + 1, cvo', _, rvo', eN, by omega, by go_num, HE5.out, HX2.out.1, HX2.out.2.1, by have h1 := HX2.out.2.2; have h2 := HX.out.2.2; omega⟩
        case measure => simp [intOf]; omega
      by_cases hk3 : kd = 3
      · subst hk3
        have HACT := Lib.hid (act_rev bs v m n e HX.out.1 HX.out.2.1 HN.out HBND.out HI1.out HI3.out)
        obtain ⟨code, eN, ok2, len2, bnd2, hc, hr⟩ := HACT.out
        have HCC := Lib.hid hc
        have HRR := Lib.hid hr
        have HX2 := Lib.hid (And.intro ok2 (And.intro len2 bnd2))
        clear hc hr ok2 len2 bnd2 HACT
        go_wp2_with fail
        obtain ⟨S, hS⟩ : ∃ S : Nat → Prop, S = fun k => k ≠ ga := ⟨_, rfl⟩
        have HSe := Lib.hid hS
        clear hS
        refine Hv.wp_region_hav2 (Keeps S) Grow (fun _ _ _ => True) (hyT S) [2, 4, 6, 10, 12, 14] [] [(0, [0, 1, 3, 5, 8, 9, 11, 13]), (1, [2]), (1, [4]), (1, [6]), (1, [10]), (1, [12]), (1, [14]), (2, [7]), (2, [15]), (0, [16, 17])] [(0, 0, [?s0, ?s1, ?s3, ?s5, ?s8, ?s9, ?s11, ?s13]), (1, 2, [?s2]), (1, 4, [?s4]), (1, 6, [?s6]), (1, 10, [?s10]), (1, 12, [?s12]), (1, 14, [?s14]), (2, 7, [?s7]), (2, 15, [?s15]), (0, 16, [?s16, ?s17])] [?s0, ?s1, ?s2, ?s3, ?s4, ?s5, ?s6, ?s7, ?s8, ?s9, ?s10, ?s11, ?s12, ?s13, ?s14, ?s15, ?s16, ?s17] (by kernel_rfl) (by kernel_rfl) (by kernel_rfl) ?_
        have HEd := Lib.hid (HE6.out.grown (Keeps.refl _ wb).drew)
        have HGAd := Lib.hid (show wb.drew.heap[ga]? = _ from HGA.out)
        clear HE6 HGA e0 e1 e2 e3 e4
        generalize wb.drew = wd at *
        have HC7 : Hid (∀ w7, Keeps S wd w7 → w7.cell? ⟨ga, 1, none⟩ = some (.int .i64 bs) ∧ w7.cell? ⟨ga, 2, none⟩ = some (.int .i64 v) ∧ w7.cell? ⟨ga, 3, none⟩ = some (.int .i64 m)) := fun w7 h7 => by
          have h8 := block_keep HGAd.out h7 (by rw [HSe.out]; exact fun h => h rfl)
          have h9 := blk_cell h8 1
          have h10 := blk_cell h8 2
          have h11 := blk_cell h8 3
          simp at h9 h10 h11
          exact ⟨h9, h10, h11⟩
        refine Hv.seg_calm ?_
        go_wp2_with fail
        refine Hv.seg_held (by kernel_rfl) (.int .i64 bs) (fun w7 hk7 => ?_) ?_
        · have c7 := (HC7.out w7 hk7).1
          go_simp
        refine Hv.seg_held (by kernel_rfl) (.int .i64 v) (fun w7 hk7 => ?_) ?_
        · have c7 := (HC7.out w7 hk7).2.1
          go_simp
        refine Hv.seg_held (by kernel_rfl) (.int .i64 m) (fun w7 hk7 => ?_) ?_
        · have c7 := (HC7.out w7 hk7).2.2
          go_simp
        refine Hv.seg_held (by kernel_rfl) (.int .i64 bs) (fun w7 hk7 => ?_) ?_
        · have c7 := (HC7.out w7 hk7).1
          go_simp
        refine Hv.seg_held (by kernel_rfl) (.int .i64 v) (fun w7 hk7 => ?_) ?_
        · have c7 := (HC7.out w7 hk7).2.1
          go_simp
        refine Hv.seg_held (by kernel_rfl) (.int .i64 m) (fun w7 hk7 => ?_) ?_
        · have c7 := (HC7.out w7 hk7).2.2
          go_simp
        refine Hv.seg_call (fun w2 q2 => ?_)
        have HE2 := Lib.hid (HEd.out.grown q2)
        have HGA2 := Lib.hid (block_keep HGAd.out q2 fun h => h)
        clear q2
        go_wp2_with fail
        refine (HCC.out w2 cg cgc cvo HE2.out.enc).mono ?_
        rintro x w3 ⟨rfl, t⟩
        have hr9 : Keeps S w2 w3 := by rw [HSe.out]; exact t.rel HE2.out.enc HGA2.out
        obtain ⟨cvo', hE3⟩ := HE2.out.toC HE2.out.grow.size t
        have HE3 := Lib.hid hE3
        have HGA3 := Lib.hid (block_keep HGA2.out hr9 (by rw [HSe.out]; exact fun h => h rfl))
        clear t hE3 HE2 HGA2
        go_wp2_with fail
        refine ⟨hr9, ?_⟩
        clear hr9
        refine Hv.seg_call (fun w4 q4 => ?_)
        have HE4 := Lib.hid (HE3.out.grown q4)
        have HGA4 := Lib.hid (block_keep HGA3.out q4 fun h => h)
        clear q4
        go_wp2_with fail
        refine (HRR.out w4 rg _ rvo HE4.out.ref).mono ?_
        rintro x w5 ⟨rfl, t⟩
        have hr9 : Keeps S w4 w5 := by rw [HSe.out]; exact t.rel HE4.out.ref HGA4.out
        obtain ⟨rvo', hE5⟩ := HE4.out.toR HE4.out.grow.size t
        have HE5 := Lib.hid hE5
        clear t hE5 HE4 HGA4 HE3 HGA3 HCC HRR HC7 HGAd HEd
        go_wp2_with fail
        refine ⟨hr9, ?_⟩
        clear hr9
        refine Hv.seg_calm ?_
        go_wp2_with fail
        refine Hv.seg_end ⟨by kernel_rfl, ?_⟩
        go_wp2_with fail
        go_roundw
        case rel => exact ⟨i + 1, cvo', _, rvo', eN, by omega, by go_num, HE5.out, HX2.out.1, HX2.out.2.1, by have h1 := HX2.out.2.2; have h2 := HX.out.2.2; omega⟩
        case measure => simp [intOf]; omega
      by_cases hk4 : kd = 4
      · subst hk4
        clear hk0 hk1 hk2 hk3
        have ho0 := own_none wb 3
        have e4a := ckp e4 ((Keeps.refl (fun _ => False) wb).alloc (.cells #[] 3)) (fun h => h)
        have HS0 := Lib.hid ((HNB6.out.grow ((Keeps.refl (fun _ => False) wb).alloc (.cells #[] 3))).src)
        go_wp2_with (at_builtin; refine wpList_appS rfl (.tmp 160) (.tmp 162) 27 3 rfl Try.underlying27 Try.infoI9 rfl (by decide) wb.heap.size _ 0 _ rfl ho0 (by simp) A' ln c' _ rfl HS0.out (by have h1 := HCB.out; unfold maxLen; omega) (by have h1 := HCB.out; omega) ?_)
        intro A8 c8 w8 ho5 hk5 _
        (try simp only [Nat.zero_add, List.nil_append] at ho5)
        (try simp only [Nat.zero_add])
        have hg5 : Grow wb w8 := Keeps.trans ((Keeps.refl (fun _ => False) wb).alloc (.cells #[] 3)) hk5 (fun i hi h => by
          have h8 : wb.heap.size = i := by simpa [Value.ownBlock] using h
          omega)
        have HE8 := Lib.hid (HE6.out.grown hg5)
        have HGw8 := Lib.hid hg5
        have HOw8 := Lib.hid ho5
        clear ho5 hk5 hg5 HS0 ho0 e4a
        have HN8 : Hid (Nums .i64 w8 A8 ln c8 l) := Nums.of_own HOw8.out HNB6.out.rng
        have HNE : Hid (∀ b o, A8 = some ⟨b, o, none⟩ → b ≠ cgc) := fun b o hb h9 => by
          rcases HOw8.out.2 with ⟨hv, _⟩ | ⟨g, cap, cur, hv, hg, _⟩
          · injection hv with hv
            rw [hv] at hb
            cases hb
          · injection hv with hv
            rw [hv] at hb
            injection hb with hb
            injection hb with hb
            have h1 := HE6.out.lt_all.2.1
            omega
        have hact := block_keep HGA.out HGw8.out fun h => h
        have HACT := Lib.hid hact
        clear hact e0 e1 e2 e3 e4
        cases hfit : fitB l n
        · have HB1 := Lib.hid (setE_bad w8 cg cgc n cvo e HE8.out.enc A8 ln c8 l HN8.out (by have h1 := HCB.out; omega) (by rw [HX.out.2.1]; exact hfit))
          have e4 := blk_cell HACT.out 4
          simp at e4
          have HB2 := Lib.hid (refFit_is w8 n A' ln c' l (HNB6.out.grow HGw8.out) (by have h1 := HCB.out; omega))
          rw [hfit] at HB2
          clear hfit
          go_wp2_with fail
          refine HB1.out.mono ?_
          rintro x w9 ⟨rfl, rfl⟩
          go_wp2_with fail
          refine HB2.out.mono ?_
          rintro x w9 ⟨rfl, rfl⟩
          go_wp2_with fail
          go_roundw
          case rel => exact ⟨i + 1, cvo, _, rvo, e, by omega, by go_num, HE8.out, HX.out.1, HX.out.2.1, by have h2 := HX.out.2.2; omega⟩
          case measure => simp [intOf]; omega
        · have HB1 := Lib.hid (setE_is w8 cg cgc n cvo e HE8.out.enc HX.out.1 A8 ln c8 l HN8.out (by have h1 := HCB.out; omega) (by rw [HX.out.2.1]; exact hfit) HNE.out)
          have HF := Lib.hid (fit_ok hfit)
          have HFT : Hid (fitB l n = true) := hfit
          clear hfit
          go_wp2_with fail
          refine HB1.out.mono ?_
          rintro x w9 ⟨rfl, t, ok2, len2⟩
          have hact9 := block_keep HACT.out (t.rel HE8.out.enc HACT.out) (fun h => h rfl)
          obtain ⟨cvo', hE9⟩ := HE8.out.toC HE8.out.grow.size t
          have HE9 := Lib.hid hE9
          have HNB9 := Lib.hid (HNBW.out w9 HE9.out.grow)
          have HX2 := Lib.hid (And.intro ok2 len2)
          have e4 := blk_cell hact9 4
          simp at e4
          have HACT9 := Lib.hid hact9
          have HB2 := Lib.hid (refFit_is w9 n A' ln c' l HNB9.out (by have h1 := HCB.out; omega))
          rw [HFT.out] at HB2
          clear t ok2 len2 hE9 hact9
          go_wp2_with fail
          refine HB2.out.mono ?_
          rintro x w10 ⟨rfl, rfl⟩
          have ho0 := own_none w9 3
          have e4a := ckp e4 ((Keeps.refl (fun _ => False) w9).alloc (.cells #[] 3)) (fun h => h)
          have HS0 := Lib.hid ((HNB9.out.grow ((Keeps.refl (fun _ => False) w9).alloc (.cells #[] 3))).src)
          go_wp2_with (at_builtin; refine wpList_appS rfl (.tmp 170) (.tmp 172) 27 3 rfl Try.underlying27 Try.infoI9 rfl (by decide) w9.heap.size _ 0 _ rfl ho0 (by simp) A' ln c' _ rfl HS0.out (by have h1 := HCB.out; unfold maxLen; omega) (by have h1 := HCB.out; omega) ?_)
          intro A9 c9 w11 ho5 hk5 _
          (try simp only [Nat.zero_add, List.nil_append] at ho5)
          (try simp only [Nat.zero_add])
          have hg5 : Grow w9 w11 := Keeps.trans ((Keeps.refl (fun _ => False) w9).alloc (.cells #[] 3)) hk5 (fun i hi h => by
            have h8 : w9.heap.size = i := by simpa [Value.ownBlock] using h
            omega)
          have HE11 := Lib.hid (HE9.out.grown hg5)
          have HGw11 := Lib.hid hg5
          have HOw11 := Lib.hid ho5
          clear ho5 hk5 hg5 HS0 ho0 e4a
          have d0 := blk_cell HE11.out.ref.blk 0
          have f0 := blk_frozen HE11.out.ref.blk 0
          simp at d0
          go_wp2_with fail
          have HON : Hid (w11.ownsRow W.heap.size 3 1 (.slice A9 ln c9) (toN l).length ((toI (toN l)).map (Value.int .i64))) := by
            show World.ownsRow _ _ _ _ _ _ _
            have h1 : (toN l).length = ln := by rw [HX2.out.2, HX.out.2.1, ← HF.out.1, HLN.out]
            rw [h1, HF.out.2.2.2]
            exact owns_base (owns_any_base HOw11.out (Nat.zero_le _)) (fun b hb => Nat.le_trans HE9.out.grow.size (own_ge HOw11.out b hb))
          have HE12 := Lib.hid (HE11.out.setR HON.out)
          clear d0 f0
          go_roundw
          case rel => exact ⟨i + 1, cvo', _, rvo, _, by omega, by go_num, HE12.out, HX2.out.1, HX2.out.2.trans HX.out.2.1, by have h2 := HX.out.2.2; simp only; omega⟩
          case measure => simp [intOf]; omega
      go_wp2_with fail
      go_roundw
      case rel => exact ⟨i + 1, cvo, _, rvo, e, by omega, by go_num, HE6.out, HX.out.1, HX.out.2.1, by have h2 := HX.out.2.2; omega⟩
      case measure => simp [intOf]; omega
end Go.Proofs.Ytiikbpcaeoodjaa
