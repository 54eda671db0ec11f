/- RangerReads: the law. -/
import Derived.Test.YtiikbpcaeoodjaaRrP
import Derived.Test.YtiikbpcaeoodjaaWrK
namespace Go.Proofs.Ytiikbpcaeoodjaa
open Go.RowKit
set_option linter.unusedVariables false
set_option linter.unusedSimpArgs false

theorem Try.infoU8r : (Try.prog.info? 5).map (fun i => (i.zero, i.size, i.bytes)) = some (some (.int .u8 0), 1, 1) := by kernel_rfl
set_option maxRecDepth 8000 in
set_option maxHeartbeats 2000000 in
theorem spoilt13_src (w : World) (B : Nat) (A A2 : Option Addr) (n c c2 : Nat) (xs : List Int) (h : w.ownsRow B 5 1 (.slice A n c) n (xs.map (Value.int .u8))) (h2 : Src w 1 A2 n c2 (xs.map (Value.int .u8))) :
    Calls Try.prog 14 #[.slice A n c, .slice A2 n c2] w fun e w' => e = .returned (.bool true) ∧ Keeps (fun k => (Value.slice A n c).ownBlock = some k) w w' := by
  have hl : xs.length = n := by have := h.1; simp at this; exact this
  have hcv1 := run_str_src (P := Try.prog) (w := w) (xs := xs) Try.underlying29 Try.underlying5 Try.underlying9 (src_own h (fun u hu => by obtain ⟨y, _, rfl⟩ := List.mem_map.1 hu; rfl))
  have hcv2 := run_str_src (P := Try.prog) (w := w) (xs := xs) Try.underlying29 Try.underlying5 Try.underlying9 h2
  generalize strOfNums xs = Z at *
  rcases h.2 with ⟨hv, rfl⟩ | ⟨g, cap, cur, hv, hg, hh, hnc, hcm, hcs, htake⟩
  · injection hv with hv _ hc
    subst hv hc
    clear h h2
    go_enter Try.func14, Try.ntmps14
    go_wp2_with fail
    go_loopw [5] (fun vi wr => vi = .int .i64 0 ∧ w = wr) (fun _ _ => 0)
    case atStart => exact ⟨rfl, rfl⟩
    case round =>
      obtain ⟨rfl, rfl⟩ := hrel
      go_wp2_with fail
      go_ret
      exact ⟨rfl, Keeps.refl _ _⟩
  · injection hv with hv _ hc
    subst hv hc
    have HC := Lib.hid (own_cell (w := w) (B := B) (e := 0) (g := g) hl hcs htake)
    have hsz : n ≤ cur.size := by omega
    have hn : n ≤ 9223372036854775807 := by simp only [maxLen] at hcm; omega
    generalize hS : (fun k => (Value.slice (some ⟨g, 0, none⟩) n c).ownBlock = some k) = S
    have HS : Hid (∀ k, S k ↔ g = k) := fun k => by rw [← hS]; simp [Value.ownBlock]
    clear h h2 htake hcs hS
    go_enter Try.func14, Try.ntmps14
    go_wp2_with fail
    clear hcv1 hcv2
    go_loopw [5] (fun vi wr => ∃ (i : Nat) (cs : Array Value), vi = .int .i64 i ∧ i ≤ n ∧ Hid (wr.heap[g]? = some (.cells cs 5 (0, 0))) ∧ n ≤ cs.size ∧ Hid (∀ j, i ≤ j → cs[j]? = cur[j]?) ∧ Hid (Keeps S w wr)) (fun vi _ => n - (intOf vi).toNat)
    case atStart => exact ⟨0, cur, rfl, by omega, hh, hsz, fun _ _ => rfl, Keeps.refl _ _⟩
    case round =>
      obtain ⟨i, cs, rfl, hi, HB, hcz, HE, HK⟩ := hrel
      by_cases hin : i < n
      · have c1 : wr.cell? ⟨g, i, none⟩ = some (.int .u8 (xs.getD i 0)) := by rw [blk_cell HB.out, HE.out i (Nat.le_refl _), HC.out i hin]
        have f1 := blk_frozen HB.out i
        generalize xs.getD i 0 = x at *
        go_wp2_with fail
        go_roundw
        case rel =>
          refine ⟨i + 1, _, by go_num, by omega, blk_set HB.out i _, by simpa using hcz, fun j hj => ?_, ?_⟩
          · rw [← HE.out j (by omega)]
            exact Array.getElem?_setIfInBounds_ne (by omega)
          · exact HK.out.setCell (p := ⟨g, i, none⟩) (fun _ => (HS.out g).2 rfl) _
        case measure => simp [intOf]; omega
      · obtain rfl : n = i := by omega
        go_wp2_with fail
        go_ret
        exact ⟨rfl, HK.out⟩
/-- Both refuse. -/
theorem newBad (n : Int) (m : Nat) (xs : List Int) (h : ¬ (0 ≤ n ∧ n ≤ 65536 ∧ 5 ≤ m ∧ xs.getD 0 0 = 0)) : ∃ er : Int,
    (∀ w A c, Nums .u8 w A m c xs → Calls Try.prog 25 #[.slice A m c, .int .i64 n] w fun e' w' => e' = .returned (.tuple #[.pointer none, .int .i64 er]) ∧ w = w') ∧
    (∀ w A c, Nums .u8 w A m c xs → Calls Try.prog 26 #[.slice A m c, .int .i64 n] w fun e' w' => e' = .returned (.tuple #[.pointer none, .int .i64 er]) ∧ w = w') := by
  by_cases h1 : n < 0 ∨ 65536 < n
  · exact ⟨2, fun w A c hx => dNew_arg w A m c n h1, fun w A c hx => rNew_arg w A m c n h1⟩
  obtain ⟨k, rfl⟩ : ∃ k : Nat, n = (k : Int) := ⟨n.toNat, by omega⟩
  by_cases h2 : m < 5
  · exact ⟨10, fun w A c hx => dNew_end w A m c k (by omega) h2, fun w A c hx => rNew_end w A m c k (by omega) h2⟩
  exact ⟨11, fun w A c hx => dNew_form w A m c xs hx k (by omega) (by omega) (by omega), fun w A c hx => rNew_form w A m c xs hx k (by omega) (by omega) (by omega)⟩
theorem new_dec_ok (xs : List Int) (h : ∀ k, 0 ≤ xs.getD k 0 ∧ xs.getD k 0 < 256) (n : Nat) : (⟨List.replicate n 1024, 4294967295, code4 xs, toN (xs.drop 5), false⟩ : Dec).Ok := by
  refine ⟨?_, by show 4294967295 < 4294967296; decide, ?_, fun _ => by simp, ?_⟩
  · exact (Enc.new_ok n).ch
  · have h1 := codK_lt xs h 4
    rw [codK_4] at h1
    exact h1
  · intro x hx
    obtain ⟨y, hy, rfl⟩ := List.mem_map.1 hx
    obtain ⟨k, hk⟩ := List.mem_iff_getElem?.1 (List.mem_of_mem_drop hy)
    have h1 := h k
    rw [List.getD_eq_getElem?_getD, hk] at h1
    simp at h1
    omega
set_option maxRecDepth 8000 in
set_option maxHeartbeats 8000000 in
theorem walkRangerReads (W : World) (a0 : Option Addr) (c0 : Nat) (x0 : List (Int)) (_h0 : Sh.Rd W (.sl 1 (.int .u8)) [.slice a0 x0.length c0] x0) (x1 : Int) (_h1 : (Lit.int .i64 x1).wf = true) (a2 : Option Addr) (c2 : Nat) (x2 : List ((Int) × (Int) × (Int) × (Int) × (List (Int)) × Unit)) (_h2 : Sh.Rd W (.sl 56 (.pair (.int .i64) (.pair (.int .i64) (.pair (.int .i64) (.pair (.int .i64) (.pair (.sl 8 (.int .i64)) .nil)))))) [.slice a2 x2.length c2] x2) :
    Calls Try.prog 5 #[.slice a0 x0.length c0, .int .i64 x1, .slice a2 x2.length c2] W fun e w' => e = .returned (.bool true) ∧ Below W.heap.size W w' := by
  have HL5 := Lib.hid (acts5_len _h2)
  have HC := Lib.hid (fun i hi => acts5_cells _h2 i hi)
  have HNU := Lib.hid (Nums.of_rd _h0).1
  have hcap := (Nums.of_rd _h0).2
  have hcap2 := (Nums.of_rd _h0).1.cap
  have hlen : (x2.length : Int) ≤ 2513169434844 := by have := HL5.out; omega
  have hxl0 : x0.length ≤ 140737488351232 := by omega
  obtain ⟨L, hL⟩ : ∃ L, L = x0.length := ⟨_, rfl⟩
  rw [← hL] at HNU hxl0 ⊢
  have HXL := Lib.hid hxl0
  clear _h2 _h1 _h0 hcap hcap2 hL
  have ho0 := own_none W 5
  have HS0 := Lib.hid ((HNU.out.grow ((Keeps.refl (fun _ => False) W).alloc (.cells #[] 5))).src)
  go_enter Try.func5, Try.ntmps5
  go_wp2_with (at_builtin; refine wpList_appS rfl (.tmp 18) (.tmp 19) 29 5 rfl Try.underlying29 Try.infoU8r rfl (by decide) W.heap.size _ 0 _ rfl ho0 (by simp) a0 L c0 _ rfl HS0.out (by have h1 := HXL.out; unfold maxLen; omega) (by have h1 := HXL.out; omega) ?_)
  intro Ai ci w1 ho1 hk1 _
  (try simp only [Nat.zero_add, List.nil_append] at ho1)
  (try simp only [Nat.zero_add])
  have hg1 : Grow W w1 := Keeps.trans ((Keeps.refl (fun _ => False) W).alloc (.cells #[] 5)) hk1 (fun i hi h => by
    have h8 : W.heap.size = i := by simpa [Value.ownBlock] using h
    omega)
  have HG1 := Lib.hid hg1
  have HO1 := Lib.hid ho1
  have HNI := Lib.hid (Nums.of_own ho1 HNU.out.rng)
  clear ho1 hk1 hg1 HS0 ho0
  by_cases hgood : ¬ (0 ≤ x1 ∧ x1 ≤ 65536 ∧ 5 ≤ L ∧ x0.getD 0 0 = 0)
  · obtain ⟨er, hA, hB⟩ := newBad x1 L x0 hgood
    have HA := Lib.hid hA
    have HB := Lib.hid hB
    clear hA hB hgood
    go_wp2_with fail
    refine (HA.out w1 Ai ci HNI.out).mono ?_
    rintro x w2 ⟨rfl, rfl⟩
    have HSP := Lib.hid (spoilt13_src w1 _ Ai a0 L ci c0 x0 HO1.out (HNU.out.grow HG1.out).src)
    go_wp2_with fail
    refine HSP.out.mono ?_
    rintro x w3 ⟨rfl, hk3⟩
    have HG3 : Hid (Grow W w3) := Keeps.trans HG1.out hk3 fun i hi h => by have := own_ge HO1.out i h; omega
    clear hk3 HSP
    go_wp2_with fail
    refine (HB.out w3 a0 c0 (HNU.out.grow HG3.out)).mono ?_
    rintro x w4 ⟨rfl, rfl⟩
    go_wp2_with fail
    refine (Try.names13_fn _).mono ?_
    rintro e w4 ⟨rfl, rfl⟩
    go_wp2_with fail
    go_loopw [12] (fun vi wr => vi = .int .i64 0 ∧ w3 = wr) (fun _ _ => 0)
    case atStart => exact ⟨rfl, rfl⟩
    case round =>
      obtain ⟨rfl, rfl⟩ := hrel
      have hBelow := Lib.hid (HG3.out.below (fun _ _ h => h) (Nat.le_refl _))
      go_wp2_with fail
      go_ret
      exact ⟨rfl, hBelow.out⟩
  obtain ⟨h1, h2, h3, h4⟩ : 0 ≤ x1 ∧ x1 ≤ 65536 ∧ 5 ≤ L ∧ x0.getD 0 0 = 0 := by
    by_cases h : 0 ≤ x1 ∧ x1 ≤ 65536 ∧ 5 ≤ L ∧ x0.getD 0 0 = 0
    · exact h
    · exact absurd h hgood
  obtain ⟨n, rfl⟩ : ∃ n : Nat, x1 = (n : Int) := ⟨x1.toNat, by omega⟩
  have hn : n ≤ 65536 := by omega
  have HN := Lib.hid hn
  have HA := Lib.hid (dNew_is w1 Ai L ci x0 HNI.out n hn h3 (by omega) h4)
  have HGD := Lib.hid (And.intro h3 h4)
  clear hgood h1 h2 h3 h4 hn hxl0
  go_wp2_with fail
  refine HA.out.mono ?_
  rintro x w2 ⟨cg, cgc, RB, Ar, cr, rfl, hcg, hcgc, hRB, hD, hg2⟩
  have hz1 := HG1.out.size
  have HSP := Lib.hid (spoilt13_src w2 _ Ai a0 L ci c0 x0 (owns_keep HO1.out hg2 fun _ _ h => h) ((HNU.out.grow HG1.out).grow hg2).src)
  have HD2 := Lib.hid hD
  have HG2 := Lib.hid (Grow.trans _ _ _ HG1.out hg2)
  have HCG := Lib.hid (And.intro hcg (And.intro hcgc (And.intro hRB hz1)))
  clear hcg hcgc hRB hD hg2 hz1 HA
  go_wp2_with fail
  refine HSP.out.mono ?_
  rintro x w3 ⟨rfl, hk3⟩
  have HIN : Hid (∀ i, (Value.slice Ai L ci).ownBlock = some i → i < w1.heap.size) := fun i hi => (HO1.out.lt i hi).2
  have HG3 : Hid (Grow W w3) := Keeps.trans HG2.out hk3 fun i hi h => by have := own_ge HO1.out i h; omega
  have HD3 : Hid (DecAt w3 cg cgc n RB Ar cr ⟨List.replicate n 1024, 4294967295, code4 x0, toN (x0.drop 5), false⟩) := HD2.out.keep hk3 (fun h => by have h1 := HIN.out _ h; have h2 := HCG.out.1; omega) (fun h => by have h1 := HIN.out _ h; have h2 := HCG.out.2.1; omega) (fun b hb h => by have h1 := HIN.out _ h; have h2 := (HCG.out.2.2.1 b hb).1; omega)
  have hz3 := hk3.size
  have HZ3 : Hid (∀ k, RB k → W.heap.size ≤ k ∧ k < w3.heap.size) := fun k hk => by have h1 := HCG.out.2.2.1 k hk; have h2 := HCG.out.2.2.2; exact ⟨by omega, by omega⟩
  have HB := Lib.hid (rNew_is w3 a0 L c0 x0 (HNU.out.grow HG3.out) (fun k => k < W.heap.size) (fun b o e => by obtain ⟨b2, o2, e2, hc⟩ := HNU.out.at_ (by have := HGD.out.1; omega); rw [e] at e2; injection e2 with e2; injection e2 with e2; rw [e2]; exact World.block_lt_of_cell? W _ (hc 0 (by have := HGD.out.1; omega))) (fun k hk => Nat.lt_of_lt_of_le hk HG3.out.size) n HN.out HGD.out.1 (by have := HXL.out; omega) HGD.out.2)
  clear hk3 HSP HD2 HG2 HO1 HNI HG1 hz3
  go_wp2_with fail
  refine HB.out.mono ?_
  rintro x w4 ⟨rg, rfl, hrg, hR, hg4⟩
  have HE0 : Hid (DD W w4 n cg cgc rg RB (fun k => k < W.heap.size) (.slice (some ⟨w3.heap.size, 0, none⟩) n n) a0 L c0 x0 ⟨List.replicate n 1024, 4294967295, code4 x0, toN (x0.drop 5), false⟩ ⟨List.replicate n 1024, 4294967295, code4 x0, toN (x0.drop 5), false⟩) := by
    have e1 := HCG.out.1
    have e2 := HCG.out.2.1
    have e3 := HCG.out.2.2.2
    have e4 := HG3.out.size
    refine ⟨⟨Ar, cr, HD3.out.keep hg4 (fun h => h) (fun h => h) (fun _ _ h => h)⟩, ⟨5, hR⟩, Grow.trans _ _ _ HG3.out hg4, by omega, by omega, by omega, ?_, ?_, fun k hk => (HZ3.out k hk).1, fun k hk => hk, ?_, ?_⟩
    · intro k hk
      have h9 : w3.heap.size = k := by simpa [Value.ownBlock] using hk
      omega
    · intro k hk
      exact Nat.lt_of_lt_of_le (HZ3.out k hk).2 hg4.size
    · intro hk
      have := (HZ3.out rg hk).2
      omega
    · intro k hk hb
      have h9 : w3.heap.size = k := by simpa [Value.ownBlock] using hk
      have := (HZ3.out k hb).2
      omega
  have HOK0 := Lib.hid (new_dec_ok x0 HNU.out.byte n)
  clear hrg hR hg4 HB HD3 HZ3 HCG HG3 HIN
  go_wp2_with fail
  refine (Try.names13_fn _).mono ?_
  rintro e w5 ⟨rfl, rfl⟩
  go_wp2_with fail
  go_loopw [12] (fun vi wr => ∃ (i : Nat) (rvc : Value) (d : Dec), i ≤ x2.length ∧ vi = .int .i64 i ∧ Hid (DD W wr n cg cgc rg RB (fun k => k < W.heap.size) rvc a0 L c0 x0 d d) ∧ Hid (d.Ok ∧ d.ch.length = n)) (fun vi _ => x2.length + 1 - (intOf vi).toNat)
  case atStart => exact ⟨0, _, _, by omega, rfl, HE0.out, HOK0.out, by simp⟩
  case round =>
    clear HE0 HOK0
    obtain ⟨i, rvc, d, hi, rfl, HE, HX⟩ := hrel
    obtain ⟨Av, cv, hrv⟩ : ∃ A c, rvc = .slice A n c := by
      obtain ⟨p, h2⟩ := HE.out.ref
      obtain ⟨A', c', hv⟩ := h2.len0
      rw [HX.out.2] at hv
      exact ⟨A', c', hv⟩
    subst hrv
    have hi' : (i : Int) ≤ x2.length := by omega
    obtain ⟨w9, rfl⟩ : ∃ wo : World, wo = wr := ⟨_, rfl⟩
    obtain ⟨DN, hDN⟩ : ∃ DN, DN = d.done := ⟨_, rfl⟩
    have HDN := Lib.hid hDN
    clear hDN
    go_wp2_with fail
    by_cases hn100 : (n : Int) < 100
    · obtain ⟨B, hB⟩ : ∃ B, B = w9.heap.size := ⟨_, rfl⟩
      obtain ⟨S, hS⟩ : ∃ S : Nat → Prop, S = fun k => B ≤ k := ⟨_, rfl⟩
      have HSe := Lib.hid hS
      have HB9 := Lib.hid hB
      clear hS hB
      refine Hv.wp_region_hav2 (Keeps S) Grow (fun _ _ _ => True) (hyT S) [14, 23] [] [(0, [0, 2]), (2, [1]), (2, [3]), (0, [4, 5, 6, 7, 8, 9, 11, 12, 13]), (1, [14]), (2, [10]), (2, [15]), (2, [16]), (0, [17, 18, 20, 21, 22]), (1, [23]), (2, [19]), (2, [24]), (2, [25]), (0, [26, 27, 28])] [(0, 0, [?o0, ?o2]), (2, 1, [?o1]), (2, 3, [?o3]), (0, 4, [?o4, ?o5, ?o6, ?o7, ?o8, ?o9, ?o11, ?o12, ?o13]), (1, 14, [?o14]), (2, 10, [?o10]), (2, 15, [?o15]), (2, 16, [?o16]), (0, 17, [?o17, ?o18, ?o20, ?o21, ?o22]), (1, 23, [?o23]), (2, 19, [?o19]), (2, 24, [?o24]), (2, 25, [?o25]), (0, 26, [?o26, ?o27, ?o28])] [?o0, ?o1, ?o2, ?o3, ?o4, ?o5, ?o6, ?o7, ?o8, ?o9, ?o10, ?o11, ?o12, ?o13, ?o14, ?o15, ?o16, ?o17, ?o18, ?o19, ?o20, ?o21, ?o22, ?o23, ?o24, ?o25, ?o26, ?o27, ?o28] (by kernel_rfl) (by kernel_rfl) (by kernel_rfl) ?_
      have HEd := Lib.hid (HE.out.grown (Keeps.refl _ w9).drew)
      have HBd : Hid (w9.drew.heap.size = B) := HB9.out.symm
      have HKR : Hid (Keeps S w9.drew w9.drew) := Keeps.refl _ _
      clear HB9 HE
      generalize w9.drew = wd at *
      have HSN : Hid (∀ b, b < wd.heap.size → ¬ S b) := fun b hb h => by
        rw [HSe.out] at h
        have h2 : B ≤ b := h
        have h3 := HBd.out
        omega
      have HC7 : Hid (∀ w7, Keeps S wd w7 → w7.cell? ⟨rg, 0, none⟩ = some (.slice Av n cv)) := fun w7 h7 => by
        obtain ⟨p, h9⟩ := (HEd.out.keep h7 HSN.out).ref
        have h8 := blk_cell h9.blk 0
        simpa using h8
      refine Hv.seg_calm ?_
      go_wp2_with fail
      refine Hv.seg_call (fun u0 q => ?_)
      have HKa : Hid (Keeps S wd u0) := Keeps.trans HKR.out (gk q) fun _ _ h => h
      have HDc : Hid (Calls Try.prog 27 #[.pointer (some ⟨cg, 0, none⟩)] u0 fun e' w' => e' = .returned (.bool DN) ∧ u0 = w') := by
        obtain ⟨A9, c9, h9⟩ := (HEd.out.keep HKa.out HSN.out).dec
        rw [HDN.out]
        exact dDone_is u0 cg cgc n RB A9 c9 d h9
      clear q
      go_wp2_with fail
      refine HDc.out.mono ?_
      rintro x u0b ⟨rfl, rfl⟩
      go_wp2_with fail
      refine ⟨Keeps.refl _ _, ?_⟩
      clear HDc
      refine Hv.seg_call (fun u0c q => ?_)
      have HKb : Hid (Keeps S wd u0c) := Keeps.trans HKa.out (gk q) fun _ _ h => h
      have HDr : Hid (Calls Try.prog 28 #[.pointer (some ⟨rg, 0, none⟩)] u0c fun e' w' => e' = .returned (.bool DN) ∧ Grow u0c w') := by
        obtain ⟨p, h9⟩ := (HEd.out.keep HKb.out HSN.out).ref
        rw [HDN.out]
        exact rDone_is u0c rg _ _ a0 L c0 x0 p d h9
      clear q
      go_wp2_with fail
      refine HDr.out.mono ?_
      rintro x u0d ⟨rfl, hg⟩
      have HKB0 : Hid (Keeps S wd u0d) := Keeps.trans HKb.out (gk hg) fun _ _ h => h
      have hr9 : Keeps S u0c u0d := gk hg
      clear hg HDr HKa HKb
      have hdn : (DN == DN) = true := by simp
      go_wp2_with fail
      refine ⟨hr9, ?_⟩
      clear hr9
      refine Hv.seg_calm ?_
      go_wp2_with fail
      refine Hv.seg_held (by kernel_rfl) (.slice Av n cv) (fun w7 hk7 => ?_) ?_
      · have c7 := HC7.out w7 (Keeps.trans HKB0.out hk7 fun _ _ h => h)
        go_simp
      refine Hv.seg_call (fun a1 q => ?_)
      have HKA1 : Hid (Keeps S wd a1) := Keeps.trans HKB0.out (gk q) fun _ _ h => h
      have HEA1 := Lib.hid (HEd.out.keep HKA1.out HSN.out)
      have HCA : Hid (Calls Try.prog 29 #[.pointer (some ⟨cg, 0, none⟩)] a1 fun e' w' => ∃ A c, e' = .returned (.slice A n c) ∧ w'.ownsRow a1.heap.size 3 1 (.slice A n c) n ((toI d.ch).map (Value.int .i64)) ∧ Grow a1 w') := by
        obtain ⟨A9, c9, h9⟩ := HEA1.out.dec
        have h8 := dChances_is a1 cg cgc n RB A9 c9 d h9 HX.out.1.ch (by rw [HX.out.2]; exact HN.out)
        rw [HX.out.2] at h8
        exact h8
      clear q
      go_wp2_with fail
      refine HCA.out.mono ?_
      rintro x a1b ⟨A5, c5, rfl, ho, hg⟩
      have HO1 := Lib.hid ho
      have HKC1 : Hid (Keeps S wd a1b) := Keeps.trans HKA1.out (gk hg) fun _ _ h => h
      have hr9 : Keeps S a1 a1b := gk hg
      clear ho hg HCA
      go_wp2_with fail
      refine ⟨hr9, ?_⟩
      clear hr9
      refine Hv.seg_call (fun a1c q => ?_)
      have HKD1 : Hid (Keeps S wd a1c) := Keeps.trans HKC1.out (gk q) fun _ _ h => h
      have HED1 := Lib.hid (HEd.out.keep HKD1.out HSN.out)
      have HO1b := Lib.hid (owns_keep HO1.out q fun _ _ h => h)
      have HCA : Hid (Calls Try.prog 16 #[.slice A5 n c5, .slice Av n cv] a1c fun e w' => e = .returned (.bool true) ∧ Keeps (fun k => (Value.slice A5 n c5).ownBlock = some k) a1c w') := by
        obtain ⟨p, h9⟩ := HED1.out.ref
        have hcr := h9.chs
        rw [HX.out.2] at hcr
        exact same13_is a1c _ 0 A5 Av n c5 cv (toI d.ch) HO1b.out hcr (fun b hb h9 => by
          obtain ⟨p2, h10⟩ := HEA1.out.ref
          have h1 := own_ge HO1.out b h9
          have h2 := (h10.chs.lt b hb).2
          omega)
      clear q
      go_wp2_with fail
      refine HCA.out.mono ?_
      rintro x a1d ⟨rfl, hk⟩
      have hr9 : Keeps S a1c a1d := keeps_of hk fun b hb h9 => by
        rw [HSe.out]
        have h1 := own_ge HO1.out b h9
        have h2 := HKA1.out.size
        have h3 := HBd.out
        show B ≤ b
        omega
      have HKE1 : Hid (Keeps S wd a1d) := Keeps.trans HKD1.out hr9 fun _ _ h => h
      clear hk HCA HED1 HEA1 HO1 HO1b HKA1 HKC1 HKD1
      go_wp2_with fail
      refine ⟨hr9, ?_⟩
      clear hr9
      refine Hv.seg_call (fun a1e q => ?_)
      have HKB1 : Hid (Keeps S wd a1e) := Keeps.trans HKE1.out (gk q) fun _ _ h => h
      clear q HKE1
      go_wp2_with fail
      refine ⟨Keeps.refl _ _, ?_⟩
      refine Hv.seg_calm ?_
      go_wp2_with fail
      refine Hv.seg_held (by kernel_rfl) (.slice Av n cv) (fun w7 hk7 => ?_) ?_
      · have c7 := HC7.out w7 (Keeps.trans HKB1.out hk7 fun _ _ h => h)
        go_simp
      refine Hv.seg_call (fun a2 q => ?_)
      have HKA2 : Hid (Keeps S wd a2) := Keeps.trans HKB1.out (gk q) fun _ _ h => h
      have HEA2 := Lib.hid (HEd.out.keep HKA2.out HSN.out)
      have HCA : Hid (Calls Try.prog 29 #[.pointer (some ⟨cg, 0, none⟩)] a2 fun e' w' => ∃ A c, e' = .returned (.slice A n c) ∧ w'.ownsRow a2.heap.size 3 1 (.slice A n c) n ((toI d.ch).map (Value.int .i64)) ∧ Grow a2 w') := by
        obtain ⟨A9, c9, h9⟩ := HEA2.out.dec
        have h8 := dChances_is a2 cg cgc n RB A9 c9 d h9 HX.out.1.ch (by rw [HX.out.2]; exact HN.out)
        rw [HX.out.2] at h8
        exact h8
      clear q
      go_wp2_with fail
      refine HCA.out.mono ?_
      rintro x a2b ⟨A6, c6, rfl, ho, hg⟩
      have HO2 := Lib.hid ho
      have HKC2 : Hid (Keeps S wd a2b) := Keeps.trans HKA2.out (gk hg) fun _ _ h => h
      have hr9 : Keeps S a2 a2b := gk hg
      clear ho hg HCA
      go_wp2_with fail
      refine ⟨hr9, ?_⟩
      clear hr9
      refine Hv.seg_call (fun a2c q => ?_)
      have HKD2 : Hid (Keeps S wd a2c) := Keeps.trans HKC2.out (gk q) fun _ _ h => h
      have HED2 := Lib.hid (HEd.out.keep HKD2.out HSN.out)
      have HO2b := Lib.hid (owns_keep HO2.out q fun _ _ h => h)
      have HCA : Hid (Calls Try.prog 16 #[.slice A6 n c6, .slice Av n cv] a2c fun e w' => e = .returned (.bool true) ∧ Keeps (fun k => (Value.slice A6 n c6).ownBlock = some k) a2c w') := by
        obtain ⟨p, h9⟩ := HED2.out.ref
        have hcr := h9.chs
        rw [HX.out.2] at hcr
        exact same13_is a2c _ 0 A6 Av n c6 cv (toI d.ch) HO2b.out hcr (fun b hb h9 => by
          obtain ⟨p2, h10⟩ := HEA2.out.ref
          have h1 := own_ge HO2.out b h9
          have h2 := (h10.chs.lt b hb).2
          omega)
      clear q
      go_wp2_with fail
      refine HCA.out.mono ?_
      rintro x a2d ⟨rfl, hk⟩
      have hr9 : Keeps S a2c a2d := keeps_of hk fun b hb h9 => by
        rw [HSe.out]
        have h1 := own_ge HO2.out b h9
        have h2 := HKA2.out.size
        have h3 := HBd.out
        show B ≤ b
        omega
      have HKE2 : Hid (Keeps S wd a2d) := Keeps.trans HKD2.out hr9 fun _ _ h => h
      clear hk HCA HED2 HEA2 HO2 HO2b HKA2 HKC2 HKD2
      go_wp2_with fail
      refine ⟨hr9, ?_⟩
      clear hr9
      refine Hv.seg_call (fun a2e q => ?_)
      have HKB2 : Hid (Keeps S wd a2e) := Keeps.trans HKE2.out (gk q) fun _ _ h => h
      clear q HKE2
      go_wp2_with fail
      refine ⟨Keeps.refl _ _, ?_⟩
      refine Hv.seg_calm ?_
      go_wp2_with fail
      refine Hv.seg_end ⟨by kernel_rfl, ?_⟩
      have HEz := Lib.hid (HEd.out.keep HKB2.out HSN.out)
      clear HKR HKB0 HKB1 HKB2 HC7 HSN HBd HSe HEd HDN
      have hBelow := Lib.hid (HEz.out.grow.below (fun _ _ h => h) (Nat.le_refl _))
      by_cases hend : i = x2.length
      · subst hend
        go_wp2_with fail
        go_ret
        exact ⟨rfl, hBelow.out⟩
      have hil : i < x2.length := by omega
      have hil' : (i : Int) < x2.length := by omega
      have hne : ((i : Int) == x2.length) = false := by rw [beq_eq_false_iff_ne]; omega
      obtain ⟨b, off, A', c', x, rfl, hx, k0, k1, k2, k3, k4, v0, v1, v2, v3, hbb⟩ := HC.out i hil
      have hgW := HEz.out.grow
      have d0 := ckp k0 hgW (fun h => h)
      have d1 := ckp k1 hgW (fun h => h)
      have d2 := ckp k2 hgW (fun h => h)
      have d3 := ckp k3 hgW (fun h => h)
      have d4 := ckp k4 hgW (fun h => h)
      have HNB := Lib.hid ((Nums.of_rd hbb).1.grow hgW)
      have HCB := Lib.hid (Nat.le_trans (Nat.mul_le_mul_right 8 (Nums.of_rd hbb).1.cap) (Nums.of_rd hbb).2)
      have HNBW : Hid (∀ w', Grow W w' → Nums .i64 w' A' x.2.2.2.2.1.length c' x.2.2.2.2.1) := fun w' h => (Nums.of_rd hbb).1.grow h
      have HI1 := Lib.hid (inKind_wf v1)
      have HI3 := Lib.hid (inKind_wf v3)
      clear k0 k1 k2 k3 k4 v0 v1 v2 v3 hbb hgW hx hend hBelow
      obtain ⟨kd, bs, v, m, l, u⟩ := x
      simp only at d0 d1 d2 d3 d4 HNB HI1 HI3 HCB HNBW
      generalize hln : l.length = ln at *
      have HLN := Lib.hid hln
      clear hln
      go_upto_region 16 with fail
      have hga := heap_alloc_new a2e (.cells #[.int .i64 kd, .int .i64 bs, .int .i64 v, .int .i64 m, .slice A' ln c'] 43)
      have HE6 := Lib.hid (HEz.out.grown ((Keeps.refl (fun _ => False) a2e).alloc (.cells #[.int .i64 kd, .int .i64 bs, .int .i64 v, .int .i64 m, .slice A' ln c'] 43)))
      have HNB6 := Lib.hid (HNB.out.grow ((Keeps.refl (fun _ => False) a2e).alloc (.cells #[.int .i64 kd, .int .i64 bs, .int .i64 v, .int .i64 m, .slice A' ln c'] 43)))
      have HGA := Lib.hid hga
      clear d0 d1 d2 d3 d4 hga hne HEz HNB
      generalize a2e.alloc (.cells #[.int .i64 kd, .int .i64 bs, .int .i64 v, .int .i64 m, .slice A' ln c'] 43) = wb at *
      have e0 := blk_cell HGA.out 0
      have e1 := blk_cell HGA.out 1
      have e2 := blk_cell HGA.out 2
      have e3 := blk_cell HGA.out 3
      have e4 := blk_cell HGA.out 4
      simp at e0 e1 e2 e3 e4
      obtain ⟨ga, hgae⟩ : ∃ ga, ga = a2e.heap.size := ⟨_, rfl⟩
      rw [← hgae] at e0 e1 e2 e3 e4 HGA ⊢
      clear hgae
      by_cases hk0 : kd = 0
      · subst hk0
        have HACT := Lib.hid (ract_bit bs n d HX.out.1 HX.out.2 HN.out)
        obtain ⟨rv, rer, dN, ok2, len2, hc, hr⟩ := HACT.out
        have HCC := Lib.hid hc
        have HRR := Lib.hid hr
        have HX2 := Lib.hid (And.intro ok2 len2)
        clear hc hr ok2 len2 HACT
        obtain ⟨A9, c9, hdec⟩ := HE6.out.dec
        have HCL := Lib.hid (HCC.out wb cg cgc RB A9 c9 hdec HE6.out.hRB)
        have HDEC := Lib.hid hdec
        clear hdec
        go_wp2_with fail
        refine HCL.out.mono ?_
        rintro x w3 ⟨rfl, t⟩
        have hga3 := block_keep HGA.out (t.rel HDEC.out HGA.out) (fun h => h rfl)
        have HE3 := Lib.hid (HE6.out.toC t)
        have HGA3 := Lib.hid hga3
        clear t hga3 HCL HDEC HCC e0 e1 e2 e3 e4
        have e1 := blk_cell HGA3.out 1
        have e3 := blk_cell HGA3.out 3
        simp at e1 e3
        obtain ⟨p9, href⟩ := HE3.out.ref
        have HRL := Lib.hid (HRR.out w3 rg _ _ a0 L c0 x0 p9 href (by have := HXL.out; omega))
        clear href HRR
        go_wp2_with fail
        refine HRL.out.mono ?_
        rintro x w5 ⟨rfl, t⟩
        have HE5 := Lib.hid (HE3.out.toR t)
        clear t HRL HE3 HGA3 HE6 HGA e1 e3
        go_wp2_with fail
        go_roundw
        case rel => exact ⟨i + 1, _, dN, by omega, by go_num, HE5.out, HX2.out.1, HX2.out.2⟩
        case measure => simp [intOf]; omega
      by_cases hk1 : kd = 1
      · subst hk1
        have HACT := Lib.hid (ract_direct m n d HX.out.1 HX.out.2 HN.out)
        obtain ⟨rv, rer, dN, ok2, len2, hc, hr⟩ := HACT.out
        have HCC := Lib.hid hc
        have HRR := Lib.hid hr
        have HX2 := Lib.hid (And.intro ok2 len2)
        clear hc hr ok2 len2 HACT
        obtain ⟨A9, c9, hdec⟩ := HE6.out.dec
        have HCL := Lib.hid (HCC.out wb cg cgc RB A9 c9 hdec HE6.out.hRB)
        have HDEC := Lib.hid hdec
        clear hdec
        go_wp2_with fail
        refine HCL.out.mono ?_
        rintro x w3 ⟨rfl, t⟩
        have hga3 := block_keep HGA.out (t.rel HDEC.out HGA.out) (fun h => h rfl)
        have HE3 := Lib.hid (HE6.out.toC t)
        have HGA3 := Lib.hid hga3
        clear t hga3 HCL HDEC HCC e0 e1 e2 e3 e4
        have e1 := blk_cell HGA3.out 1
        have e3 := blk_cell HGA3.out 3
        simp at e1 e3
        obtain ⟨p9, href⟩ := HE3.out.ref
        have HRL := Lib.hid (HRR.out w3 rg _ _ a0 L c0 x0 p9 href (by have := HXL.out; omega))
        clear href HRR
        go_wp2_with fail
        refine HRL.out.mono ?_
        rintro x w5 ⟨rfl, t⟩
        have HE5 := Lib.hid (HE3.out.toR t)
        clear t HRL HE3 HGA3 HE6 HGA e1 e3
        go_wp2_with fail
        go_roundw
        case rel => exact ⟨i + 1, _, dN, by omega, by go_num, HE5.out, HX2.out.1, HX2.out.2⟩
        case measure => simp [intOf]; omega
      by_cases hk2 : kd = 2
      · subst hk2
        have HACT := Lib.hid (ract_high bs m n d HX.out.1 HX.out.2 HN.out HI1.out HI3.out)
        obtain ⟨rv, rer, dN, ok2, len2, hc, hr⟩ := HACT.out
        have HCC := Lib.hid hc
        have HRR := Lib.hid hr
        have HX2 := Lib.hid (And.intro ok2 len2)
        clear hc hr ok2 len2 HACT
        obtain ⟨A9, c9, hdec⟩ := HE6.out.dec
        have HCL := Lib.hid (HCC.out wb cg cgc RB A9 c9 hdec HE6.out.hRB)
        have HDEC := Lib.hid hdec
        clear hdec
        go_wp2_with fail
        refine HCL.out.mono ?_
        rintro x w3 ⟨rfl, t⟩
        have hga3 := block_keep HGA.out (t.rel HDEC.out HGA.out) (fun h => h rfl)
        have HE3 := Lib.hid (HE6.out.toC t)
        have HGA3 := Lib.hid hga3
        clear t hga3 HCL HDEC HCC e0 e1 e2 e3 e4
        have e1 := blk_cell HGA3.out 1
        have e3 := blk_cell HGA3.out 3
        simp at e1 e3
        obtain ⟨p9, href⟩ := HE3.out.ref
        have HRL := Lib.hid (HRR.out w3 rg _ _ a0 L c0 x0 p9 href (by have := HXL.out; omega))
        clear href HRR
        go_wp2_with fail
        refine HRL.out.mono ?_
        rintro x w5 ⟨rfl, t⟩
        have HE5 := Lib.hid (HE3.out.toR t)
        clear t HRL HE3 HGA3 HE6 HGA e1 e3
        go_wp2_with fail
        go_roundw
        case rel => exact ⟨i + 1, _, dN, by omega, by go_num, HE5.out, HX2.out.1, HX2.out.2⟩
        case measure => simp [intOf]; omega
      by_cases hk3 : kd = 3
      · subst hk3
        have HACT := Lib.hid (ract_low bs m n d HX.out.1 HX.out.2 HN.out HI1.out HI3.out)
        obtain ⟨rv, rer, dN, ok2, len2, hc, hr⟩ := HACT.out
        have HCC := Lib.hid hc
        have HRR := Lib.hid hr
        have HX2 := Lib.hid (And.intro ok2 len2)
        clear hc hr ok2 len2 HACT
        obtain ⟨A9, c9, hdec⟩ := HE6.out.dec
        have HCL := Lib.hid (HCC.out wb cg cgc RB A9 c9 hdec HE6.out.hRB)
        have HDEC := Lib.hid hdec
        clear hdec
        go_wp2_with fail
        refine HCL.out.mono ?_
        rintro x w3 ⟨rfl, t⟩
        have hga3 := block_keep HGA.out (t.rel HDEC.out HGA.out) (fun h => h rfl)
        have HE3 := Lib.hid (HE6.out.toC t)
        have HGA3 := Lib.hid hga3
        clear t hga3 HCL HDEC HCC e0 e1 e2 e3 e4
        have e1 := blk_cell HGA3.out 1
        have e3 := blk_cell HGA3.out 3
        simp at e1 e3
        obtain ⟨p9, href⟩ := HE3.out.ref
        have HRL := Lib.hid (HRR.out w3 rg _ _ a0 L c0 x0 p9 href (by have := HXL.out; omega))
        clear href HRR
        go_wp2_with fail
        refine HRL.out.mono ?_
        rintro x w5 ⟨rfl, t⟩
        have HE5 := Lib.hid (HE3.out.toR t)
        clear t HRL HE3 HGA3 HE6 HGA e1 e3
        go_wp2_with fail
        go_roundw
        case rel => exact ⟨i + 1, _, dN, by omega, by go_num, HE5.out, HX2.out.1, HX2.out.2⟩
        case measure => simp [intOf]; omega
      by_cases hk4 : kd = 4
      · subst hk4
        clear hk0 hk1 hk2 hk3
        have ho0 := own_none wb 3
        have e4a := ckp e4 ((Keeps.refl (fun _ => False) wb).alloc (.cells #[] 3)) (fun h => h)
        have HS0 := Lib.hid ((HNB6.out.grow ((Keeps.refl (fun _ => False) wb).alloc (.cells #[] 3))).src)
        go_wp2_with (at_builtin; refine wpList_appS rfl (.tmp 174) (.tmp 176) 27 3 rfl Try.underlying27 Try.infoI9 rfl (by decide) wb.heap.size _ 0 _ rfl ho0 (by simp) A' ln c' _ rfl HS0.out (by have h1 := HCB.out; unfold maxLen; omega) (by have h1 := HCB.out; omega) ?_)
        intro A8 c8 w8 ho5 hk5 _
        (try simp only [Nat.zero_add, List.nil_append] at ho5)
        (try simp only [Nat.zero_add])
        have hg5 : Grow wb w8 := Keeps.trans ((Keeps.refl (fun _ => False) wb).alloc (.cells #[] 3)) hk5 (fun i hi h => by
          have h8 : wb.heap.size = i := by simpa [Value.ownBlock] using h
          omega)
        have HE8 := Lib.hid (HE6.out.grown hg5)
        have HGw8 := Lib.hid hg5
        have HOw8 := Lib.hid ho5
        clear ho5 hk5 hg5 HS0 ho0 e4a
        have HN8 : Hid (Nums .i64 w8 A8 ln c8 l) := Nums.of_own HOw8.out HNB6.out.rng
        have HNE : Hid (∀ b o, A8 = some ⟨b, o, none⟩ → b ≠ cgc) := fun b o hb h9 => by
          rcases HOw8.out.2 with ⟨hv, _⟩ | ⟨g, cap, cur, hv, hg, _⟩
          · injection hv with hv
            rw [hv] at hb
            cases hb
          · injection hv with hv
            rw [hv] at hb
            injection hb with hb
            injection hb with hb
            have h1 := HE6.out.lt_all.2.1
            omega
        have hact := block_keep HGA.out HGw8.out fun h => h
        have HACT := Lib.hid hact
        clear hact e0 e1 e2 e3 e4
        obtain ⟨A9, c9, hdec⟩ := HE8.out.dec
        have HDEC := Lib.hid hdec
        clear hdec
        cases hfit : fitB l n
        · have HB1 := Lib.hid (dSet_bad w8 cg cgc n RB A9 c9 d HDEC.out A8 ln c8 l HN8.out (by have h1 := HCB.out; omega) (by rw [HX.out.2]; exact hfit))
          have e4 := blk_cell HACT.out 4
          simp at e4
          have HB2 := Lib.hid (refFit_is w8 n A' ln c' l (HNB6.out.grow HGw8.out) (by have h1 := HCB.out; omega))
          rw [hfit] at HB2
          clear hfit
          go_wp2_with fail
          refine HB1.out.mono ?_
          rintro x w9 ⟨rfl, rfl⟩
          go_wp2_with fail
          refine HB2.out.mono ?_
          rintro x w9 ⟨rfl, rfl⟩
          go_wp2_with fail
          go_roundw
          case rel => exact ⟨i + 1, _, d, by omega, by go_num, HE8.out, HX.out.1, HX.out.2⟩
          case measure => simp [intOf]; omega
        · have HB1 := Lib.hid (dSet_is w8 cg cgc n RB A9 c9 d HDEC.out HX.out.1 A8 ln c8 l HN8.out (by have h1 := HCB.out; omega) (by rw [HX.out.2]; exact hfit) HNE.out)
          have HF := Lib.hid (fit_ok hfit)
          have HFT : Hid (fitB l n = true) := hfit
          clear hfit
          go_wp2_with fail
          refine HB1.out.mono ?_
          rintro x w9 ⟨rfl, t, ok2, len2⟩
          have hact9 := block_keep HACT.out (t.rel HDEC.out HACT.out) (fun h => h rfl)
          have HE9 := Lib.hid (HE8.out.toC t)
          have HNB9 := Lib.hid (HNBW.out w9 HE9.out.grow)
          have HX2 := Lib.hid (And.intro ok2 len2)
          have e4 := blk_cell hact9 4
          simp at e4
          have HACT9 := Lib.hid hact9
          have HB2 := Lib.hid (refFit_is w9 n A' ln c' l HNB9.out (by have h1 := HCB.out; omega))
          rw [HFT.out] at HB2
          clear t ok2 len2 hact9
          go_wp2_with fail
          refine HB2.out.mono ?_
          rintro x w10 ⟨rfl, rfl⟩
          have ho0 := own_none w9 3
          have e4a := ckp e4 ((Keeps.refl (fun _ => False) w9).alloc (.cells #[] 3)) (fun h => h)
          have HS0 := Lib.hid ((HNB9.out.grow ((Keeps.refl (fun _ => False) w9).alloc (.cells #[] 3))).src)
          go_wp2_with (at_builtin; refine wpList_appS rfl (.tmp 184) (.tmp 186) 27 3 rfl Try.underlying27 Try.infoI9 rfl (by decide) w9.heap.size _ 0 _ rfl ho0 (by simp) A' ln c' _ rfl HS0.out (by have h1 := HCB.out; unfold maxLen; omega) (by have h1 := HCB.out; omega) ?_)
          intro A9b c9b w11 ho5 hk5 _
          (try simp only [Nat.zero_add, List.nil_append] at ho5)
          (try simp only [Nat.zero_add])
          have hg5 : Grow w9 w11 := Keeps.trans ((Keeps.refl (fun _ => False) w9).alloc (.cells #[] 3)) hk5 (fun i hi h => by
            have h8 : w9.heap.size = i := by simpa [Value.ownBlock] using h
            omega)
          have HE11 := Lib.hid (HE9.out.grown hg5)
          have HGw11 := Lib.hid hg5
          have HOw11 := Lib.hid ho5
          clear ho5 hk5 hg5 HS0 ho0 e4a
          obtain ⟨p11, href⟩ := HE11.out.ref
          have d0 := blk_cell href.blk 0
          have f0 := blk_frozen href.blk 0
          simp at d0
          clear href
          go_wp2_with fail
          have HON : Hid (w11.ownsRow W.heap.size 3 1 (.slice A9b ln c9b) (toN l).length ((toI (toN l)).map (Value.int .i64))) := by
            show World.ownsRow _ _ _ _ _ _ _
            have h1 : (toN l).length = ln := by rw [HX2.out.2, HX.out.2, ← HF.out.1, HLN.out]
            rw [h1, HF.out.2.2.2]
            exact owns_base (owns_any_base HOw11.out (Nat.zero_le _)) (fun b hb => Nat.le_trans HE9.out.grow.size (own_ge HOw11.out b hb))
          have HE12 := Lib.hid (HE11.out.setR (fun k hk hb => by have h1 := own_ge HOw11.out k hk; have h2 := HE9.out.hRB k hb; omega) HON.out)
          have hln2 : ln = n := by rw [← HLN.out, HF.out.1]
          clear d0 f0
          go_roundw
          case rel => exact ⟨i + 1, _, _, by omega, by go_num, HE12.out, HX2.out.1, HX2.out.2.trans HX.out.2⟩
          case measure => simp [intOf]; omega
      go_wp2_with fail
      go_roundw
      case rel => exact ⟨i + 1, _, d, by omega, by go_num, HE6.out, HX.out.1, HX.out.2⟩
      case measure => simp [intOf]; omega
    · obtain ⟨B, hB⟩ : ∃ B, B = w9.heap.size := ⟨_, rfl⟩
      obtain ⟨S, hS⟩ : ∃ S : Nat → Prop, S = fun k => B ≤ k := ⟨_, rfl⟩
      have HSe := Lib.hid hS
      have HB9 := Lib.hid hB
      clear hS hB
      refine Hv.wp_region_hav2 (Keeps S) Grow (fun _ _ _ => True) (hyT S) [14, 23] [] [(0, [0, 2]), (2, [1]), (2, [3]), (0, [4, 5, 6, 7, 8, 9, 11, 12, 13]), (1, [14]), (2, [10]), (2, [15]), (2, [16]), (0, [17, 18, 20, 21, 22]), (1, [23]), (2, [19]), (2, [24]), (2, [25]), (0, [26, 27, 28])] [(0, 0, [?o0, ?o2]), (2, 1, [?o1]), (2, 3, [?o3]), (0, 4, [?o4, ?o5, ?o6, ?o7, ?o8, ?o9, ?o11, ?o12, ?o13]), (1, 14, [?o14]), (2, 10, [?o10]), (2, 15, [?o15]), (2, 16, [?o16]), (0, 17, [?o17, ?o18, ?o20, ?o21, ?o22]), (1, 23, [?o23]), (2, 19, [?o19]), (2, 24, [?o24]), (2, 25, [?o25]), (0, 26, [?o26, ?o27, ?o28])] [?o0, ?o1, ?o2, ?o3, ?o4, ?o5, ?o6, ?o7, ?o8, ?o9, ?o10, ?o11, ?o12, ?o13, ?o14, ?o15, ?o16, ?o17, ?o18, ?o19, ?o20, ?o21, ?o22, ?o23, ?o24, ?o25, ?o26, ?o27, ?o28] (by kernel_rfl) (by kernel_rfl) (by kernel_rfl) ?_
      have HEd := Lib.hid (HE.out.grown (Keeps.refl _ w9).drew)
      have HBd : Hid (w9.drew.heap.size = B) := HB9.out.symm
      have HKR : Hid (Keeps S w9.drew w9.drew) := Keeps.refl _ _
      clear HB9 HE
      generalize w9.drew = wd at *
      have HSN : Hid (∀ b, b < wd.heap.size → ¬ S b) := fun b hb h => by
        rw [HSe.out] at h
        have h2 : B ≤ b := h
        have h3 := HBd.out
        omega
      have HC7 : Hid (∀ w7, Keeps S wd w7 → w7.cell? ⟨rg, 0, none⟩ = some (.slice Av n cv)) := fun w7 h7 => by
        obtain ⟨p, h9⟩ := (HEd.out.keep h7 HSN.out).ref
        have h8 := blk_cell h9.blk 0
        simpa using h8
      refine Hv.seg_calm ?_
      go_wp2_with fail
      refine Hv.seg_call (fun u0 q => ?_)
      have HKa : Hid (Keeps S wd u0) := Keeps.trans HKR.out (gk q) fun _ _ h => h
      have HDc : Hid (Calls Try.prog 27 #[.pointer (some ⟨cg, 0, none⟩)] u0 fun e' w' => e' = .returned (.bool DN) ∧ u0 = w') := by
        obtain ⟨A9, c9, h9⟩ := (HEd.out.keep HKa.out HSN.out).dec
        rw [HDN.out]
        exact dDone_is u0 cg cgc n RB A9 c9 d h9
      clear q
      go_wp2_with fail
      refine HDc.out.mono ?_
      rintro x u0b ⟨rfl, rfl⟩
      go_wp2_with fail
      refine ⟨Keeps.refl _ _, ?_⟩
      clear HDc
      refine Hv.seg_call (fun u0c q => ?_)
      have HKb : Hid (Keeps S wd u0c) := Keeps.trans HKa.out (gk q) fun _ _ h => h
      have HDr : Hid (Calls Try.prog 28 #[.pointer (some ⟨rg, 0, none⟩)] u0c fun e' w' => e' = .returned (.bool DN) ∧ Grow u0c w') := by
        obtain ⟨p, h9⟩ := (HEd.out.keep HKb.out HSN.out).ref
        rw [HDN.out]
        exact rDone_is u0c rg _ _ a0 L c0 x0 p d h9
      clear q
      go_wp2_with fail
      refine HDr.out.mono ?_
      rintro x u0d ⟨rfl, hg⟩
      have HKB0 : Hid (Keeps S wd u0d) := Keeps.trans HKb.out (gk hg) fun _ _ h => h
      have hr9 : Keeps S u0c u0d := gk hg
      clear hg HDr HKa HKb
      have hdn : (DN == DN) = true := by simp
      go_wp2_with fail
      refine ⟨hr9, ?_⟩
      clear hr9
      refine Hv.seg_calm ?_
      go_wp2_with fail
      refine Hv.seg_skip (by kernel_rfl) ?_
      refine Hv.seg_call (fun b10 q => ?_)
      have HKS10 : Hid (Keeps S wd b10) := Keeps.trans HKB0.out (gk q) fun _ _ h => h
      clear q
      go_wp2_with fail
      refine And.intro (Keeps.refl _ _) ?_
      refine Hv.seg_call (fun b11 q => ?_)
      have HKS11 : Hid (Keeps S wd b11) := Keeps.trans HKS10.out (gk q) fun _ _ h => h
      clear q
      go_wp2_with fail
      refine And.intro (Keeps.refl _ _) ?_
      refine Hv.seg_call (fun b12 q => ?_)
      have HKS12 : Hid (Keeps S wd b12) := Keeps.trans HKS11.out (gk q) fun _ _ h => h
      clear q
      go_wp2_with fail
      refine And.intro (Keeps.refl _ _) ?_
      refine Hv.seg_calm ?_
      go_wp2_with fail
      refine Hv.seg_skip (by kernel_rfl) ?_
      refine Hv.seg_call (fun b20 q => ?_)
      have HKS20 : Hid (Keeps S wd b20) := Keeps.trans HKS12.out (gk q) fun _ _ h => h
      clear q
      refine wpList_skip (by kernel_rfl) ?_
      refine And.intro (Keeps.refl _ _) ?_
      refine Hv.seg_call (fun b21 q => ?_)
      have HKS21 : Hid (Keeps S wd b21) := Keeps.trans HKS20.out (gk q) fun _ _ h => h
      clear q
      refine wpList_skip (by kernel_rfl) ?_
      refine And.intro (Keeps.refl _ _) ?_
      refine Hv.seg_call (fun b22 q => ?_)
      have HKS22 : Hid (Keeps S wd b22) := Keeps.trans HKS21.out (gk q) fun _ _ h => h
      clear q
      refine wpList_skip (by kernel_rfl) ?_
      refine And.intro (Keeps.refl _ _) ?_
      refine Hv.seg_calm ?_
      go_wp2_with fail
      refine Hv.seg_end ⟨by kernel_rfl, ?_⟩
      have HEz := Lib.hid (HEd.out.keep HKS22.out HSN.out)
      clear HKR HKB0 HKS10 HKS11 HKS12 HKS20 HKS21 HKS22 HC7 HSN HBd HSe HEd HDN
      have hBelow := Lib.hid (HEz.out.grow.below (fun _ _ h => h) (Nat.le_refl _))
      by_cases hend : i = x2.length
      · subst hend
        go_wp2_with fail
        go_ret
        exact ⟨rfl, hBelow.out⟩
      have hil : i < x2.length := by omega
      have hil' : (i : Int) < x2.length := by omega
      have hne : ((i : Int) == x2.length) = false := by rw [beq_eq_false_iff_ne]; omega
      obtain ⟨b, off, A', c', x, rfl, hx, k0, k1, k2, k3, k4, v0, v1, v2, v3, hbb⟩ := HC.out i hil
      have hgW := HEz.out.grow
      have d0 := ckp k0 hgW (fun h => h)
      have d1 := ckp k1 hgW (fun h => h)
      have d2 := ckp k2 hgW (fun h => h)
      have d3 := ckp k3 hgW (fun h => h)
      have d4 := ckp k4 hgW (fun h => h)
      have HNB := Lib.hid ((Nums.of_rd hbb).1.grow hgW)
      have HCB := Lib.hid (Nat.le_trans (Nat.mul_le_mul_right 8 (Nums.of_rd hbb).1.cap) (Nums.of_rd hbb).2)
      have HNBW : Hid (∀ w', Grow W w' → Nums .i64 w' A' x.2.2.2.2.1.length c' x.2.2.2.2.1) := fun w' h => (Nums.of_rd hbb).1.grow h
      have HI1 := Lib.hid (inKind_wf v1)
      have HI3 := Lib.hid (inKind_wf v3)
      clear k0 k1 k2 k3 k4 v0 v1 v2 v3 hbb hgW hx hend hBelow
      obtain ⟨kd, bs, v, m, l, u⟩ := x
      simp only at d0 d1 d2 d3 d4 HNB HI1 HI3 HCB HNBW
      generalize hln : l.length = ln at *
      have HLN := Lib.hid hln
      clear hln
      go_upto_region 16 with fail
      have hga := heap_alloc_new b22 (.cells #[.int .i64 kd, .int .i64 bs, .int .i64 v, .int .i64 m, .slice A' ln c'] 43)
      have HE6 := Lib.hid (HEz.out.grown ((Keeps.refl (fun _ => False) b22).alloc (.cells #[.int .i64 kd, .int .i64 bs, .int .i64 v, .int .i64 m, .slice A' ln c'] 43)))
      have HNB6 := Lib.hid (HNB.out.grow ((Keeps.refl (fun _ => False) b22).alloc (.cells #[.int .i64 kd, .int .i64 bs, .int .i64 v, .int .i64 m, .slice A' ln c'] 43)))
      have HGA := Lib.hid hga
      clear d0 d1 d2 d3 d4 hga hne HEz HNB
      generalize b22.alloc (.cells #[.int .i64 kd, .int .i64 bs, .int .i64 v, .int .i64 m, .slice A' ln c'] 43) = wb at *
      have e0 := blk_cell HGA.out 0
      have e1 := blk_cell HGA.out 1
      have e2 := blk_cell HGA.out 2
      have e3 := blk_cell HGA.out 3
      have e4 := blk_cell HGA.out 4
      simp at e0 e1 e2 e3 e4
      obtain ⟨ga, hgae⟩ : ∃ ga, ga = b22.heap.size := ⟨_, rfl⟩
      rw [← hgae] at e0 e1 e2 e3 e4 HGA ⊢
      clear hgae
      by_cases hk0 : kd = 0
      · subst hk0
        have HACT := Lib.hid (ract_bit bs n d HX.out.1 HX.out.2 HN.out)
        obtain ⟨rv, rer, dN, ok2, len2, hc, hr⟩ := HACT.out
        have HCC := Lib.hid hc
        have HRR := Lib.hid hr
        have HX2 := Lib.hid (And.intro ok2 len2)
        clear hc hr ok2 len2 HACT
        obtain ⟨A9, c9, hdec⟩ := HE6.out.dec
        have HCL := Lib.hid (HCC.out wb cg cgc RB A9 c9 hdec HE6.out.hRB)
        have HDEC := Lib.hid hdec
        clear hdec
        go_wp2_with fail
        refine HCL.out.mono ?_
        rintro x w3 ⟨rfl, t⟩
        have hga3 := block_keep HGA.out (t.rel HDEC.out HGA.out) (fun h => h rfl)
        have HE3 := Lib.hid (HE6.out.toC t)
        have HGA3 := Lib.hid hga3
        clear t hga3 HCL HDEC HCC e0 e1 e2 e3 e4
        have e1 := blk_cell HGA3.out 1
        have e3 := blk_cell HGA3.out 3
        simp at e1 e3
        obtain ⟨p9, href⟩ := HE3.out.ref
        have HRL := Lib.hid (HRR.out w3 rg _ _ a0 L c0 x0 p9 href (by have := HXL.out; omega))
        clear href HRR
        go_wp2_with fail
        refine HRL.out.mono ?_
        rintro x w5 ⟨rfl, t⟩
        have HE5 := Lib.hid (HE3.out.toR t)
        clear t HRL HE3 HGA3 HE6 HGA e1 e3
        go_wp2_with fail
        go_roundw
        case rel => exact ⟨i + 1, _, dN, by omega, by go_num, HE5.out, HX2.out.1, HX2.out.2⟩
        case measure => simp [intOf]; omega
      by_cases hk1 : kd = 1
      · subst hk1
        have HACT := Lib.hid (ract_direct m n d HX.out.1 HX.out.2 HN.out)
        obtain ⟨rv, rer, dN, ok2, len2, hc, hr⟩ := HACT.out
        have HCC := Lib.hid hc
        have HRR := Lib.hid hr
        have HX2 := Lib.hid (And.intro ok2 len2)
        clear hc hr ok2 len2 HACT
        obtain ⟨A9, c9, hdec⟩ := HE6.out.dec
        have HCL := Lib.hid (HCC.out wb cg cgc RB A9 c9 hdec HE6.out.hRB)
        have HDEC := Lib.hid hdec
        clear hdec
        go_wp2_with fail
        refine HCL.out.mono ?_
        rintro x w3 ⟨rfl, t⟩
        have hga3 := block_keep HGA.out (t.rel HDEC.out HGA.out) (fun h => h rfl)
        have HE3 := Lib.hid (HE6.out.toC t)
        have HGA3 := Lib.hid hga3
        clear t hga3 HCL HDEC HCC e0 e1 e2 e3 e4
        have e1 := blk_cell HGA3.out 1
        have e3 := blk_cell HGA3.out 3
        simp at e1 e3
        obtain ⟨p9, href⟩ := HE3.out.ref
        have HRL := Lib.hid (HRR.out w3 rg _ _ a0 L c0 x0 p9 href (by have := HXL.out; omega))
        clear href HRR
        go_wp2_with fail
        refine HRL.out.mono ?_
        rintro x w5 ⟨rfl, t⟩
        have HE5 := Lib.hid (HE3.out.toR t)
        clear t HRL HE3 HGA3 HE6 HGA e1 e3
        go_wp2_with fail
        go_roundw
        case rel => exact ⟨i + 1, _, dN, by omega, by go_num, HE5.out, HX2.out.1, HX2.out.2⟩
        case measure => simp [intOf]; omega
      by_cases hk2 : kd = 2
      · subst hk2
        have HACT := Lib.hid (ract_high bs m n d HX.out.1 HX.out.2 HN.out HI1.out HI3.out)
        obtain ⟨rv, rer, dN, ok2, len2, hc, hr⟩ := HACT.out
        have HCC := Lib.hid hc
        have HRR := Lib.hid hr
        have HX2 := Lib.hid (And.intro ok2 len2)
        clear hc hr ok2 len2 HACT
        obtain ⟨A9, c9, hdec⟩ := HE6.out.dec
        have HCL := Lib.hid (HCC.out wb cg cgc RB A9 c9 hdec HE6.out.hRB)
        have HDEC := Lib.hid hdec
        clear hdec
        go_wp2_with fail
        refine HCL.out.mono ?_
        rintro x w3 ⟨rfl, t⟩
        have hga3 := block_keep HGA.out (t.rel HDEC.out HGA.out) (fun h => h rfl)
        have HE3 := Lib.hid (HE6.out.toC t)
        have HGA3 := Lib.hid hga3
        clear t hga3 HCL HDEC HCC e0 e1 e2 e3 e4
        have e1 := blk_cell HGA3.out 1
        have e3 := blk_cell HGA3.out 3
        simp at e1 e3
        obtain ⟨p9, href⟩ := HE3.out.ref
        have HRL := Lib.hid (HRR.out w3 rg _ _ a0 L c0 x0 p9 href (by have := HXL.out; omega))
        clear href HRR
        go_wp2_with fail
        refine HRL.out.mono ?_
        rintro x w5 ⟨rfl, t⟩
        have HE5 := Lib.hid (HE3.out.toR t)
        clear t HRL HE3 HGA3 HE6 HGA e1 e3
        go_wp2_with fail
        go_roundw
        case rel => exact ⟨i + 1, _, dN, by omega, by go_num, HE5.out, HX2.out.1, HX2.out.2⟩
        case measure => simp [intOf]; omega
      by_cases hk3 : kd = 3
      · subst hk3
        have HACT := Lib.hid (ract_low bs m n d HX.out.1 HX.out.2 HN.out HI1.out HI3.out)
        obtain ⟨rv, rer, dN, ok2, len2, hc, hr⟩ := HACT.out
        have HCC := Lib.hid hc
        have HRR := Lib.hid hr
        have HX2 := Lib.hid (And.intro ok2 len2)
        clear hc hr ok2 len2 HACT
        obtain ⟨A9, c9, hdec⟩ := HE6.out.dec
        have HCL := Lib.hid (HCC.out wb cg cgc RB A9 c9 hdec HE6.out.hRB)
        have HDEC := Lib.hid hdec
        clear hdec
        go_wp2_with fail
        refine HCL.out.mono ?_
        rintro x w3 ⟨rfl, t⟩
        have hga3 := block_keep HGA.out (t.rel HDEC.out HGA.out) (fun h => h rfl)
        have HE3 := Lib.hid (HE6.out.toC t)
        have HGA3 := Lib.hid hga3
        clear t hga3 HCL HDEC HCC e0 e1 e2 e3 e4
        have e1 := blk_cell HGA3.out 1
        have e3 := blk_cell HGA3.out 3
        simp at e1 e3
        obtain ⟨p9, href⟩ := HE3.out.ref
        have HRL := Lib.hid (HRR.out w3 rg _ _ a0 L c0 x0 p9 href (by have := HXL.out; omega))
        clear href HRR
        go_wp2_with fail
        refine HRL.out.mono ?_
        rintro x w5 ⟨rfl, t⟩
        have HE5 := Lib.hid (HE3.out.toR t)
        clear t HRL HE3 HGA3 HE6 HGA e1 e3
        go_wp2_with fail
        go_roundw
        case rel => exact ⟨i + 1, _, dN, by omega, by go_num, HE5.out, HX2.out.1, HX2.out.2⟩
        case measure => simp [intOf]; omega
      by_cases hk4 : kd = 4
      · subst hk4
        clear hk0 hk1 hk2 hk3
        have ho0 := own_none wb 3
        have e4a := ckp e4 ((Keeps.refl (fun _ => False) wb).alloc (.cells #[] 3)) (fun h => h)
        have HS0 := Lib.hid ((HNB6.out.grow ((Keeps.refl (fun _ => False) wb).alloc (.cells #[] 3))).src)
        go_wp2_with (at_builtin; refine wpList_appS rfl (.tmp 174) (.tmp 176) 27 3 rfl Try.underlying27 Try.infoI9 rfl (by decide) wb.heap.size _ 0 _ rfl ho0 (by simp) A' ln c' _ rfl HS0.out (by have h1 := HCB.out; unfold maxLen; omega) (by have h1 := HCB.out; omega) ?_)
        intro A8 c8 w8 ho5 hk5 _
        (try simp only [Nat.zero_add, List.nil_append] at ho5)
        (try simp only [Nat.zero_add])
        have hg5 : Grow wb w8 := Keeps.trans ((Keeps.refl (fun _ => False) wb).alloc (.cells #[] 3)) hk5 (fun i hi h => by
          have h8 : wb.heap.size = i := by simpa [Value.ownBlock] using h
          omega)
        have HE8 := Lib.hid (HE6.out.grown hg5)
        have HGw8 := Lib.hid hg5
        have HOw8 := Lib.hid ho5
        clear ho5 hk5 hg5 HS0 ho0 e4a
        have HN8 : Hid (Nums .i64 w8 A8 ln c8 l) := Nums.of_own HOw8.out HNB6.out.rng
        have HNE : Hid (∀ b o, A8 = some ⟨b, o, none⟩ → b ≠ cgc) := fun b o hb h9 => by
          rcases HOw8.out.2 with ⟨hv, _⟩ | ⟨g, cap, cur, hv, hg, _⟩
          · injection hv with hv
            rw [hv] at hb
            cases hb
          · injection hv with hv
            rw [hv] at hb
            injection hb with hb
            injection hb with hb
            have h1 := HE6.out.lt_all.2.1
            omega
        have hact := block_keep HGA.out HGw8.out fun h => h
        have HACT := Lib.hid hact
        clear hact e0 e1 e2 e3 e4
        obtain ⟨A9, c9, hdec⟩ := HE8.out.dec
        have HDEC := Lib.hid hdec
        clear hdec
        cases hfit : fitB l n
        · have HB1 := Lib.hid (dSet_bad w8 cg cgc n RB A9 c9 d HDEC.out A8 ln c8 l HN8.out (by have h1 := HCB.out; omega) (by rw [HX.out.2]; exact hfit))
          have e4 := blk_cell HACT.out 4
          simp at e4
          have HB2 := Lib.hid (refFit_is w8 n A' ln c' l (HNB6.out.grow HGw8.out) (by have h1 := HCB.out; omega))
          rw [hfit] at HB2
          clear hfit
          go_wp2_with fail
          refine HB1.out.mono ?_
          rintro x w9 ⟨rfl, rfl⟩
          go_wp2_with fail
          refine HB2.out.mono ?_
          rintro x w9 ⟨rfl, rfl⟩
          go_wp2_with fail
          go_roundw
          case rel => exact ⟨i + 1, _, d, by omega, by go_num, HE8.out, HX.out.1, HX.out.2⟩
          case measure => simp [intOf]; omega
        · have HB1 := Lib.hid (dSet_is w8 cg cgc n RB A9 c9 d HDEC.out HX.out.1 A8 ln c8 l HN8.out (by have h1 := HCB.out; omega) (by rw [HX.out.2]; exact hfit) HNE.out)
          have HF := Lib.hid (fit_ok hfit)
          have HFT : Hid (fitB l n = true) := hfit
          clear hfit
          go_wp2_with fail
          refine HB1.out.mono ?_
          rintro x w9 ⟨rfl, t, ok2, len2⟩
          have hact9 := block_keep HACT.out (t.rel HDEC.out HACT.out) (fun h => h rfl)
          have HE9 := Lib.hid (HE8.out.toC t)
          have HNB9 := Lib.hid (HNBW.out w9 HE9.out.grow)
          have HX2 := Lib.hid (And.intro ok2 len2)
          have e4 := blk_cell hact9 4
          simp at e4
          have HACT9 := Lib.hid hact9
          have HB2 := Lib.hid (refFit_is w9 n A' ln c' l HNB9.out (by have h1 := HCB.out; omega))
          rw [HFT.out] at HB2
          clear t ok2 len2 hact9
          go_wp2_with fail
          refine HB2.out.mono ?_
          rintro x w10 ⟨rfl, rfl⟩
          have ho0 := own_none w9 3
          have e4a := ckp e4 ((Keeps.refl (fun _ => False) w9).alloc (.cells #[] 3)) (fun h => h)
          have HS0 := Lib.hid ((HNB9.out.grow ((Keeps.refl (fun _ => False) w9).alloc (.cells #[] 3))).src)
          go_wp2_with (at_builtin; refine wpList_appS rfl (.tmp 184) (.tmp 186) 27 3 rfl Try.underlying27 Try.infoI9 rfl (by decide) w9.heap.size _ 0 _ rfl ho0 (by simp) A' ln c' _ rfl HS0.out (by have h1 := HCB.out; unfold maxLen; omega) (by have h1 := HCB.out; omega) ?_)
          intro A9b c9b w11 ho5 hk5 _
          (try simp only [Nat.zero_add, List.nil_append] at ho5)
          (try simp only [Nat.zero_add])
          have hg5 : Grow w9 w11 := Keeps.trans ((Keeps.refl (fun _ => False) w9).alloc (.cells #[] 3)) hk5 (fun i hi h => by
            have h8 : w9.heap.size = i := by simpa [Value.ownBlock] using h
            omega)
          have HE11 := Lib.hid (HE9.out.grown hg5)
          have HGw11 := Lib.hid hg5
          have HOw11 := Lib.hid ho5
          clear ho5 hk5 hg5 HS0 ho0 e4a
          obtain ⟨p11, href⟩ := HE11.out.ref
          have d0 := blk_cell href.blk 0
          have f0 := blk_frozen href.blk 0
          simp at d0
          clear href
          go_wp2_with fail
          have HON : Hid (w11.ownsRow W.heap.size 3 1 (.slice A9b ln c9b) (toN l).length ((toI (toN l)).map (Value.int .i64))) := by
            show World.ownsRow _ _ _ _ _ _ _
            have h1 : (toN l).length = ln := by rw [HX2.out.2, HX.out.2, ← HF.out.1, HLN.out]
            rw [h1, HF.out.2.2.2]
            exact owns_base (owns_any_base HOw11.out (Nat.zero_le _)) (fun b hb => Nat.le_trans HE9.out.grow.size (own_ge HOw11.out b hb))
          have HE12 := Lib.hid (HE11.out.setR (fun k hk hb => by have h1 := own_ge HOw11.out k hk; have h2 := HE9.out.hRB k hb; omega) HON.out)
          have hln2 : ln = n := by rw [← HLN.out, HF.out.1]
          clear d0 f0
          go_roundw
          case rel => exact ⟨i + 1, _, _, by omega, by go_num, HE12.out, HX2.out.1, HX2.out.2.trans HX.out.2⟩
          case measure => simp [intOf]; omega
      go_wp2_with fail
      go_roundw
      case rel => exact ⟨i + 1, _, d, by omega, by go_num, HE6.out, HX.out.1, HX.out.2⟩
      case measure => simp [intOf]; omega
end Go.Proofs.Ytiikbpcaeoodjaa
