/- The walk of hamperlaw21.VolumeBack. -/
import Derived.Test.YtnjdhkaabpmahaaVjY
namespace Go.Proofs.Ytnjdhkaabpmahaa
open Go.RowKit
set_option linter.unusedVariables false
set_option linter.unusedSimpArgs false

/-- The places in their turn. -/
def turnI (K r i : Nat) : List Nat := (List.range i).map fun j => K - 1 - (r + j) % K
theorem mod_inj {K r i j : Nat} (hi : i < K) (hj : j < K) (h : (r + i) % K = (r + j) % K) : i = j := by
  have hK : 0 < K := by omega
  rw [Nat.add_mod, Nat.add_mod r j, Nat.mod_eq_of_lt hi, Nat.mod_eq_of_lt hj] at h
  have hr := Nat.mod_lt r hK
  generalize r % K = s at *
  by_cases h1 : s + i < K <;> by_cases h2 : s + j < K
  · rw [Nat.mod_eq_of_lt h1, Nat.mod_eq_of_lt h2] at h; omega
  · rw [Nat.mod_eq_of_lt h1, Nat.mod_eq_sub_mod (by omega), Nat.mod_eq_of_lt (by omega)] at h; omega
  · rw [Nat.mod_eq_of_lt h2, Nat.mod_eq_sub_mod (by omega), Nat.mod_eq_of_lt (by omega)] at h; omega
  · rw [Nat.mod_eq_sub_mod (by omega), Nat.mod_eq_of_lt (a := s + i - K) (by omega), Nat.mod_eq_sub_mod (a := s + j) (by omega), Nat.mod_eq_of_lt (a := s + j - K) (by omega)] at h; omega
theorem turn_lt {K r i : Nat} (hK : 0 < K) : ∀ k ∈ turnI K r i, k < K := fun k hk => by
  obtain ⟨j, _, rfl⟩ := List.mem_map.1 hk
  omega
theorem turn_nd {K r : Nat} (hK : 0 < K) : (turnI K r K).Nodup := by
  refine List.pairwise_iff_getElem.2 fun i j hi hj hij => ?_
  have hil : i < K := by simpa [turnI] using hi
  have hjl : j < K := by simpa [turnI] using hj
  simp only [turnI, List.getElem_map, List.getElem_range]
  intro h
  have h1 := Nat.mod_lt (r + i) hK
  have h2 := Nat.mod_lt (r + j) hK
  have := mod_inj hil hjl (by omega : (r + i) % K = (r + j) % K)
  omega
theorem all_in {K : Nat} {I : List Nat} (hn : I.Nodup) (hl : ∀ k ∈ I, k < K) (hlen : I.length = K) : ∀ k, k < K → k ∈ I := fun k hk => Classical.byContradiction fun h => by
  have := pigeon (k :: I) (List.range K) (List.nodup_cons.2 ⟨h, hn⟩) fun x hx => by
    rcases List.mem_cons.1 hx with rfl | hx
    · exact List.mem_range.2 hk
    · exact List.mem_range.2 (hl x hx)
  rw [List.length_cons, List.length_range] at this
  omega
theorem range_one {a : Nat} : ∀ K, a < K → ((List.range K).filter fun k => decide (k = a)) = [a]
  | 0, h => by omega
  | K + 1, h => by
    rw [List.range_succ, List.filter_append]
    by_cases haK : a = K
    · subst haK
      have h0 : ((List.range a).filter fun k => decide (k = a)) = [] := by
        rw [List.filter_eq_nil_iff]
        intro k hk
        have := List.mem_range.1 hk
        simp; omega
      rw [h0]; simp
    · rw [range_one K (by omega)]
      have : decide (K = a) = false := decide_eq_false (fun e => haK e.symm)
      simp [this]
theorem lack_one {K : Nat} {I : List Nat} {a : Nat} (hn : I.Nodup) (ha : ∀ k, k < K → k ∈ I) (hl : ∀ k ∈ I, k < K) (h0 : I[0]? = some a) : ((List.range K).filter fun k => !decide (k ∈ I.tail)) = [a] ∧ a < K ∧ a ∉ I.tail := by
  cases I with
  | nil => cases h0
  | cons b r =>
    have h0 : b = a := by simpa using h0
    subst h0
    have haK := hl b (List.mem_cons_self ..)
    have hbr := (List.nodup_cons.1 hn).1
    refine ⟨?_, haK, hbr⟩
    rw [← range_one K haK]
    refine List.filter_congr fun k hk => ?_
    have hk := ha k (List.mem_range.1 hk)
    rw [Bool.eq_iff_iff]
    simp only [List.tail_cons, Bool.not_eq_true', decide_eq_false_iff_not, decide_eq_true_eq]
    constructor
    · intro h
      rcases List.mem_cons.1 hk with h1 | h1
      · exact h1
      · simp [h1] at h
    · rintro rfl; first | exact decide_eq_false hbr | simpa using hbr
theorem tmod_fact (x : Int) (K : Nat) (hK : 1 ≤ K) : -(K : Int) < x.tmod K ∧ x.tmod K < (K : Int) := by
  have h1 := Int.tmod_lt_of_pos x (show (0 : Int) < K by omega)
  have h2 := Int.tmod_lt_of_pos (-x) (show (0 : Int) < K by omega)
  rw [Int.neg_tmod] at h2
  omega
theorem tmod_pos (x : Int) (K : Nat) (hx : 0 ≤ x) : x.tmod K = ((x.toNat % K : Nat) : Int) := by
  obtain ⟨n, rfl⟩ := Int.eq_ofNat_of_zero_le hx
  rw [Int.tmod_eq_emod_of_nonneg (by omega)]
  simp
set_option maxRecDepth 8000 in
set_option maxHeartbeats 3000000 in
theorem walkVolumeBack (W : World) (a0 : Option Addr) (c0 : Nat) (x0 : List (Int)) (_h0 : Sh.Rd W (.sl 1 (.int .u8)) [.slice a0 x0.length c0] x0) (x1 : Int) (_h1 : (Lit.int .i64 x1).wf = true) (x2 : Int) (_h2 : (Lit.int .i64 x2).wf = true) (_hk : Sh.bulk (.sl 1 (.int .u8)) x0 + Sh.bulk (.int .i64) x1 + Sh.bulk (.int .i64) x2 ≤ 1048576) :
    Calls Try.prog 4 #[.slice a0 x0.length c0, .int .i64 x1, .int .i64 x2] W fun e w' => e = .returned (.bool true) ∧ Below W.heap.size W w' := by
  have hbk : x0.length ≤ 1048576 := by
    have h : ((List.map (fun _ => 1) x0).sum + 1) + 1 + 1 ≤ 1048576 := _hk
    have h1 := sum1 x0
    omega
  have hx2 := inKind_i64 (inKind_wf _h2)
  have hx2a := hx2.1
  have hx2b := hx2.2
  clear _h2 hx2
  obtain ⟨hN0, hcb⟩ := Nums.of_rd _h0
  have hx1 := inKind_wf _h1
  generalize hm : x0.length = m at *
  have hmu : m ≤ 1048576 := by
    have h := hbk
    omega
  have HX1 := Lib.hid hx1
  have HN0 := Lib.hid hN0
  have HM := Lib.hid (And.intro hm hmu)
  have hmi : (m : Int) ≤ 1048576 := by omega
  obtain ⟨R, hR⟩ : ∃ R, R = splP x0 x1 := ⟨_, rfl⟩
  have HP1 := Lib.hid (split_is W a0 m c0 x0 x1 hN0 hmu hx1)
  rw [← hR] at HP1
  have HRE := Lib.hid hR
  have HRC : Hid (R.1 ≤ 3) := by show R.1 ≤ 3; rw [hR]; exact splP_code _ _
  clear hN0 hx1 hm hcb hmu hR _h0 _h1 _hk hbk
  go_enter Try.func4, Try.ntmps4
  go_wp2_with fail
  refine HP1.out.mono ?_
  rintro e w1 ⟨vl, Ll, rfl, hpl, hll, hg1⟩
  have HPL := Lib.hid hpl
  have HLL := Lib.hid hll
  have HG1 := Lib.hid hg1
  clear hpl hll hg1 HP1
  have hm := run_mark (P := Try.prog) (w1.alloc (.cells #[.int .u8 97, .int .u8 98, .int .u8 99] 5)) 24 5 #[.int .u8 97, .int .u8 98, .int .u8 99] (0, 0) 3 3 w1.heap.size Try.underlying24 Try.underlying5 (heap_alloc_new w1 _)
  have hlit : Lit8 w1.heap.size 5 [97, 98, 99] (.slice (some ⟨w1.heap.size, 0, none⟩) 3 3) (w1.alloc (.cells #[.int .u8 97, .int .u8 98, .int .u8 99] 5)) := Lit8.new w1.heap.size _ [97, 98, 99] w1 (Nat.le_refl _)
  have q4 : Mark w1.heap.size (w1.alloc (.cells #[.int .u8 97, .int .u8 98, .int .u8 99] 5)) ((w1.alloc (.cells #[.int .u8 97, .int .u8 98, .int .u8 99] 5)).freeze ⟨w1.heap.size, 3, none⟩ 1) := (Mark.refl _).freeze (p := ⟨w1.heap.size, 3, none⟩) (Nat.le_refl _) 1
  have HNL := Lib.hid (lit3_nums (hlit.mark q4))
  have HGx : Hid (Grow w1 ((w1.alloc (.cells #[.int .u8 97, .int .u8 98, .int .u8 99] 5)).freeze ⟨w1.heap.size, 3, none⟩ 1)) := grow_of_below (((Mark.refl w1).alloc _).trans q4).below
  clear hlit q4
  go_wp2_with fail
  clear hm
  generalize (w1.alloc (.cells #[.int .u8 97, .int .u8 98, .int .u8 99] 5)).freeze ⟨w1.heap.size, 3, none⟩ 1 = w2 at *
  have HPP := Lib.hid (split_is w2 (some ⟨w1.heap.size, 0, none⟩) 3 3 [97, 98, 99] 26 HNL.out (by decide) (mk_i64 (by decide) (by decide)))
  refine HPP.out.mono ?_
  rintro e w5 ⟨vp, Lp, rfl, hpp, hlp, hg5⟩
  rw [probe_ok.1]
  have hlp2 : Lp.length = 2 := by have h := congrArg List.length hlp; rw [List.length_map, probe_ok.2] at h; exact h
  obtain ⟨Ap, cp, rfl⟩ := rowf_ci hpp.row
  rw [hlp2]
  have HG15 : Hid (Grow w1 w5) := Grow.trans _ _ _ HGx.out hg5
  have HGW5 : Hid (Grow W w5) := Grow.trans _ _ _ HG1.out HG15.out
  have HPL5 : Hid (Parts w5 W.heap.size vl Ll) := HPL.out.grow HG15.out
  clear hpp hlp hg5 hlp2 HPP HNL HGx HPL
  obtain ⟨er, yss⟩ := R
  obtain ⟨Al, cl, rfl⟩ := rowf_ci HPL5.out.row
  obtain ⟨K, hK⟩ : ∃ K, K = Ll.length := ⟨_, rfl⟩
  rw [← hK]
  have HK := Lib.hid hK
  clear hK
  have heri : (er : Int) ≤ 3 := by have : er ≤ 3 := HRC.out; omega
  by_cases her : er = 0
  rotate_left
  · have hK0 : K = 0 := by
      have h1 : yss = [] := by
        have h9 := splP_bad (xs := x0) (size := x1) (by rw [← HRE.out]; exact her)
        rw [← HRE.out] at h9
        exact h9
      have h2 := congrArg List.length HLL.out
      rw [List.length_map, h1] at h2
      rw [HK.out]; simpa using h2
    have e1 : ((er : Int) == 0) = false := by simp; omega
    have e2 : ¬ (er : Int) = 0 := by omega
    have e3 : ((er : Int) != 0) = true := by simp; omega
    subst hK0
    clear her
    go_wp2_with fail
    go_ret
    exact ⟨rfl, HGW5.out.below (fun _ _ h => h) (Nat.le_refl _)⟩
  · subst her
    obtain ⟨h1, h2, h3, h4⟩ := splP_good (xs := x0) (size := x1) (by rw [← HRE.out])
    rw [← HRE.out] at h4
    simp only at h4
    obtain ⟨sz, hsz⟩ : ∃ sz, sz = (x1 - 24).toNat := ⟨_, rfl⟩
    rw [← hsz] at h1 h2 h3 h4
    have hKc : K = cntP x0.length sz := by
      have h5 := congrArg List.length HLL.out
      simp only at h5
      rw [List.length_map, h4, List.length_map, List.length_range] at h5
      rw [HK.out]; exact h5
    rw [← hKc] at h2 h3 h4
    have HSZ := Lib.hid (And.intro h1 (And.intro h2 (And.intro h3 (And.intro h4 hKc))))
    have HVK : Hid (∀ k, k < K → (Ll.getD k (0, 0, [])).2.2 = volP x0 sz K k) := fun k hk => by
      have h5 := congrArg (fun l : List (List Int) => l[k]?) HLL.out
      simp only at h5
      rw [h4, List.getElem?_map, List.getElem?_map, List.getElem?_range hk, List.getElem?_eq_getElem (by rw [← HK.out]; exact hk)] at h5
      injection h5 with h5
      rw [List.getD_eq_getElem?_getD, List.getElem?_eq_getElem (by rw [← HK.out]; exact hk)]
      exact h5
    have HSUB : Hid (∀ I : List Nat, (∀ i ∈ I, i < K) → I.Nodup → SubV x0 sz K I) := fun I hi hn => ⟨h2, by rw [HM.out.1]; exact HM.out.2, HN0.out.rng, hi, hn⟩
    have hKi : (K : Int) ≤ 1024 := by omega
    have hKi1 : (1 : Int) ≤ (K : Int) := by omega
    have hrow5 := HPL5.out.row
    rw [← HK.out] at hrow5
    have HR5 := Lib.hid hrow5
    obtain ⟨gl, el, hBl, hgl⟩ := own_addr hrow5 (by omega)
    subst el
    have HCL : Hid (∀ k, k < K → w5.cell? ⟨gl, k, none⟩ = some (pV (Ll.getD k (0, 0, [])))) := fun k hk => by
      have h9 := HR5.out.cellAt k (by omega)
      rw [h9, List.getElem?_map, List.getD_eq_getElem?_getD, List.getElem?_eq_getElem (by rw [← HK.out]; exact hk)]
      rfl
    clear h1 h2 h3 h4 hsz hKc hBl hgl hrow5
    obtain ⟨t1, ht1⟩ : ∃ t1, t1 = x2.tmod K := ⟨_, rfl⟩
    have ht1b := tmod_fact x2 K (by omega)
    rw [← ht1] at ht1b
    obtain ⟨r, hr⟩ : ∃ r, r = (t1 + K).toNat % K := ⟨_, rfl⟩
    have hr2 := tmod_pos (t1 + K) K (by omega)
    rw [← hr] at hr2
    have hrK : r < K := by rw [hr]; exact Nat.mod_lt _ (by omega)
    have hrKi : (r : Int) < (K : Int) := by omega
    have ht1' := ht1.symm
    have ht1a := ht1b.1
    have ht1c := ht1b.2
    clear ht1 hr ht1b
    go_wp2_with fail
    go_loopw [12, 13] (fun vs vi wr => ∃ (i : Nat) (As : Option Addr) (cs : Nat), i ≤ K ∧ vi = .int .i64 (i : Nat) ∧ vs = .slice As i cs ∧
      Hid (wr.ownsRow w5.heap.size 24 1 (.slice As i cs) i (((turnI K r i).map fun k => Ll.getD k (0, 0, [])).map pV)) ∧ Hid (Grow w5 wr)) (fun _ vi _ => K - (intOf vi).toNat)
    case atStart => exact ⟨0, none, 0, Nat.zero_le _, rfl, rfl, own_nil _ _ _, Keeps.refl _ _⟩
    case round =>
      obtain ⟨i, As, cs, hi, rfl, rfl, HS, HG⟩ := hrel
      by_cases hiK : i < K
      · have hiK' : (i : Int) < (K : Int) := by omega
        obtain ⟨q, hq⟩ : ∃ q, q = (r + i) % K := ⟨_, rfl⟩
        have hq2 : ((r : Int) + (i : Int)).tmod (K : Int) = (q : Int) := by
          have h9 := tmod_pos ((r : Int) + (i : Int)) K (by omega)
          rw [h9, hq]
          congr 2
        have hqK : q < K := by rw [hq]; exact Nat.mod_lt _ (by omega)
        obtain ⟨p, hp⟩ : ∃ p, p = K - 1 - q := ⟨_, rfl⟩
        have hp2 : (K : Int) - 1 - (q : Int) = (p : Int) := by omega
        have hpK : p < K := by omega
        have hpKi : (p : Int) < (K : Int) := by omega
        have hqKi : (q : Int) < (K : Int) := by omega
        have HP : Hid (p = K - 1 - (r + i) % K) := by show _ = _; rw [hp, hq]
        obtain ⟨t, ht⟩ : ∃ t : Part, t = Ll.getD p (0, 0, []) := ⟨_, rfl⟩
        have hci := ckp (HCL.out p hpK) HG.out (fun h => h)
        rw [← ht] at hci
        unfold pV at hci
        obtain ⟨t1', t2, ys⟩ := t
        simp only at hci
        obtain ⟨ly, hly⟩ : ∃ ly, ly = ys.length := ⟨_, rfl⟩
        rw [← hly] at hci
        have HT := Lib.hid (And.intro ht hly)
        obtain ⟨SL, hSL⟩ : ∃ SL, SL = ((turnI K r i).map fun k => Ll.getD k (0, 0, [])).map pV := ⟨_, rfl⟩
        rw [← hSL] at HS
        have HSL := Lib.hid hSL
        have hsz : w5.heap.size ≤ wr.heap.size := HG.out.size
        clear ht hly hSL hq hp
        go_wp2_with (at_builtin; refine wpList_app1 rfl (.tmp 48) (.tmp 66) 22 24 rfl Try.underlying22 Try.infoSlV rfl w5.heap.size _ i _ rfl HS.out hsz rfl rfl (by unfold maxLen; omega) (by omega) ?_)
        intro g7 cap7 w7 ho7 hk7 _
        have HG7 : Hid (Grow w5 w7) := grow_own HG.out HS.out (Nat.le_refl _) hk7
        have HS7 : Hid (w7.ownsRow w5.heap.size 24 1 (.slice (some ⟨g7, 0, none⟩) (i + 1) cap7) (i + 1) (((turnI K r (i + 1)).map fun k => Ll.getD k (0, 0, [])).map pV)) := by
          show World.ownsRow _ _ _ _ _ _ _
          have hst : turnI K r (i + 1) = turnI K r i ++ [p] := by unfold turnI; rw [List.range_succ, List.map_append, HP.out]; rfl
          rw [hst, List.map_append, List.map_append, ← HSL.out]
          have e9 : pV (Ll.getD p (0, 0, [])) = .slice (some ⟨t1', 0, none⟩) ly t2 := by rw [← HT.out.1]; unfold pV; rw [HT.out.2]
          show w7.ownsRow _ _ _ _ _ (_ ++ [pV (Ll.getD p (0, 0, []))])
          rw [e9]
          exact ho7
        clear ho7 hk7
        go_wp2_with fail
        go_roundw
        case rel => exact ⟨i + 1, some ⟨g7, 0, none⟩, cap7, by omega, by go_num, rfl, HS7.out, HG7.out⟩
        case measure => simp [intOf]; omega
      · obtain rfl : i = K := by omega
        obtain ⟨I, hI⟩ : ∃ I, I = turnI i r i := ⟨_, rfl⟩
        rw [← hI] at HS
        have hIl : ∀ k ∈ I, k < i := by rw [hI]; exact turn_lt (by omega)
        have hIn : I.Nodup := by rw [hI]; exact turn_nd (by omega)
        have hIlen : I.length = i := by rw [hI]; simp [turnI]
        have hIall := all_in hIn hIl hIlen
        have hSub : SubV x0 sz i I := HSUB.out I hIl hIn
        have hmap : (I.map fun k => Ll.getD k (0, 0, [])).map (fun t => t.2.2) = I.map (volP x0 sz i) := by
          rw [List.map_map]
          refine List.map_congr_left fun k hk => ?_
          exact HVK.out k (hSub.lt k hk)
        have htot := hSub.tot
        have hmem : ∀ t ∈ I.map (fun k => Ll.getD k (0, 0, [])), t ∈ Ll := fun t ht => by
          obtain ⟨k, hk, rfl⟩ := List.mem_map.1 ht
          have hkl : k < Ll.length := by have := hSub.lt k hk; rw [← HK.out]; exact this
          rw [List.getD_eq_getElem?_getD, List.getElem?_eq_getElem hkl]
          exact List.getElem_mem hkl
        have hRW := rowsOf (Ts := I.map fun k => Ll.getD k (0, 0, [])) HS.out (fun t ht => owns_keep (HPL5.out.each t (hmem t ht)) HG.out (fun _ _ h => h)) (fun t ht => HPL5.out.rng t (hmem t ht)) (by omega) (by rw [hmap]; exact htot.1)
        rw [hmap] at hRW
        have hTL := hRW.tail (by omega)
        rw [← List.map_tail] at hTL
        have HRW := Lib.hid hRW
        have HTL := Lib.hid hTL
        obtain ⟨p0, hp0⟩ : ∃ p0, I[0]? = some p0 := ⟨_, List.getElem?_eq_getElem (by omega)⟩
        obtain ⟨hlk, hp0K, hp0n⟩ := lack_one hIn hIall hIl hp0
        have hIne : I ≠ [] := fun e => by rw [e] at hIlen; simp at hIlen; omega
        have hJA := hSub.joinAll hIne HSZ.out.1 HSZ.out.2.2.2.2 hIall
        have hSubT : SubV x0 sz i I.tail := HSUB.out I.tail (fun k hk => hIl k (List.mem_of_mem_tail hk)) (List.Pairwise.tail hIn)
        have hJT : joinP (I.tail.map (volP x0 sz i)) = (if i = 1 then 2 else 31, []) := by
          by_cases h1 : i = 1
          · have : I.tail = [] := List.eq_nil_of_length_eq_zero (by rw [List.length_tail, hIlen]; omega)
            rw [this, if_pos h1]
            exact joinP_bad (l := []) (by rw [scanE_nil]; decide)
          · rw [if_neg h1]
            exact hSubT.joinSome (fun e => by have h9 := congrArg List.length e; rw [List.length_tail, hIlen] at h9; simp at h9; omega) hp0K hp0n
        obtain ⟨ec, hec⟩ : ∃ ec : Nat, ec = if i = 1 then 2 else 31 := ⟨_, rfl⟩
        rw [← hec] at hJT
        have HEC := Lib.hid hec
        clear hec
        have hLT : 1 < i → lacksP (I.tail.map (volP x0 sz i)) = (0, [p0]) := fun h1 => by
          rw [hSubT.lacks (fun e => by have h9 := congrArg List.length e; rw [List.length_tail, hIlen] at h9; simp at h9; omega), hlk]
        obtain ⟨gs, es, _, _⟩ := own_addr HS.out (by omega)
        subst es
        have hc0 := HS.out.cellAt 0 (by omega)
        rw [List.getElem?_map, List.getElem?_map, hp0] at hc0
        have hc1 := HCL.out p0 hp0K
        have hc0' : wr.cell? ⟨gs, 0, none⟩ = some (pV (Ll.getD p0 (0, 0, []))) := hc0
        obtain ⟨t, ht⟩ : ∃ t : Part, t = Ll.getD p0 (0, 0, []) := ⟨_, rfl⟩
        have htm : t ∈ Ll := hmem t (by rw [ht]; exact List.mem_map_of_mem (f := fun k => Ll.getD k (0, 0, [])) (List.mem_of_getElem? hp0))
        have hte := HPL5.out.each t htm
        rw [← ht] at hc0' hc1
        unfold pV at hc0' hc1 hte
        have HC0 := Lib.hid (And.intro hc0' (And.intro hc1 hte))
        have HJ := Lib.hid (And.intro hJA (And.intro hJT (And.intro hLT hp0K)))
        have hsl : ∀ w : World, (Instr.slice 22 (.slice (some ⟨gs, 0, none⟩) i cs) (some (.int .i64 1)) none none).run Try.prog w = .ok (.slice (Nums.off (some ⟨gs, 0, none⟩) cs 1) (i - 1) (cs - 1)) w := fun w =>
          run_post (P := Try.prog) (t := 22) Try.underlying22 rfl rfl _ _ _ 1 (by omega) w
        obtain ⟨At, hAt⟩ : ∃ At, At = Nums.off (some ⟨gs, 0, none⟩) cs 1 := ⟨_, rfl⟩
        rw [← hAt] at HTL hsl
        have hp0i : (p0 : Int) < (i : Int) := by omega
        clear hIl hIn hIlen hIall hSub hmap htot hmem hRW hTL hp0 hlk hp0K hp0n hIne hJA hSubT hJT hLT hc0 hc1 hc0' ht htm hte hI hAt
        go_wp2_with fail
        refine (join_v wr (some ⟨gs, 0, none⟩) i cs _ HRW.out).mono ?_
        rintro x w6 ⟨Ax, mx, cx, rfl, hmx, hox, hg6⟩
        rw [HJ.out.1] at hmx hox ⊢
        simp only at hmx hox
        have hmxm : mx = m := by rw [← HM.out.1]; exact hmx
        subst hmxm
        have HOX := Lib.hid hox
        have HG6 := Lib.hid hg6
        clear hmx hox hg6
        go_wp2_with fail
        refine (join_v w6 At (i - 1) (cs - 1) _ (HTL.out.grow HG6.out)).mono ?_
        rintro x w7 ⟨Ay, my, cy, rfl, hmy, hoy, hg7⟩
        rw [HJ.out.2.1] at hmy ⊢
        simp only at hmy
        subst hmy
        have HG7 := Lib.hid hg7
        have HG67 : Hid (Grow wr w7) := Grow.trans _ _ _ HG6.out HG7.out
        clear hoy hg7
        go_wp2_with fail
        refine (lacks_is w7 At (i - 1) (cs - 1) _ (HTL.out.grow HG67.out)).mono ?_
        rintro x w8 ⟨An, mn, cn, rfl, hmn, hon, hg8⟩
        have HMN := Lib.hid (And.intro hmn hon)
        have HG8 := Lib.hid hg8
        have HGr8 : Hid (Grow wr w8) := Grow.trans _ _ _ HG67.out HG8.out
        have HG58 : Hid (Grow w5 w8) := Grow.trans _ _ _ HG.out HGr8.out
        have HGW8 : Hid (Grow W w8) := Grow.trans _ _ _ HGW5.out HG58.out
        clear hmn hon hg8 hsl
        obtain ⟨Z, hZ⟩ : ∃ Z, Z = strOfNums x0 := ⟨_, rfl⟩
        have hcx : ∀ k, (convert 24 9 (.slice Ax mx cx)).run Try.prog (w8.drewN k) = .ok (.string Z) (w8.drewN k) := fun k => by
          rw [hZ]
          exact run_str_src (P := Try.prog) (w := w8.drewN k) (xs := x0) Try.underlying24 Try.underlying5 Try.underlying9 (own_src8 (owns_keep HOX.out ((Grow.trans _ _ _ HG7.out HG8.out).drewN k) (fun _ _ h => h)))
        have hcb : ∀ k, (convert 24 9 (.slice a0 mx c0)).run Try.prog (w8.drewN k) = .ok (.string Z) (w8.drewN k) := fun k => by
          rw [hZ]
          exact run_str_src (P := Try.prog) (w := w8.drewN k) (xs := x0) Try.underlying24 Try.underlying5 Try.underlying9 (HN0.out.grow (HGW8.out.drewN k)).src
        have hcx0 := hcx 0
        have hcb0 := hcb 0
        simp only [World.drewN_zero] at hcx0 hcb0
        have hz2 : (Z.toList == Z.toList) = true := by simp
        by_cases h1 : i = 1
        · have e1 : ((i : Int) == 1) = true := by simp; omega
          have e2 : (i : Int) = 1 := by omega
          have e3 : (i == 1) = true := by simp; omega
          have hec2 : ec = 2 := by rw [HEC.out, if_pos h1]
          subst hec2
          clear h1 hZ
          go_wp2_with fail
          go_ret
          exact ⟨by first | rfl | simp, HGW8.out.below (fun _ _ h => h) (Nat.le_refl _)⟩
        · have e1 : ((i : Int) == 1) = false := by simp; omega
          have e2 : ¬ (i : Int) = 1 := by omega
          have e3 : (i == 1) = false := by simp; omega
          have hec2 : ec = 31 := by rw [HEC.out, if_neg h1]
          subst hec2
          obtain ⟨hmn, hon⟩ := HMN.out
          have hLT := HJ.out.2.2.1 (by omega)
          rw [hLT] at hmn hon ⊢
          simp only at hmn hon
          subst hmn
          obtain ⟨gn, en, _, _⟩ := own_addr hon (by simp)
          subst en
          have hcn := hon.cellAt 0 (by simp)
          have hcn' : w8.cell? ⟨gn, 0, none⟩ = some (.int .i64 (p0 : Nat)) := hcn
          obtain ⟨g0, g1, g2⟩ := HC0.out
          have g0' := ckp g0 HGr8.out (fun h => h)
          have g1' := ckp g1 HG58.out (fun h => h)
          obtain ⟨Y, hY⟩ : ∃ Y, Y = strOfNums t.2.2 := ⟨_, rfl⟩
          obtain ⟨t1v, t2v, ys⟩ := t
          simp only at g0' g1' g2 hY
          obtain ⟨ly, hly⟩ : ∃ ly, ly = ys.length := ⟨_, rfl⟩
          rw [← hly] at g0' g1' g2
          have hcy : ∀ k, (convert 24 9 (.slice (some ⟨t1v, 0, none⟩) ly t2v)).run Try.prog (w8.drewN k) = .ok (.string Y) (w8.drewN k) := fun k => by
            rw [hY]
            exact run_str_src (P := Try.prog) (w := w8.drewN k) (xs := ys) Try.underlying24 Try.underlying5 Try.underlying9 (own_src8 (owns_keep g2 (HG58.out.drewN k) (fun _ _ h => h)))
          have hy2 : (Y.toList == Y.toList) = true := by simp
          have hi1 : (1 : Int) < (i : Int) := by omega
          clear h1 hZ hY hon hcn hLT g0 g1 g2 hly hcx0 hcb0
          go_wp2_with fail
          go_quiet (fail)
          go_wp2_with fail
          go_ret
          exact ⟨by first | rfl | simp, (HGW8.out.drewN _).below (fun _ _ h => h) (Nat.le_refl _)⟩
end Go.Proofs.Ytnjdhkaabpmahaa
