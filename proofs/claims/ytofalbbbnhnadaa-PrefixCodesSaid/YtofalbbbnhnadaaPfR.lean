/- The document's New. -/
import Derived.Test.YtofalbbbnhnadaaPfN
namespace Go.Proofs.Ytofalbbbnhnadaa
open Go.RowKit
set_option linter.unusedVariables false
set_option linter.unusedSimpArgs false

theorem Try.infoRw : (Try.prog.info? 43).map (fun i => (i.zero, i.size, i.bytes)) = some (some (.agg #[.int .u32 0, .int .i64 0]), 2, 16) := by kernel_rfl
/-- What the document's New tells. -/
def RefPost (w : World) (m : Nat) (most : Int) (loose : Bool) (xs : List Int) (e : Ending) (w' : World) : Prop :=
  (okL most m xs = false ∧ e = .returned (.tuple #[.slice none 0 0, .int .i64 2]) ∧ w = w') ∨
  (okL most m xs = true ∧ fullK (toN xs) loose = false ∧ e = .returned (.tuple #[.slice none 0 0, .int .i64 13]) ∧ w = w') ∨
  (okL most m xs = true ∧ fullK (toN xs) loose = true ∧ ∃ gw, e = .returned (.tuple #[.slice (some ⟨gw, 0, none⟩) m m, .int .i64 0]) ∧ w.heap.size ≤ gw ∧ WordsAt w' gw 43 (outK (toN xs) most.toNat).ws ∧ Grow w w')
theorem okL_no {most : Int} {m : Nat} {xs : List Int} (h : most < 1 ∨ 20 < most ∨ m < 1 ∨ 65536 < m) : okL most m xs = false := by
  unfold okL
  rw [decide_eq_false (by omega)]
  rfl
theorem okL_odd {M m : Nat} {xs : List Int} (i : Nat) (hi : i < xs.length) (h : xs.getD i 0 < 0 ∨ (M : Int) < xs.getD i 0) : okL (M : Int) m xs = false := by
  have hmem : xs.getD i 0 ∈ xs := by
    rw [List.getD_eq_getElem?_getD, List.getElem?_eq_getElem hi]
    exact List.getElem_mem hi
  have hany : xs.any (oddL M) = true := List.any_eq_true.2 ⟨_, hmem, by
    unfold oddL
    rcases h with h | h
    · rw [decide_eq_true h]; rfl
    · rw [decide_eq_true h, Bool.or_true]⟩
  unfold okL
  rw [Int.toNat_natCast, hany]
  simp
theorem okL_yes {M m : Nat} {xs : List Int} (h1 : 1 ≤ M) (h2 : M ≤ 20) (h3 : 1 ≤ m) (h4 : m ≤ 65536) (h : ∀ i, i < xs.length → 0 ≤ xs.getD i 0 ∧ xs.getD i 0 ≤ M) : okL (M : Int) m xs = true := by
  unfold okL
  rw [decide_eq_true (by omega), Int.toNat_natCast]
  simp only [Bool.true_and, Bool.not_eq_true']
  rw [Bool.eq_false_iff]
  intro ha
  obtain ⟨x, hx, hp⟩ := List.any_eq_true.1 ha
  obtain ⟨i, hi, rfl⟩ := List.mem_iff_getElem.1 hx
  have := h i hi
  rw [List.getD_eq_getElem?_getD, List.getElem?_eq_getElem hi] at this
  simp [oddL] at hp this
  omega
set_option maxRecDepth 8000 in
set_option maxHeartbeats 4000000 in
theorem refNew_is (w : World) (A : Option Addr) (m c : Nat) (xs : List Int) (hx : Nums .i64 w A m c xs) (most : Int) (loose : Bool) :
    Calls Try.prog 9 #[.slice A m c, .int .i64 most, .bool loose] w fun e w' => RefPost w m most loose xs e w' := by
  by_cases h1 : most < 1
  · have HB := Lib.hid (okL_no (m := m) (xs := xs) (.inl h1))
    clear hx
    go_enter Try.func9, Try.ntmps9
    go_wp2_with fail
    go_ret2
    exact .inl ⟨HB.out, rfl, rfl⟩
  by_cases h2 : 20 < most
  · have HB := Lib.hid (okL_no (m := m) (xs := xs) (.inr (.inl h2)))
    clear hx
    go_enter Try.func9, Try.ntmps9
    go_wp2_with fail
    go_ret2
    exact .inl ⟨HB.out, rfl, rfl⟩
  by_cases h3 : m < 1
  · have HB := Lib.hid (okL_no (most := most) (xs := xs) (.inr (.inr (.inl h3))))
    have h3i : (m : Int) < 1 := by omega
    clear hx h3
    go_enter Try.func9, Try.ntmps9
    go_wp2_with fail
    go_ret2
    exact .inl ⟨HB.out, rfl, rfl⟩
  by_cases h4 : 65536 < m
  · have HB := Lib.hid (okL_no (most := most) (xs := xs) (.inr (.inr (.inr h4))))
    have h4i : (65536 : Int) < (m : Int) := by omega
    clear hx h4
    go_enter Try.func9, Try.ntmps9
    go_wp2_with fail
    go_ret2
    exact .inl ⟨HB.out, rfl, rfl⟩
  obtain ⟨M, rfl⟩ : ∃ M : Nat, most = (M : Int) := ⟨most.toNat, by omega⟩
  have h3i : ¬ (m : Int) < 1 := by omega
  have h4i : ¬ (65536 : Int) < (m : Int) := by omega
  have HX := Lib.hid hx
  have HM := Lib.hid (show 1 ≤ M ∧ M ≤ 20 ∧ 1 ≤ m ∧ m ≤ 65536 from ⟨by omega, by omega, by omega, by omega⟩)
  have HLN : Hid ((toN xs).length = m) := by show _ = _; rw [toN_len, hx.len]
  obtain ⟨POST, hPOST⟩ : ∃ POST, POST = RefPost w m M loose xs := ⟨_, rfl⟩
  have HPO := Lib.hid hPOST
  rw [← hPOST]
  clear hx h3 h4 hPOST
  go_enter Try.func9, Try.ntmps9
  go_wp2_with fail
  have hmi : (m : Int) ≤ 65536 := by have := HM.out.2.2.2; omega
  have hMi : (M : Int) ≤ 20 := by have := HM.out.2.1; omega
  clear h1 h2 h3i h4i
  go_loopw [8, 9, 10, 11] (fun vs vn vo vi wr => ∃ (i S C O : Nat), i ≤ m ∧ vs = .int .i64 S ∧ vn = .int .i64 C ∧ vo = .int .i64 O ∧ vi = .int .i64 i ∧ w = wr ∧ Hid (S = sumK ((toN xs).take i) ∧ C = cntK ((toN xs).take i) ∧ O = oneK ((toN xs).take i)) ∧ Hid (∀ j, j < i → 0 ≤ xs.getD j 0 ∧ xs.getD j 0 ≤ M)) (fun _ _ _ vi _ => m - (intOf vi).toNat)
  case atStart => exact ⟨0, 0, 0, 0, by omega, rfl, rfl, rfl, rfl, rfl, ⟨by simp [sumK], by simp [cntK], by simp [oneK]⟩, fun j hj => by omega⟩
  case round =>
    obtain ⟨i, S, C, O, hi, rfl, rfl, rfl, rfl, rfl, HS, HA⟩ := hrel
    have hlt : ((toN xs).take i).length ≤ i := by rw [List.length_take]; omega
    have hSb : S ≤ 34359738368 := by
      have h1 := sumK_le ((toN xs).take i)
      rw [HS.out.1]
      have := HM.out.2.2.2
      omega
    have hCb : C ≤ 65536 := by
      have h1 := cntK_le ((toN xs).take i)
      rw [HS.out.2.1]
      have := HM.out.2.2.2
      omega
    have hOb : O ≤ 65536 := by
      have h1 := oneK_le ((toN xs).take i)
      rw [HS.out.2.2]
      have := HM.out.2.2.2
      omega
    have hSi : (S : Int) ≤ 34359738368 := by omega
    have hCi : (C : Int) ≤ 65536 := by omega
    have hOi : (O : Int) ≤ 65536 := by omega
    have HSB := Lib.hid (And.intro hSb (And.intro hCb hOb))
    clear hlt hSb hCb hOb
    by_cases hin : i < m
    · obtain ⟨b, o, rfl, hc⟩ := HX.out.at_ (by omega)
      have hcell := hc i hin
      obtain ⟨X, hXX⟩ : ∃ X, X = xs.getD i 0 := ⟨_, rfl⟩
      rw [← hXX] at hcell
      have HXX := Lib.hid hXX
      have hini : (i : Int) < (m : Int) := by omega
      clear hc hXX
      by_cases hx0 : X < 0
      · have HB : Hid (okL (M : Int) m xs = false) := okL_odd i (by rw [HX.out.len]; exact hin) (.inl (by rw [← HXX.out]; exact hx0))
        go_wp2_with fail
        refine (show POST (.returned (.tuple #[.slice none 0 0, .int .i64 2])) w from ?_)
        rw [HPO.out]
        exact .inl ⟨HB.out, rfl, rfl⟩
      by_cases hx1 : (M : Int) < X
      · have HB : Hid (okL (M : Int) m xs = false) := okL_odd i (by rw [HX.out.len]; exact hin) (.inr (by rw [← HXX.out]; exact hx1))
        go_wp2_with fail
        refine (show POST (.returned (.tuple #[.slice none 0 0, .int .i64 2])) w from ?_)
        rw [HPO.out]
        exact .inl ⟨HB.out, rfl, rfl⟩
      obtain ⟨x, rfl⟩ : ∃ x : Nat, X = (x : Int) := ⟨X.toNat, by omega⟩
      have HA2 : Hid (∀ j, j < i + 1 → 0 ≤ xs.getD j 0 ∧ xs.getD j 0 ≤ M) := fun j hj => by
        by_cases h : j = i
        · rw [h, ← HXX.out]; omega
        · exact HA.out j (by omega)
      have hxn := toN_get xs i (by rw [← HXX.out]; omega)
      have HTK : Hid ((toN xs).take (i + 1) = (toN xs).take i ++ [x]) := by
        show _ = _
        rw [take_snoc4 _ i (by rw [HLN.out]; exact hin)]
        rw [← HXX.out] at hxn
        rw [show (toN xs).getD i 0 = x by omega]
      have hxM : (x : Int) ≤ (M : Int) := by omega
      clear hxn hx0 hx1
      by_cases hz : x = 0
      · subst hz
        have HN : Hid (S = sumK ((toN xs).take (i + 1)) ∧ C = cntK ((toN xs).take (i + 1)) ∧ O = oneK ((toN xs).take (i + 1))) := by
          rw [HTK.out, sumK_snoc, cntK_snoc, oneK_snoc, ← HS.out.1, ← HS.out.2.1, ← HS.out.2.2]
          exact ⟨rfl, rfl, rfl⟩
        go_wp2_with fail
        go_roundw
        case rel => exact ⟨i + 1, S, C, O, by omega, rfl, rfl, rfl, by go_num, trivial, HN.out, HA2.out⟩
        case measure => simp [intOf]; omega
      · obtain ⟨q, hq⟩ : ∃ q, q = 20 - x := ⟨_, rfl⟩
        have hq1 : (20 : Int) - (x : Int) = (q : Int) := by omega
        have hq64 : q < 64 := by omega
        obtain ⟨k, hk⟩ : ∃ k, k = 2 ^ q := ⟨_, rfl⟩
        have hkb : k ≤ 1048576 := by rw [hk]; have : 2 ^ q ≤ 2 ^ 20 := Nat.pow_le_pow_right (by omega) (by omega); omega
        have hsw : IntKind.i64.wrap (2 ^ q) = (k : Int) := by
          rw [show ((2 : Int) ^ q) = ((2 ^ q : Nat) : Int) by rw [Int.natCast_pow]; rfl, ← hk, IntKind.wrap_i64]
          omega
        have hki : (k : Int) ≤ 1048576 := by omega
        have HN : Hid (S + k = sumK ((toN xs).take (i + 1)) ∧ C + 1 = cntK ((toN xs).take (i + 1)) ∧ O + (if x = 1 then 1 else 0) = oneK ((toN xs).take (i + 1))) := by
          rw [HTK.out, sumK_snoc, cntK_snoc, oneK_snoc, if_pos (show 0 < x by omega), ← HS.out.1, ← HS.out.2.1, ← HS.out.2.2, kr, if_pos (show 0 < x by omega), ← hq, ← hk]
          exact ⟨rfl, rfl, rfl⟩
        have hx0i : (0 : Int) < (x : Int) := by omega
        by_cases h1x : x = 1
        · subst h1x
          have HN2 : Hid (S + k = sumK ((toN xs).take (i + 1)) ∧ C + 1 = cntK ((toN xs).take (i + 1)) ∧ O + 1 = oneK ((toN xs).take (i + 1))) := by
            have h := HN.out
            rw [if_pos rfl] at h
            exact h
          obtain rfl : q = 19 := by omega
          have hk19 : k = 524288 := by rw [hk]
          subst hk19
          clear hk hkb hq hz HN hq1 hsw hki hq64
          go_wp2_with fail
          go_roundw
          case rel => exact ⟨i + 1, S + 524288, C + 1, O + 1, by omega, by go_num, by go_num, by go_num, by go_num, trivial, HN2.out, HA2.out⟩
          case measure => simp [intOf]; omega
        · have h1b : ((x : Int) == 1) = false := by rw [beq_eq_false_iff_ne]; omega
          have HN2 : Hid (S + k = sumK ((toN xs).take (i + 1)) ∧ C + 1 = cntK ((toN xs).take (i + 1)) ∧ O = oneK ((toN xs).take (i + 1))) := by
            have h := HN.out
            rw [if_neg h1x, Nat.add_zero] at h
            exact h
          clear hk hkb hq hz HN h1x
          go_wp2_with fail
          go_roundw
          case rel => exact ⟨i + 1, S + k, C + 1, O, by omega, by go_num, by go_num, rfl, by go_num, trivial, HN2.out, HA2.out⟩
          case measure => simp [intOf]; omega
    · obtain rfl : m = i := by omega
      clear hin hi
      have HAL : Hid (∀ j, j < m → 0 ≤ xs.getD j 0 ∧ xs.getD j 0 ≤ M) := HA.out
      have HOKL : Hid (okL (M : Int) m xs = true) := okL_yes HM.out.1 HM.out.2.1 HM.out.2.2.1 HM.out.2.2.2 (fun j hj => HA.out j (by rw [HX.out.len] at hj; exact hj))
      have HF : Hid (fullK (toN xs) loose = (decide (S = 1048576) || (loose && (decide (C = 0) || (decide (C = 1) && decide (O = 1)))))) := by
        have h := HS.out
        rw [List.take_of_length_le (by rw [HLN.out]; exact Nat.le_refl _)] at h
        have h20 : ∀ x ∈ toN xs, x ≤ 20 := by
          intro x hx
          obtain ⟨y, hy, rfl⟩ := List.mem_map.1 hx
          obtain ⟨j, hj, rfl⟩ := List.mem_iff_getElem.1 hy
          have h9 := HA.out j (by rw [HX.out.len] at hj; exact hj)
          rw [List.getD_eq_getElem?_getD, List.getElem?_eq_getElem hj] at h9
          have := HM.out.2.1
          simp at h9
          omega
        show _ = _
        rw [fullK_one _ _ h20, h.1, h.2.1, h.2.2]
      clear HS
      by_cases h1 : S = 1048576
      · subst h1
        have HFF : Hid (fullK (toN xs) loose = true) := by show _ = _; rw [HF.out]; simp
        clear HF
        go_wp2_with (refine wpList_makeG rfl (.tmp 93) (.tmp 93) 29 43 rfl Try.underlying29 Try.infoRw m rfl rfl (by have := HM.out.2.2.2; omega) (by have := HM.out.2.2.2; unfold maxLen; omega) ?_)
        generalize hw3 : w.alloc _ = w3
        have HW3 : Hid (WordsAt w3 w.heap.size 43 (outK (toN xs) 0).ws) := by
          show WordsAt _ _ _ (List.replicate (toN xs).length (0, 0))
          rw [← hw3, HLN.out]
          exact WordsAt.made w m 43
        have HG3 : Hid (Grow w w3) := by
          show Keeps _ _ _
          rw [← hw3]
          exact (Keeps.refl _ w).alloc _
        clear hw3
        obtain ⟨gw, hgw⟩ : ∃ gw, gw = w.heap.size := ⟨_, rfl⟩
        have HGW := Lib.hid hgw
        rw [← hgw] at HW3 ⊢
        clear hgw HSB HA
        go_loopw [13, 14] (fun vn vl wr => ∃ (lk : Nat), 1 ≤ lk ∧ lk ≤ M + 1 ∧ vn = .int .u32 ((outK (toN xs) (lk - 1)).next : Nat) ∧ vl = .int .i64 lk ∧ Hid (WordsAt wr gw 43 (outK (toN xs) (lk - 1)).ws) ∧ Hid (Grow w wr)) (fun _ vl _ => M + 1 - (intOf vl).toNat)
        case atStart => exact ⟨1, by omega, by omega, rfl, rfl, HW3.out, HG3.out⟩
        case round =>
          clear HW3 HG3
          obtain ⟨lk, hl0, hl, rfl, rfl, HW, HG⟩ := hrel
          by_cases hlM : lk ≤ M
          · have hli : (lk : Int) ≤ (M : Int) := by omega
            obtain ⟨l, hlk⟩ : ∃ l, lk = l + 1 := ⟨lk - 1, by omega⟩
            have hl1 : lk - 1 = l := by omega
            rw [hl1] at HW ⊢
            obtain ⟨st, hst⟩ : ∃ st, st = outK (toN xs) l := ⟨_, rfl⟩
            have hok := outK_ok (toN xs) l (by have := HM.out.2.1; omega)
            rw [← hst] at HW hok ⊢
            obtain ⟨nx2, hnx2⟩ : ∃ nx2, nx2 = st.up.next := ⟨_, rfl⟩
            have hnb := hok.next
            have en : (st.next : Int) * 2 % 4294967296 = (nx2 : Int) := by rw [hnx2]; show _ = ((st.next * 2 % 4294967296 : Nat) : Int); omega
            have HUP : Hid (nx2 = st.up.next) := hnx2
            have HSTL := Lib.hid (And.intro hst hlk)
            generalize hnxo : st.next = nxo at *
            have hnbi : (nxo : Int) < 4294967296 := by omega
            clear hst hlk hnx2 hok hnb hnxo hl1
            go_wp2_with fail
            go_loopw [13, 15] (fun vn vi wr => ∃ (k : Nat) (s1 : Cn), k ≤ m ∧ vn = .int .u32 (s1.next : Nat) ∧ vi = .int .i64 k ∧ Hid (WordsAt wr gw 43 s1.ws) ∧ Hid (Grow w wr) ∧ Hid (s1 = inK (toN xs) lk k st.up)) (fun _ vi _ => m - (intOf vi).toNat)
            case atStart => exact ⟨0, st.up, by omega, by first | rfl | exact congrArg (Value.int .u32) (by rw [← HUP.out]; exact en) | (rw [← HUP.out]), rfl, HW.out, HG.out, rfl⟩
            case round =>
              clear HW HG
              obtain ⟨k, s1, hk, rfl, rfl, HW, HG, HS1⟩ := hrel
              have hok1 : s1.Ok := by
                rw [HS1.out]
                have h1 := HSTL.out
                have h2 := HM.out
                exact inK_ok _ _ _ (up_ok (h1.1 ▸ outK_ok (toN xs) l (by omega))) (by omega) (by omega) k
              have hw1l : s1.ws.length = m := by
                rw [HS1.out, (inK_facts (toN xs) lk st.up k).1]
                show st.ws.length = m
                rw [HSTL.out.1, (outK_facts (toN xs) l).1, HLN.out]
              obtain ⟨nx, hnx⟩ : ∃ nx, nx = s1.next := ⟨_, rfl⟩
              have hnb := hok1.next
              rw [← hnx] at hnb ⊢
              have HNX := Lib.hid hnx
              have HW1 := Lib.hid (And.intro hw1l hnb)
              clear hok1 hw1l hnx hnb
              by_cases hkm : k < m
              · have hxn := HX.out.grow HG.out
                obtain ⟨b, o, rfl, hc⟩ := hxn.at_ (by omega)
                have hcell := hc k hkm
                have hx6 := HAL.out k hkm
                have hxg := toN_get xs k hx6.1
                obtain ⟨x, hxx⟩ : ∃ x, x = (toN xs).getD k 0 := ⟨_, rfl⟩
                rw [← hxx] at hxg
                rw [← hxg] at hcell
                have HXX := Lib.hid hxx
                have hki : (k : Int) < (m : Int) := by omega
                clear hxn hc hx6 hxg hxx
                by_cases hxl : x = lk
                · have HXL := Lib.hid hxl
                  have hxb : ((x : Int) == (lk : Int)) = true := by rw [hxl]; simp
                  clear hxl
                  have hnb := HW1.out.2
                  obtain ⟨pr, hpr⟩ : ∃ pr, s1.ws[k]? = some pr := ⟨s1.ws[k]'(by rw [HW1.out.1]; exact hkm), List.getElem?_eq_getElem _⟩
                  obtain ⟨z0, z1⟩ := HW.out.cell0 k pr hpr
                  have fz0 := HW.out.frozen (k * 2)
                  have fz1 := HW.out.frozen (k * 2 + 1)
                  obtain ⟨nx3, hnx3⟩ : ∃ nx3, nx3 = (nx + 1) % 4294967296 := ⟨_, rfl⟩
                  have en3 : ((nx : Int) + 1) % 4294967296 = (nx3 : Int) := by omega
                  have HWS : Hid (WordsAt ((wr.setCell ⟨gw, k * 2, none⟩ (.int .u32 (nx : Nat))).setCell ⟨gw, k * 2 + 1, none⟩ (.int .i64 (lk : Nat))) gw 43 (s1.ws.set k (nx, lk))) := HW.out.set k (by rw [HW1.out.1]; exact hkm) nx lk
                  have HGS : Hid (Grow w ((wr.setCell ⟨gw, k * 2, none⟩ (.int .u32 (nx : Nat))).setCell ⟨gw, k * 2 + 1, none⟩ (.int .i64 (lk : Nat)))) := Keeps.trans HG.out (Keeps.trans (keep1 _ _ _ _) (keep1 _ _ _ _) fun _ _ h => h) fun i hi h9 => by have := HGW.out; omega
                  have HN : Hid ((⟨nx3, s1.ws.set k (nx, lk), s1.srt ++ [k]⟩ : Cn) = inK (toN xs) lk (k + 1) st.up) := by
                    show _ = stp lk (inK (toN xs) lk k st.up) k ((toN xs).getD k 0)
                    rw [← HS1.out, ← HXX.out, stp, if_pos HXL.out, ← HNX.out, ← hnx3]
                  clear hnx3
                  go_wp2_with fail
                  go_roundw
                  case rel => exact ⟨k + 1, ⟨nx3, s1.ws.set k (nx, lk), s1.srt ++ [k]⟩, by omega, by first | rfl | exact congrArg (Value.int .u32) en3, by go_num, HWS.out, HGS.out, HN.out⟩
                  case measure => simp [intOf]; omega
                · have hxb : ((x : Int) == (lk : Int)) = false := by rw [beq_eq_false_iff_ne]; omega
                  have HN : Hid (s1 = inK (toN xs) lk (k + 1) st.up) := by
                    show _ = stp lk (inK (toN xs) lk k st.up) k ((toN xs).getD k 0)
                    rw [← HS1.out, ← HXX.out, stp, if_neg hxl]
                  clear hxl
                  go_wp2_with fail
                  go_roundw
                  case rel => exact ⟨k + 1, s1, by omega, by rw [HNX.out], by go_num, HW.out, HG.out, HN.out⟩
                  case measure => simp [intOf]; omega
              · obtain rfl : k = m := by omega
                have HO : Hid (s1 = outK (toN xs) (l + 1)) := by
                  show _ = inK (toN xs) (l + 1) (toN xs).length (outK (toN xs) l).up
                  rw [HS1.out, HSTL.out.1, HSTL.out.2, HLN.out]
                have HLK : Hid (lk + 1 - 1 = l + 1) := by have e1 := HSTL.out.2; show _ = _; omega
                go_wp2_with fail
                go_roundw
                case rel => exact ⟨lk + 1, by omega, by omega, by rw [HLK.out, ← HO.out, HNX.out], by go_num, by rw [HLK.out, ← HO.out]; exact HW.out, HG.out⟩
                case measure => simp [intOf]; omega
          · obtain rfl : lk = M + 1 := by omega
            have hMM : M + 1 - 1 = M := by omega
            rw [hMM] at HW
            clear hMM hlM hl hl0
            have hli : ¬ ((M : Int) + 1 ≤ (M : Int)) := by omega
            go_wp2_with fail
            refine (show POST (.returned (.tuple #[.slice (some ⟨gw, 0, none⟩) m m, .int .i64 0])) wr from ?_)
            rw [HPO.out]
            refine .inr (.inr ⟨HOKL.out, HFF.out, gw, rfl, ?_, ?_, HG.out⟩)
            · rw [HGW.out]; exact Nat.le_refl _
            · rw [Int.toNat_natCast]; exact HW.out
      have h1b : ((S : Int) == 1048576) = false := by rw [beq_eq_false_iff_ne]; omega
      have h1c : ¬ (S : Int) = 1048576 := by omega
      have h1e : (S == 1048576) = false := by rw [beq_eq_false_iff_ne]; omega
      have h1d : ((S : Int) != 1048576) = true := by simp; omega
      have HF2 : Hid (fullK (toN xs) loose = (loose && (decide (C = 0) || (decide (C = 1) && decide (O = 1))))) := by
        show _ = _
        rw [HF.out, decide_eq_false h1]
        rfl
      cases loose
      · have HFF : Hid (fullK (toN xs) false = false) := by show _ = _; rw [HF2.out]; rfl
        clear HF
        go_wp2_with fail
        refine (show POST (.returned (.tuple #[.slice none 0 0, .int .i64 13])) w from ?_)
        rw [HPO.out]
        exact .inr (.inl ⟨HOKL.out, HFF.out, rfl, rfl⟩)
      by_cases h2 : C = 0
      · subst h2
        have HFF : Hid (fullK (toN xs) true = true) := by show _ = _; rw [HF2.out]; rfl
        clear HF
        go_wp2_with (refine wpList_makeG rfl (.tmp 93) (.tmp 93) 29 43 rfl Try.underlying29 Try.infoRw m rfl rfl (by have := HM.out.2.2.2; omega) (by have := HM.out.2.2.2; unfold maxLen; omega) ?_)
        generalize hw3 : w.alloc _ = w3
        have HW3 : Hid (WordsAt w3 w.heap.size 43 (outK (toN xs) 0).ws) := by
          show WordsAt _ _ _ (List.replicate (toN xs).length (0, 0))
          rw [← hw3, HLN.out]
          exact WordsAt.made w m 43
        have HG3 : Hid (Grow w w3) := by
          show Keeps _ _ _
          rw [← hw3]
          exact (Keeps.refl _ w).alloc _
        clear hw3
        obtain ⟨gw, hgw⟩ : ∃ gw, gw = w.heap.size := ⟨_, rfl⟩
        have HGW := Lib.hid hgw
        rw [← hgw] at HW3 ⊢
        clear hgw HSB HA
        go_loopw [13, 14] (fun vn vl wr => ∃ (lk : Nat), 1 ≤ lk ∧ lk ≤ M + 1 ∧ vn = .int .u32 ((outK (toN xs) (lk - 1)).next : Nat) ∧ vl = .int .i64 lk ∧ Hid (WordsAt wr gw 43 (outK (toN xs) (lk - 1)).ws) ∧ Hid (Grow w wr)) (fun _ vl _ => M + 1 - (intOf vl).toNat)
        case atStart => exact ⟨1, by omega, by omega, rfl, rfl, HW3.out, HG3.out⟩
        case round =>
          clear HW3 HG3
          obtain ⟨lk, hl0, hl, rfl, rfl, HW, HG⟩ := hrel
          by_cases hlM : lk ≤ M
          · have hli : (lk : Int) ≤ (M : Int) := by omega
            obtain ⟨l, hlk⟩ : ∃ l, lk = l + 1 := ⟨lk - 1, by omega⟩
            have hl1 : lk - 1 = l := by omega
            rw [hl1] at HW ⊢
            obtain ⟨st, hst⟩ : ∃ st, st = outK (toN xs) l := ⟨_, rfl⟩
            have hok := outK_ok (toN xs) l (by have := HM.out.2.1; omega)
            rw [← hst] at HW hok ⊢
            obtain ⟨nx2, hnx2⟩ : ∃ nx2, nx2 = st.up.next := ⟨_, rfl⟩
            have hnb := hok.next
            have en : (st.next : Int) * 2 % 4294967296 = (nx2 : Int) := by rw [hnx2]; show _ = ((st.next * 2 % 4294967296 : Nat) : Int); omega
            have HUP : Hid (nx2 = st.up.next) := hnx2
            have HSTL := Lib.hid (And.intro hst hlk)
            generalize hnxo : st.next = nxo at *
            have hnbi : (nxo : Int) < 4294967296 := by omega
            clear hst hlk hnx2 hok hnb hnxo hl1
            go_wp2_with fail
            go_loopw [13, 15] (fun vn vi wr => ∃ (k : Nat) (s1 : Cn), k ≤ m ∧ vn = .int .u32 (s1.next : Nat) ∧ vi = .int .i64 k ∧ Hid (WordsAt wr gw 43 s1.ws) ∧ Hid (Grow w wr) ∧ Hid (s1 = inK (toN xs) lk k st.up)) (fun _ vi _ => m - (intOf vi).toNat)
            case atStart => exact ⟨0, st.up, by omega, by first | rfl | exact congrArg (Value.int .u32) (by rw [← HUP.out]; exact en) | (rw [← HUP.out]), rfl, HW.out, HG.out, rfl⟩
            case round =>
              clear HW HG
              obtain ⟨k, s1, hk, rfl, rfl, HW, HG, HS1⟩ := hrel
              have hok1 : s1.Ok := by
                rw [HS1.out]
                have h1 := HSTL.out
                have h2 := HM.out
                exact inK_ok _ _ _ (up_ok (h1.1 ▸ outK_ok (toN xs) l (by omega))) (by omega) (by omega) k
              have hw1l : s1.ws.length = m := by
                rw [HS1.out, (inK_facts (toN xs) lk st.up k).1]
                show st.ws.length = m
                rw [HSTL.out.1, (outK_facts (toN xs) l).1, HLN.out]
              obtain ⟨nx, hnx⟩ : ∃ nx, nx = s1.next := ⟨_, rfl⟩
              have hnb := hok1.next
              rw [← hnx] at hnb ⊢
              have HNX := Lib.hid hnx
              have HW1 := Lib.hid (And.intro hw1l hnb)
              clear hok1 hw1l hnx hnb
              by_cases hkm : k < m
              · have hxn := HX.out.grow HG.out
                obtain ⟨b, o, rfl, hc⟩ := hxn.at_ (by omega)
                have hcell := hc k hkm
                have hx6 := HAL.out k hkm
                have hxg := toN_get xs k hx6.1
                obtain ⟨x, hxx⟩ : ∃ x, x = (toN xs).getD k 0 := ⟨_, rfl⟩
                rw [← hxx] at hxg
                rw [← hxg] at hcell
                have HXX := Lib.hid hxx
                have hki : (k : Int) < (m : Int) := by omega
                clear hxn hc hx6 hxg hxx
                by_cases hxl : x = lk
                · have HXL := Lib.hid hxl
                  have hxb : ((x : Int) == (lk : Int)) = true := by rw [hxl]; simp
                  clear hxl
                  have hnb := HW1.out.2
                  obtain ⟨pr, hpr⟩ : ∃ pr, s1.ws[k]? = some pr := ⟨s1.ws[k]'(by rw [HW1.out.1]; exact hkm), List.getElem?_eq_getElem _⟩
                  obtain ⟨z0, z1⟩ := HW.out.cell0 k pr hpr
                  have fz0 := HW.out.frozen (k * 2)
                  have fz1 := HW.out.frozen (k * 2 + 1)
                  obtain ⟨nx3, hnx3⟩ : ∃ nx3, nx3 = (nx + 1) % 4294967296 := ⟨_, rfl⟩
                  have en3 : ((nx : Int) + 1) % 4294967296 = (nx3 : Int) := by omega
                  have HWS : Hid (WordsAt ((wr.setCell ⟨gw, k * 2, none⟩ (.int .u32 (nx : Nat))).setCell ⟨gw, k * 2 + 1, none⟩ (.int .i64 (lk : Nat))) gw 43 (s1.ws.set k (nx, lk))) := HW.out.set k (by rw [HW1.out.1]; exact hkm) nx lk
                  have HGS : Hid (Grow w ((wr.setCell ⟨gw, k * 2, none⟩ (.int .u32 (nx : Nat))).setCell ⟨gw, k * 2 + 1, none⟩ (.int .i64 (lk : Nat)))) := Keeps.trans HG.out (Keeps.trans (keep1 _ _ _ _) (keep1 _ _ _ _) fun _ _ h => h) fun i hi h9 => by have := HGW.out; omega
                  have HN : Hid ((⟨nx3, s1.ws.set k (nx, lk), s1.srt ++ [k]⟩ : Cn) = inK (toN xs) lk (k + 1) st.up) := by
                    show _ = stp lk (inK (toN xs) lk k st.up) k ((toN xs).getD k 0)
                    rw [← HS1.out, ← HXX.out, stp, if_pos HXL.out, ← HNX.out, ← hnx3]
                  clear hnx3
                  go_wp2_with fail
                  go_roundw
                  case rel => exact ⟨k + 1, ⟨nx3, s1.ws.set k (nx, lk), s1.srt ++ [k]⟩, by omega, by first | rfl | exact congrArg (Value.int .u32) en3, by go_num, HWS.out, HGS.out, HN.out⟩
                  case measure => simp [intOf]; omega
                · have hxb : ((x : Int) == (lk : Int)) = false := by rw [beq_eq_false_iff_ne]; omega
                  have HN : Hid (s1 = inK (toN xs) lk (k + 1) st.up) := by
                    show _ = stp lk (inK (toN xs) lk k st.up) k ((toN xs).getD k 0)
                    rw [← HS1.out, ← HXX.out, stp, if_neg hxl]
                  clear hxl
                  go_wp2_with fail
                  go_roundw
                  case rel => exact ⟨k + 1, s1, by omega, by rw [HNX.out], by go_num, HW.out, HG.out, HN.out⟩
                  case measure => simp [intOf]; omega
              · obtain rfl : k = m := by omega
                have HO : Hid (s1 = outK (toN xs) (l + 1)) := by
                  show _ = inK (toN xs) (l + 1) (toN xs).length (outK (toN xs) l).up
                  rw [HS1.out, HSTL.out.1, HSTL.out.2, HLN.out]
                have HLK : Hid (lk + 1 - 1 = l + 1) := by have e1 := HSTL.out.2; show _ = _; omega
                go_wp2_with fail
                go_roundw
                case rel => exact ⟨lk + 1, by omega, by omega, by rw [HLK.out, ← HO.out, HNX.out], by go_num, by rw [HLK.out, ← HO.out]; exact HW.out, HG.out⟩
                case measure => simp [intOf]; omega
          · obtain rfl : lk = M + 1 := by omega
            have hMM : M + 1 - 1 = M := by omega
            rw [hMM] at HW
            clear hMM hlM hl hl0
            have hli : ¬ ((M : Int) + 1 ≤ (M : Int)) := by omega
            go_wp2_with fail
            refine (show POST (.returned (.tuple #[.slice (some ⟨gw, 0, none⟩) m m, .int .i64 0])) wr from ?_)
            rw [HPO.out]
            refine .inr (.inr ⟨HOKL.out, HFF.out, gw, rfl, ?_, ?_, HG.out⟩)
            · rw [HGW.out]; exact Nat.le_refl _
            · rw [Int.toNat_natCast]; exact HW.out
      have h2b : ((C : Int) == 0) = false := by rw [beq_eq_false_iff_ne]; omega
      by_cases h3 : C = 1
      · subst h3
        by_cases h4 : O = 1
        · subst h4
          have HFF : Hid (fullK (toN xs) true = true) := by show _ = _; rw [HF2.out]; rfl
          clear HF
          go_wp2_with (refine wpList_makeG rfl (.tmp 93) (.tmp 93) 29 43 rfl Try.underlying29 Try.infoRw m rfl rfl (by have := HM.out.2.2.2; omega) (by have := HM.out.2.2.2; unfold maxLen; omega) ?_)
          generalize hw3 : w.alloc _ = w3
          have HW3 : Hid (WordsAt w3 w.heap.size 43 (outK (toN xs) 0).ws) := by
            show WordsAt _ _ _ (List.replicate (toN xs).length (0, 0))
            rw [← hw3, HLN.out]
            exact WordsAt.made w m 43
          have HG3 : Hid (Grow w w3) := by
            show Keeps _ _ _
            rw [← hw3]
            exact (Keeps.refl _ w).alloc _
          clear hw3
          obtain ⟨gw, hgw⟩ : ∃ gw, gw = w.heap.size := ⟨_, rfl⟩
          have HGW := Lib.hid hgw
          rw [← hgw] at HW3 ⊢
          clear hgw HSB HA
          go_loopw [13, 14] (fun vn vl wr => ∃ (lk : Nat), 1 ≤ lk ∧ lk ≤ M + 1 ∧ vn = .int .u32 ((outK (toN xs) (lk - 1)).next : Nat) ∧ vl = .int .i64 lk ∧ Hid (WordsAt wr gw 43 (outK (toN xs) (lk - 1)).ws) ∧ Hid (Grow w wr)) (fun _ vl _ => M + 1 - (intOf vl).toNat)
          case atStart => exact ⟨1, by omega, by omega, rfl, rfl, HW3.out, HG3.out⟩
          case round =>
            clear HW3 HG3
            obtain ⟨lk, hl0, hl, rfl, rfl, HW, HG⟩ := hrel
            by_cases hlM : lk ≤ M
            · have hli : (lk : Int) ≤ (M : Int) := by omega
              obtain ⟨l, hlk⟩ : ∃ l, lk = l + 1 := ⟨lk - 1, by omega⟩
              have hl1 : lk - 1 = l := by omega
              rw [hl1] at HW ⊢
              obtain ⟨st, hst⟩ : ∃ st, st = outK (toN xs) l := ⟨_, rfl⟩
              have hok := outK_ok (toN xs) l (by have := HM.out.2.1; omega)
              rw [← hst] at HW hok ⊢
              obtain ⟨nx2, hnx2⟩ : ∃ nx2, nx2 = st.up.next := ⟨_, rfl⟩
              have hnb := hok.next
              have en : (st.next : Int) * 2 % 4294967296 = (nx2 : Int) := by rw [hnx2]; show _ = ((st.next * 2 % 4294967296 : Nat) : Int); omega
              have HUP : Hid (nx2 = st.up.next) := hnx2
              have HSTL := Lib.hid (And.intro hst hlk)
              generalize hnxo : st.next = nxo at *
              have hnbi : (nxo : Int) < 4294967296 := by omega
              clear hst hlk hnx2 hok hnb hnxo hl1
              go_wp2_with fail
              go_loopw [13, 15] (fun vn vi wr => ∃ (k : Nat) (s1 : Cn), k ≤ m ∧ vn = .int .u32 (s1.next : Nat) ∧ vi = .int .i64 k ∧ Hid (WordsAt wr gw 43 s1.ws) ∧ Hid (Grow w wr) ∧ Hid (s1 = inK (toN xs) lk k st.up)) (fun _ vi _ => m - (intOf vi).toNat)
              case atStart => exact ⟨0, st.up, by omega, by first | rfl | exact congrArg (Value.int .u32) (by rw [← HUP.out]; exact en) | (rw [← HUP.out]), rfl, HW.out, HG.out, rfl⟩
              case round =>
                clear HW HG
                obtain ⟨k, s1, hk, rfl, rfl, HW, HG, HS1⟩ := hrel
                have hok1 : s1.Ok := by
                  rw [HS1.out]
                  have h1 := HSTL.out
                  have h2 := HM.out
                  exact inK_ok _ _ _ (up_ok (h1.1 ▸ outK_ok (toN xs) l (by omega))) (by omega) (by omega) k
                have hw1l : s1.ws.length = m := by
                  rw [HS1.out, (inK_facts (toN xs) lk st.up k).1]
                  show st.ws.length = m
                  rw [HSTL.out.1, (outK_facts (toN xs) l).1, HLN.out]
                obtain ⟨nx, hnx⟩ : ∃ nx, nx = s1.next := ⟨_, rfl⟩
                have hnb := hok1.next
                rw [← hnx] at hnb ⊢
                have HNX := Lib.hid hnx
                have HW1 := Lib.hid (And.intro hw1l hnb)
                clear hok1 hw1l hnx hnb
                by_cases hkm : k < m
                · have hxn := HX.out.grow HG.out
                  obtain ⟨b, o, rfl, hc⟩ := hxn.at_ (by omega)
                  have hcell := hc k hkm
                  have hx6 := HAL.out k hkm
                  have hxg := toN_get xs k hx6.1
                  obtain ⟨x, hxx⟩ : ∃ x, x = (toN xs).getD k 0 := ⟨_, rfl⟩
                  rw [← hxx] at hxg
                  rw [← hxg] at hcell
                  have HXX := Lib.hid hxx
                  have hki : (k : Int) < (m : Int) := by omega
                  clear hxn hc hx6 hxg hxx
                  by_cases hxl : x = lk
                  · have HXL := Lib.hid hxl
                    have hxb : ((x : Int) == (lk : Int)) = true := by rw [hxl]; simp
                    clear hxl
                    have hnb := HW1.out.2
                    obtain ⟨pr, hpr⟩ : ∃ pr, s1.ws[k]? = some pr := ⟨s1.ws[k]'(by rw [HW1.out.1]; exact hkm), List.getElem?_eq_getElem _⟩
                    obtain ⟨z0, z1⟩ := HW.out.cell0 k pr hpr
                    have fz0 := HW.out.frozen (k * 2)
                    have fz1 := HW.out.frozen (k * 2 + 1)
                    obtain ⟨nx3, hnx3⟩ : ∃ nx3, nx3 = (nx + 1) % 4294967296 := ⟨_, rfl⟩
                    have en3 : ((nx : Int) + 1) % 4294967296 = (nx3 : Int) := by omega
                    have HWS : Hid (WordsAt ((wr.setCell ⟨gw, k * 2, none⟩ (.int .u32 (nx : Nat))).setCell ⟨gw, k * 2 + 1, none⟩ (.int .i64 (lk : Nat))) gw 43 (s1.ws.set k (nx, lk))) := HW.out.set k (by rw [HW1.out.1]; exact hkm) nx lk
                    have HGS : Hid (Grow w ((wr.setCell ⟨gw, k * 2, none⟩ (.int .u32 (nx : Nat))).setCell ⟨gw, k * 2 + 1, none⟩ (.int .i64 (lk : Nat)))) := Keeps.trans HG.out (Keeps.trans (keep1 _ _ _ _) (keep1 _ _ _ _) fun _ _ h => h) fun i hi h9 => by have := HGW.out; omega
                    have HN : Hid ((⟨nx3, s1.ws.set k (nx, lk), s1.srt ++ [k]⟩ : Cn) = inK (toN xs) lk (k + 1) st.up) := by
                      show _ = stp lk (inK (toN xs) lk k st.up) k ((toN xs).getD k 0)
                      rw [← HS1.out, ← HXX.out, stp, if_pos HXL.out, ← HNX.out, ← hnx3]
                    clear hnx3
                    go_wp2_with fail
                    go_roundw
                    case rel => exact ⟨k + 1, ⟨nx3, s1.ws.set k (nx, lk), s1.srt ++ [k]⟩, by omega, by first | rfl | exact congrArg (Value.int .u32) en3, by go_num, HWS.out, HGS.out, HN.out⟩
                    case measure => simp [intOf]; omega
                  · have hxb : ((x : Int) == (lk : Int)) = false := by rw [beq_eq_false_iff_ne]; omega
                    have HN : Hid (s1 = inK (toN xs) lk (k + 1) st.up) := by
                      show _ = stp lk (inK (toN xs) lk k st.up) k ((toN xs).getD k 0)
                      rw [← HS1.out, ← HXX.out, stp, if_neg hxl]
                    clear hxl
                    go_wp2_with fail
                    go_roundw
                    case rel => exact ⟨k + 1, s1, by omega, by rw [HNX.out], by go_num, HW.out, HG.out, HN.out⟩
                    case measure => simp [intOf]; omega
                · obtain rfl : k = m := by omega
                  have HO : Hid (s1 = outK (toN xs) (l + 1)) := by
                    show _ = inK (toN xs) (l + 1) (toN xs).length (outK (toN xs) l).up
                    rw [HS1.out, HSTL.out.1, HSTL.out.2, HLN.out]
                  have HLK : Hid (lk + 1 - 1 = l + 1) := by have e1 := HSTL.out.2; show _ = _; omega
                  go_wp2_with fail
                  go_roundw
                  case rel => exact ⟨lk + 1, by omega, by omega, by rw [HLK.out, ← HO.out, HNX.out], by go_num, by rw [HLK.out, ← HO.out]; exact HW.out, HG.out⟩
                  case measure => simp [intOf]; omega
            · obtain rfl : lk = M + 1 := by omega
              have hMM : M + 1 - 1 = M := by omega
              rw [hMM] at HW
              clear hMM hlM hl hl0
              have hli : ¬ ((M : Int) + 1 ≤ (M : Int)) := by omega
              go_wp2_with fail
              refine (show POST (.returned (.tuple #[.slice (some ⟨gw, 0, none⟩) m m, .int .i64 0])) wr from ?_)
              rw [HPO.out]
              refine .inr (.inr ⟨HOKL.out, HFF.out, gw, rfl, ?_, ?_, HG.out⟩)
              · rw [HGW.out]; exact Nat.le_refl _
              · rw [Int.toNat_natCast]; exact HW.out
        · have h4b : ((O : Int) == 1) = false := by rw [beq_eq_false_iff_ne]; omega
          have HFF : Hid (fullK (toN xs) true = false) := by show _ = _; rw [HF2.out]; simp [h4]
          clear h4
          clear HF
          go_wp2_with fail
          refine (show POST (.returned (.tuple #[.slice none 0 0, .int .i64 13])) w from ?_)
          rw [HPO.out]
          exact .inr (.inl ⟨HOKL.out, HFF.out, rfl, rfl⟩)
      · have h3b : ((C : Int) == 1) = false := by rw [beq_eq_false_iff_ne]; omega
        have HFF : Hid (fullK (toN xs) true = false) := by show _ = _; rw [HF2.out]; simp [h2, h3]
        clear h2 h3
        clear HF
        go_wp2_with fail
        refine (show POST (.returned (.tuple #[.slice none 0 0, .int .i64 13])) w from ?_)
        rw [HPO.out]
        exact .inr (.inl ⟨HOKL.out, HFF.out, rfl, rfl⟩)
end Go.Proofs.Ytofalbbbnhnadaa
