/- volume.Split, walked. -/
import Derived.Test.YtnjdhkaabpmahaaVsP
namespace Go.Proofs.Ytnjdhkaabpmahaa
open Go.RowKit
set_option linter.unusedVariables false
set_option linter.unusedSimpArgs false

/-- A share: a slice of bytes. -/
def Share (w : World) (u : Value) (ys : List Int) : Prop := ∃ A m c, u = .slice A m c ∧ Nums .u8 w A m c ys
theorem Share.grow {w w' : World} {u : Value} {ys : List Int} (h : Share w u ys) (k : Grow w w') : Share w' u ys := by
  obtain ⟨A, m, c, e, hn⟩ := h
  exact ⟨A, m, c, e, hn.grow k⟩
/-- The shares' row. -/
def Shares (w : World) (v : Value) (xs : List Int) (sz cnt : Nat) : Prop :=
  ∃ g c, v = .slice (some ⟨g, 0, none⟩) cnt c ∧ ∀ i, i < cnt → ∃ u, w.cell? ⟨g, i, none⟩ = some u ∧ Share w u ((xs.drop (i * sz)).take sz)
theorem Shares.grow {w w' : World} {v : Value} {xs : List Int} {sz cnt : Nat} (h : Shares w v xs sz cnt) (k : Grow w w') : Shares w' v xs sz cnt := by
  obtain ⟨g, c, e, hs⟩ := h
  refine ⟨g, c, e, fun i hi => ?_⟩
  obtain ⟨u, hu, hsh⟩ := hs i hi
  exact ⟨u, ckp hu k (fun h => h), hsh.grow k⟩
theorem shares_chunks {w : World} {A : Option Addr} {n c sz b o B : Nat} {xs : List Int} {v : Value} (h : Nums .u8 w A n c xs) (hA : 0 < n → A = some ⟨b, o, none⟩) (hsz : 1 ≤ sz) (hrow : w.ownsRow B 24 1 v (chkN n sz) ((List.range (chkN n sz)).map (chkV b o n sz))) (h0 : chkN n sz ≠ 0) : Shares w v xs sz (chkN n sz) := by
  obtain ⟨hl, h2⟩ := hrow
  rcases h2 with ⟨_, h2⟩ | ⟨g, cap, cur, rfl, hB, hh, hnc, hcm, hcs, hx⟩
  · exact absurd h2 h0
  · refine ⟨g, cap, rfl, fun i hi => ⟨chkV b o n sz i, ?_, ?_⟩⟩
    · have h8 : w.ownsRow B 24 1 (.slice (some ⟨g, 0, none⟩) (chkN n sz) cap) (chkN n sz) ((List.range (chkN n sz)).map (chkV b o n sz)) := ⟨hl, .inr ⟨g, cap, cur, rfl, hB, hh, hnc, hcm, hcs, hx⟩⟩
      have h9 := h8.cellAt i (by omega)
      rw [h9]
      simp [List.getElem?_map, List.getElem?_range hi]
    · have hp : i * sz < n := (chkN_lt (by omega)).2 hi
      obtain rfl := hA (by omega)
      have hd := (h.drop (i * sz) (by omega)).take (min sz (n - i * sz)) (by omega)
      refine ⟨_, _, _, rfl, ?_⟩
      have e1 : (xs.drop (i * sz)).take (min sz (n - i * sz)) = (xs.drop (i * sz)).take sz := by
        rw [← List.take_take, List.take_of_length_le (l := xs.drop (i * sz)) (by rw [List.length_drop, h.len]; exact Nat.le_refl _)]
      rw [e1] at hd
      refine ⟨hd.len, hd.rng, Nat.le_refl _, fun e => (by cases e), fun hm => ?_⟩
      obtain ⟨b1, o1, e2, hc1⟩ := hd.at_ hm
      have hcap := h.cap
      unfold Nums.off at e2
      rw [if_neg (by omega)] at e2
      have ha : (⟨b, o, none⟩ : Addr).add (i * sz) = ⟨b, o + i * sz, none⟩ := by simp [Addr.add]
      have e3 : some ((⟨b, o, none⟩ : Addr).add (i * sz)) = some ⟨b1, o1, none⟩ := e2
      rw [ha] at e3
      injection e3 with e3
      injection e3 with e4 e5
      subst e4
      subst e5
      exact ⟨b, o + i * sz, rfl, hc1⟩
theorem Parts.base {w : World} {B B' : Nat} {v : Value} {L : List Part} (h : Parts w B v L) (hB : B' ≤ B) : Parts w B' v L := ⟨owns_any_base h.row hB, fun t ht => owns_any_base (h.each t ht) hB, h.rng, h.up⟩
set_option maxRecDepth 8000 in
set_option maxHeartbeats 4000000 in
theorem split_is (w : World) (A : Option Addr) (n c : Nat) (xs : List Int) (size : Int) (h : Nums .u8 w A n c xs) (hn : n ≤ 1048576) (hk : inKind .i64 size) :
    Calls Try.prog 15 #[.slice A n c, .int .i64 size] w fun e w' => SplPost w (splP xs size) e w' := by
  obtain ⟨R, hR⟩ : ∃ R, R = splP xs size := ⟨_, rfl⟩
  have HRR := Lib.hid hR
  rw [← hR]
  obtain ⟨POST, hPOST⟩ : ∃ POST : Ending → World → Prop, POST = fun e w' => SplPost w R e w' := ⟨_, rfl⟩
  have HPO := Lib.hid hPOST
  show Calls _ _ _ _ fun e w' => (fun e w' => SplPost w R e w') e w'
  rw [← hPOST]
  have hk1 : (-9223372036854775808 : Int) ≤ size ∧ size ≤ 9223372036854775807 := hk
  have HN := Lib.hid h
  have HNB := Lib.hid hn
  have hni : (n : Int) ≤ 1048576 := by omega
  by_cases hbad : size ≤ 24 ∨ 1073741824 < size
  · have hr : R = (2, []) := by rw [hR]; unfold splP; rw [if_pos hbad]
    have HR := Lib.hid hr
    clear hR hPOST h hk hr hn
    rcases (show size ≤ 24 ∨ (24 < size ∧ 1073741824 < size) by omega) with hb | hb
    · have q1 : decide (size ≤ 24) = true := decide_eq_true hb
      clear hbad hk1
      go_enter Try.func15, Try.ntmps15
      go_wp2_with fail
      try go_ret2
      show POST (.returned (.tuple #[.slice none 0 0, .int .i64 (2 : Nat)])) _
      rw [HPO.out, HR.out]
      exact ⟨_, [], rfl, Parts.nil _ _, rfl, Keeps.refl _ _⟩
    · have q1 : decide (size ≤ 24) = false := decide_eq_false (by omega)
      have q2 : decide (1073741824 < size) = true := decide_eq_true hb.2
      clear hbad hk1
      go_enter Try.func15, Try.ntmps15
      go_wp2_with fail
      try go_ret2
      show POST (.returned (.tuple #[.slice none 0 0, .int .i64 (2 : Nat)])) _
      rw [HPO.out, HR.out]
      exact ⟨_, [], rfl, Parts.nil _ _, rfl, Keeps.refl _ _⟩
  · obtain ⟨sz, hsz⟩ : ∃ sz : Nat, size - 24 = (sz : Int) := ⟨(size - 24).toNat, by omega⟩
    have hsz1 : 1 ≤ sz := by omega
    have hsz2 : sz ≤ 1073741824 := by omega
    have hto : (size - 24).toNat = sz := by omega
    have hr : R = if 1024 < cntP n sz then (3, []) else (0, (List.range (cntP n sz)).map (volP xs sz (cntP n sz))) := by rw [hR]; unfold splP; rw [if_neg hbad, hto, h.len]
    have HR := Lib.hid hr
    obtain ⟨b, o, hA⟩ : ∃ b o, 0 < n → A = some ⟨b, o, none⟩ := by
      rcases Nat.eq_zero_or_pos n with rfl | hp
      · exact ⟨0, 0, fun h => absurd h (by decide)⟩
      · obtain ⟨b, o, e, _⟩ := h.at_ hp
        exact ⟨b, o, fun _ => e⟩
    have HA := Lib.hid hA
    have q1 : decide (size ≤ 24) = false := decide_eq_false (by omega)
    have q2 : decide (1073741824 < size) = false := decide_eq_false (by omega)
    have HSZ := Lib.hid (And.intro hsz1 hsz2)
    have hszb : size ≤ 1073741824 := by omega
    have hszl : 24 < size := by omega
    have hcap := h.cap
    have HCAP := Lib.hid hcap
    clear hR hPOST h hk hr hn hbad hk1 hto hA HRR hcap
    go_enter Try.func15, Try.ntmps15
    go_wp2_with fail
    refine (chunk_is w A n c sz HSZ.out.1).mono ?_
    rintro x w2 ⟨rfl, hw2⟩
    have hG2 : Grow w w2 := by rw [hw2]; exact ((Keeps.refl _ w).alloc _).alloc _
    have hb1 : w2.cell? ⟨w.heap.size, 0, none⟩ = some (.slice A n c) := by rw [hw2]; go_simp
    have hb2 : w2.cell? ⟨w.heap.size + 1, 0, none⟩ = some (.int .i64 (sz : Nat)) := by rw [hw2]; go_simp
    have hz2 : w2.heap.size = w.heap.size + 2 := by rw [hw2]; simp
    have HCo := Lib.hid (collect_is w2 w.heap.size (w.heap.size + 1) A n c sz b o HA.out HCAP.out HNB.out HSZ.out.1 HSZ.out.2 (by omega) (by omega) hb1 hb2)
    have HG2 := Lib.hid hG2
    clear hw2 hG2 hb1 hb2 hz2
    go_wp2_with fail
    refine HCo.out.mono ?_
    rintro x w3 ⟨v, rfl, ho3, hg3⟩
    have HG3 : Hid (Grow w w3) := Grow.trans _ _ _ HG2.out hg3
    have HO3 := Lib.hid ho3
    obtain ⟨As, cs, rfl⟩ := rowf_ci ho3
    clear hg3 ho3 HCo HG2
    go_upto_if 24 with fail
    go_cut [6] from 25 to 25 (fun s wx => Shares wx s xs sz (cntP n sz) ∧ Grow w wx)
    case first =>
      by_cases h0 : chkN n sz = 0
      · have q3 : ((chkN n sz : Int) == 0) = true := by simp [h0]
        have q4 : decide ((chkN n sz : Int) = 0) = true := decide_eq_true (by omega)
        have hn0 : n = 0 := by
          have h9 := (chkN_lt (n := n) (k := 0) (by have := HSZ.out; omega : 0 < sz))
          omega
        have hx0 : xs = [] := List.eq_nil_of_length_eq_zero (by rw [HN.out.len]; exact hn0)
        have hc1 : cntP n sz = 1 := if_pos h0
        have HS : Hid (∀ w4, w4 = w3.alloc (.cells #[.slice none 0 0] 24) → Shares w4 (.slice (some ⟨w3.heap.size, 0, none⟩) 1 1) xs sz (cntP n sz)) := fun w4 hw => by
          rw [hc1]
          refine ⟨w3.heap.size, 1, rfl, fun i hi => ⟨.slice none 0 0, ?_, none, 0, 0, rfl, ?_⟩⟩
          · obtain rfl : i = 0 := by omega
            rw [hw]; go_simp
          · rw [hx0]
            simpa using (⟨rfl, by simp, Nat.le_refl _, fun _ => rfl, fun h => absurd h (by decide)⟩ : Nums .u8 w4 none 0 0 [])
        clear h0 hn0 hx0 hc1
        go_wp2_with fail
        go_meet
        exact ⟨HS.out _ rfl, HG3.out.alloc _⟩
      · have q3 : ((chkN n sz : Int) == 0) = false := by simp; omega
        have q4 : decide ((chkN n sz : Int) = 0) = false := decide_eq_false (by omega)
        have HS : Hid (Shares w3 (.slice As (chkN n sz) cs) xs sz (cntP n sz)) := by
          show Shares _ _ _ _ _
          rw [show cntP n sz = chkN n sz from if_neg h0]
          exact shares_chunks (HN.out.grow HG3.out) HA.out HSZ.out.1 HO3.out h0
        clear h0
        go_wp2_with fail
        go_meet
        exact ⟨HS.out, HG3.out⟩
    case rest =>
      obtain ⟨⟨gS, cS, rfl, hsh⟩, hgc⟩ := hcut
      have HSH : Hid (Shares wc (.slice (some ⟨gS, 0, none⟩) (cntP n sz) cS) xs sz (cntP n sz)) := ⟨gS, cS, rfl, hsh⟩
      have HGc := Lib.hid hgc
      have hcb : cntP n sz ≤ 1048577 := by
        unfold cntP
        split
        · decide
        · have := chkN_le (n := n) HSZ.out.1; have := HNB.out; omega
      obtain ⟨cnt, hcnt⟩ : ∃ cnt, cnt = cntP n sz := ⟨_, rfl⟩
      rw [← hcnt] at HSH HR hcb ⊢
      have hcbi : (cnt : Int) ≤ 1048577 := by omega
      have HCN := Lib.hid (And.intro hcnt hcb)
      clear hsh hgc hcnt hcb HO3 HG3
      by_cases hbig : 1024 < cnt
      · have hr := HR.out
        rw [if_pos hbig] at hr
        replace HR := Lib.hid hr
        have q5 : decide ((1024 : Int) < (cnt : Int)) = true := decide_eq_true (by omega)
        have q6 : decide ((268435456 : Int) < (n : Int)) = false := decide_eq_false (by omega)
        clear hr hbig
        go_wp2_with fail
        try go_ret2
        show POST (.returned (.tuple #[.slice none 0 0, .int .i64 (3 : Nat)])) _
        rw [HPO.out, HR.out]
        exact ⟨_, [], rfl, Parts.nil _ _, rfl, HGc.out⟩
      · have hr := HR.out
        rw [if_neg hbig] at hr
        replace HR := Lib.hid hr
        have q5 : decide ((1024 : Int) < (cnt : Int)) = false := decide_eq_false (by omega)
        have q6 : decide ((268435456 : Int) < (n : Int)) = false := decide_eq_false (by omega)
        have hc1024 : cnt ≤ 1024 := by omega
        clear hr hbig hcbi
        have HC := Lib.hid (crc32_is wc 0 A n c _ (by decide) (bs_of_nums (HN.out.grow HGc.out)) (by have := HNB.out; omega))
        obtain ⟨S, hS⟩ : ∃ S, S = crcP xs := ⟨_, rfl⟩
        have hSb : S < 4294967296 := by rw [hS]; exact not32_lt _ (crcAll_lt _ (by decide) _ (bs_of_nums HN.out).2.1 _ (not32_lt 0 (by decide)))
        have hSe : not32 (crcAll 3988292384 (not32 0) (xs.map Int.toNat)) = S := by rw [hS]; rfl
        rw [hSe] at HC
        have HS := Lib.hid (And.intro hS hSb)
        have hSi : (S : Int) < 4294967296 := by omega
        clear hS hSb hSe
        go_wp2_with fail
        refine HC.out.mono ?_
        rintro x w5 ⟨rfl, hg5⟩
        have HG5 : Hid (Grow w w5) := Grow.trans _ _ _ HGc.out hg5
        have HSH5 := Lib.hid (HSH.out.grow hg5)
        clear hg5 HC HSH HGc
        go_wp2_with fail
        have hga := heap_alloc_new w5 (.cells #[.int .i64 0, .int .i64 (cnt : Nat), .int .i64 (n : Nat), .int .u32 (S : Nat)] 49)
        have hg6 : Grow w5 (w5.alloc (.cells #[.int .i64 0, .int .i64 (cnt : Nat), .int .i64 (n : Nat), .int .u32 (S : Nat)] 49)) := (Keeps.refl _ w5).alloc _
        generalize w5.alloc (.cells #[.int .i64 0, .int .i64 (cnt : Nat), .int .i64 (n : Nat), .int .u32 (S : Nat)] 49) = w6 at *
        obtain ⟨gh, hgh⟩ : ∃ gh, gh = w5.heap.size := ⟨_, rfl⟩
        rw [← hgh] at hga ⊢
        have HG6 : Hid (Grow w w6) := Grow.trans _ _ _ HG5.out hg6
        have HGH : Hid (gh < w6.heap.size ∧ w.heap.size ≤ gh) := ⟨blk_lt hga, by rw [hgh]; exact HG5.out.size⟩
        have HB6 := Lib.hid hga
        have HK6 : Hid (Keeps (fun k => k = gh) w5 w6) := gk hg6
        have HGE : Hid (gh = w5.heap.size) := hgh
        clear hga hg6 hgh
        obtain ⟨B, hB⟩ : ∃ B, B = w6.heap.size := ⟨_, rfl⟩
        have HBE := Lib.hid hB
        have HBG : Hid (gh < B) := by show _ < _; rw [hB]; exact HGH.out.1
        clear hB
        go_loopw [8, 9, 10, 43] (fun vl _ _ vi wr => ∃ (i : Nat) (L : List Part) (q : Nat), i ≤ cnt ∧ vi = .int .i64 i ∧ Hid (Parts wr B vl L) ∧ Hid (L.length = i ∧ L.map (fun t => t.2.2) = (List.range i).map (volP xs sz cnt)) ∧ Hid (Keeps (fun k => k = gh) w5 wr ∧ B ≤ wr.heap.size) ∧ Hid (wr.heap[gh]? = some (.cells #[.int .i64 (q : Nat), .int .i64 (cnt : Nat), .int .i64 (n : Nat), .int .u32 (S : Nat)] 49 (0, 0)))) (fun _ _ _ vi _ => cnt - (intOf vi).toNat)
        case atStart => exact ⟨0, [], 0, Nat.zero_le _, rfl, Parts.nil _ _, ⟨rfl, rfl⟩, ⟨HK6.out, by rw [HBE.out]; exact Nat.le_refl _⟩, HB6.out⟩
        case round =>
          obtain ⟨i, L, q, hi, rfl, HP, HL, HK, HB⟩ := hrel
          obtain ⟨Al, cl, rfl⟩ := rowf_ci HP.out.row
          have HGr : Hid (Grow w5 wr) := HK.out.1.mono (fun i hi h9 => by have h9 : i = gh := h9; have := HGE.out; omega)
          by_cases hic : i < cnt
          · obtain ⟨u, hu5, hsh⟩ : ∃ u, w5.cell? ⟨gS, i, none⟩ = some u ∧ Share w5 u ((xs.drop (i * sz)).take sz) := by
              obtain ⟨g9, c9, e9, hs9⟩ := HSH5.out
              injection e9 with e9 _ _
              injection e9 with e9
              injection e9 with e9 _
              subst e9
              exact hs9 i hic
            obtain ⟨ys, hys⟩ : ∃ ys, ys = (xs.drop (i * sz)).take sz := ⟨_, rfl⟩
            rw [← hys] at hsh
            have HY := Lib.hid hys
            clear hys
            obtain ⟨Ao, mo, co, rfl, hno⟩ := hsh
            have HNO := Lib.hid hno
            have hu := ckp hu5 HGr.out (fun h => h)
            clear hu5
            have hic' : (i : Int) < (cnt : Int) := by omega
            have hii : (i : Int) ≤ 1024 := by omega
            have d0 := blk_cell HB.out 0
            have f0 := blk_frozen HB.out 0
            simp at d0
            clear hno
            go_upto_region 14 with fail
            have hb7 := blk_set HB.out 0 (.int .i64 (i : Nat))
            simp at hb7
            have hk7 : Keeps (fun k => k = gh) wr (wr.setCell ⟨gh, 0, none⟩ (.int .i64 (i : Nat))) := Keeps.setCell (S := fun k => k = gh) (Keeps.refl _ wr) (p := ⟨gh, 0, none⟩) (fun _ => rfl) _
            clear d0 f0 hu
            generalize wr.setCell ⟨gh, 0, none⟩ (.int .i64 (i : Nat)) = w7 at *
            have HB7 := Lib.hid hb7
            have HK7 : Hid (Keeps (fun k => k = gh) w5 w7) := Keeps.trans HK.out.1 hk7 fun _ _ h => h
            have HP7 := Lib.hid (HP.out.keep hk7 (fun b hb _ h9 => by have h9 : b = gh := h9; have := HBG.out; omega))
            have HG7 : Hid (Grow w5 w7) := HK7.out.mono (fun i hi h9 => by have h9 : i = gh := h9; have := HGE.out; omega)
            have HNO7 := Lib.hid (HNO.out.grow HG7.out)
            have HLT7 : Hid (∀ s ∈ L, s.1 < w7.heap.size) := fun s hs => row_lt (HP7.out.each s hs) s.1 rfl
            have HZ7 : Hid (B ≤ w7.heap.size) := Nat.le_trans HK.out.2 hk7.size
            have e0 := blk_cell hb7 0
            have e1 := blk_cell hb7 1
            have e2 := blk_cell hb7 2
            have e3 := blk_cell hb7 3
            simp at e0 e1 e2 e3
            clear hk7 hb7 HP HK HB HNO HGr
            have HH := Lib.hid (head_is w7 i cnt n S (by omega) (by omega) (by have := HNB.out; omega) HS.out.2)
            go_wp2_with fail
            refine HH.out.mono ?_
            rintro x w8 ⟨A8, c8, rfl, ho8, hg8⟩
            have HO8 : Hid (w8.ownsRow w7.heap.size 5 1 (.slice A8 24 c8) 24 ((hdP i cnt n S).map (Value.int .u8))) := ho8
            have HG8 := Lib.hid hg8
            have HSR := Lib.hid (HNO7.out.grow hg8).src
            have hz8 := hg8.size
            have hmo : mo ≤ 1048576 := by
              have h1 := HNO7.out.len
              have h2 := HN.out.len
              rw [HY.out, List.length_take, List.length_drop] at h1
              have := HNB.out
              omega
            clear ho8 hg8 HH e0 e1 e2 e3
            go_wp2_with (at_builtin; refine wpList_appS rfl (.tmp 52) (.tmp 53) 24 5 rfl Try.underlying24 Try.infoU8l rfl (by decide) w7.heap.size _ 24 _ rfl HO8.out hz8 Ao mo co _ rfl HSR.out (by unfold maxLen; omega) (by omega) ?_)
            intro A9 c9 w9 ho9 k9 _
            have hg9 : Grow w7 w9 := grow_own HG8.out HO8.out (Nat.le_refl _) k9
            have HP9 := Lib.hid (HP7.out.grow hg9)
            obtain ⟨g9, e9⟩ : ∃ g9, A9 = some ⟨g9, 0, none⟩ := by
              rcases ho9.2 with ⟨_, h0⟩ | ⟨g9, cap9, cur9, e9, _⟩
              · omega
              · injection e9 with e9 _ _
                exact ⟨g9, e9⟩
            subst e9
            have HO9 : Hid (w9.ownsRow w7.heap.size 5 1 (.slice (some ⟨g9, 0, none⟩) (24 + mo) c9) (24 + mo) ((hdP i cnt n S ++ ys).map (Value.int .u8))) := by
              show World.ownsRow _ _ _ _ _ _ _
              rw [List.map_append]; exact ho9
            have HG9 := Lib.hid hg9
            have hz9 : B ≤ w9.heap.size := Nat.le_trans HZ7.out hg9.size
            have hLL : L.length ≤ 1024 := by have := HL.out.1; omega
            clear ho9 k9 hg9 HO8 HG8 HSR hz8 HP7
            go_wp2_with (at_builtin; refine wpList_app1 rfl (.tmp 50) (.tmp 55) 22 24 rfl Try.underlying22 Try.infoSl rfl B _ L.length _ rfl HP9.out.row hz9 rfl rfl (by unfold maxLen; omega) (by omega) ?_)
            intro gl cap w10 ho10 k10 _
            have hlt9 : (hdP i cnt n S ++ ys).length = 24 + mo := by rw [List.length_append, hdP_len, HNO7.out.len]
            have hg9b : w7.heap.size ≤ g9 := own_ge HO9.out g9 rfl
            have HP10 : Hid (Parts w10 B (.slice (some ⟨gl, 0, none⟩) (L.length + 1) cap) (L ++ [(g9, c9, hdP i cnt n S ++ ys)])) := by
              refine HP9.out.snoc k10 (g9, c9, hdP i cnt n S ++ ys) ?_ ?_ ?_ ?_
              · have h9 := owns_any_base HO9.out HZ7.out
                show w9.ownsRow B _ _ (.slice (some ⟨g9, 0, none⟩) (hdP i cnt n S ++ ys).length c9) (hdP i cnt n S ++ ys).length _
                rw [hlt9]; exact h9
              · intro x hx
                rcases List.mem_append.1 hx with hx | hx
                · exact hdP_rng _ _ _ _ x hx
                · exact HNO7.out.rng x hx
              · intro s hs
                have h1 : s.1 < w7.heap.size := HLT7.out s hs
                show s.1 < g9
                omega
              · have h9 : pV (g9, c9, hdP i cnt n S ++ ys) = .slice (some ⟨g9, 0, none⟩) (24 + mo) c9 := by unfold pV; rw [hlt9]
                rw [h9]; exact ho10
            have hk10 : Keeps (fun k => k = gh) w5 w10 := Keeps.trans (Keeps.trans HK7.out HG9.out fun _ _ h => h.elim) k10 fun b hb h9 => by
              have h1 := own_ge HP9.out.row b h9
              have h2 := HBG.out
              have h3 := HGE.out
              omega
            have hb10 : w10.heap[gh]? = some (.cells #[.int .i64 (i : Nat), .int .i64 (cnt : Nat), .int .i64 (n : Nat), .int .u32 (S : Nat)] 49 (0, 0)) := block_keep (block_keep HB7.out HG9.out (fun h => h)) k10 (fun h9 => by have h1 := own_ge HP9.out.row gh h9; have h2 := HBG.out; omega)
            have HL10 : Hid ((L ++ [(g9, c9, hdP i cnt n S ++ ys)]).length = i + 1 ∧ (L ++ [(g9, c9, hdP i cnt n S ++ ys)]).map (fun t => t.2.2) = (List.range (i + 1)).map (volP xs sz cnt)) := by
              refine ⟨by rw [List.length_append, HL.out.1]; rfl, ?_⟩
              rw [List.map_append, HL.out.2, List.range_succ, List.map_append]
              congr 1
              show [hdP i cnt n S ++ ys] = [volP xs sz cnt i]
              unfold volP
              rw [HY.out, HS.out.1, HN.out.len]
            have HK10 := Lib.hid (And.intro hk10 (Nat.le_trans hz9 k10.size))
            have HB10 := Lib.hid hb10
            obtain ⟨ll, hll⟩ : ∃ ll, ll = L.length := ⟨_, rfl⟩
            have HLi : Hid (ll = i) := by show _ = _; rw [hll, HL.out.1]
            rw [← hll] at HP10 ⊢
            clear ho10 k10 hk10 hb10 hlt9 hg9b hz9 hLL hll
            go_wp2_with fail
            go_roundw
            case rel => exact ⟨i + 1, L ++ [(g9, c9, hdP i cnt n S ++ ys)], i, by omega, by go_num, HP10.out, HL10.out, HK10.out, HB10.out⟩
            case measure => simp [intOf]; omega
          · obtain rfl : i = cnt := by omega
            have HGw : Hid (Grow w wr) := Grow.trans _ _ _ HG5.out HGr.out
            have HR2 := HR.out
            clear HGr
            go_wp2_with fail
            try go_ret2
            show POST (.returned (.tuple #[.slice Al L.length cl, .int .i64 (0 : Nat)])) _
            rw [HPO.out, HR.out]
            exact ⟨_, L, rfl, HP.out.base (by have := HBG.out; have := HGH.out.2; omega), HL.out.2, HGw.out⟩
end Go.Proofs.Ytnjdhkaabpmahaa
