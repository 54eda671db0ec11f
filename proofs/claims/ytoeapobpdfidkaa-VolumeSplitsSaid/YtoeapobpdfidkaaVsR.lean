/- The document's Split, walked. -/
import Derived.Test.YtoeapobpdfidkaaVsS
namespace Go.Proofs.Ytoeapobpdfidkaa
open Go.RowKit
set_option linter.unusedVariables false
set_option linter.unusedSimpArgs false

theorem rlow_is (w : World) (v n : Nat) (hv : v < 18446744073709551616) (hn8 : n ≤ 8) :
    Calls Try.prog 56 #[.int .u64 (v : Nat), .int .i64 (n : Nat)] w fun e w' => ∃ A' c', e = .returned (.slice A' n c') ∧ w'.ownsRow w.heap.size 5 1 (.slice A' n c') n ((leN v n).map (Value.int .u8)) ∧ Grow w w' := by
  have H := Lib.hid (bytes_is w v n hv hn8)
  clear hv hn8
  go_enter Try.func56, Try.ntmps56
  go_wp2_with fail
  refine H.out.mono ?_
  rintro x w1 ⟨A', c', rfl, ho, hg⟩
  have HO := Lib.hid ho
  have HG := Lib.hid hg
  clear ho hg H
  go_wp2_with fail
  go_ret
  exact ⟨A', c', rfl, HO.out, HG.out⟩
theorem row_len {w : World} {B : Nat} {v : Value} {L : List Part} (h : Parts w B v L) : ∀ s ∈ L, s.1 < w.heap.size := fun s hs => row_lt (h.each s hs) s.1 rfl
theorem wpList_appN {P : Program} {w : World} {ops : Array Oper} {rest : List Oper} {o : Oper} {a : Act} {Q : Exit → Act → World → Prop}
    (hg : o.guard = none) (s x : Operand) (t e : TypeId) (hop : o.op = Op.call { callee := Callee.builtin Builtin.append, args := #[s, x], argTypes := #[t, t] })
    {z : Value} {size bytes : Nat} (h1 : P.underlying t = some (.slice e)) (hinfo : (P.info? e).map (fun i => (i.zero, i.size, i.bytes)) = some (some z, size, bytes)) (h6 : z.cells.size = size) (h7 : 0 < size)
    (A0 : Option Addr) (n c0 : Nat) (xs : List Value) (hs : a.eval s = .slice A0 n c0) (hold : Src w size A0 n c0 xs)
    (A : Option Addr) (m c : Nat) (news : List Value) (hx : a.eval x = .slice A m c) (hsrc : Src w size A m c news) (hm : 0 < m) (hfull : c0 < n + m)
    (b1 : n + m ≤ maxLen) (b2 : (n + m) * bytes ≤ 140737488355328)
    (hK : ∀ A' c' w', w'.ownsRow w.heap.size e size (.slice A' (n + m) c') (n + m) (xs ++ news) → Grow w w' → wpList P ops Q rest (a.put o.dst (.slice A' (n + m) c')) w') :
    wpList P ops Q (o :: rest) a w := by
  obtain ⟨i, hi, hz, h4, h5⟩ := info_parts hinfo
  obtain ⟨hn, hnone, hcells, h1c⟩ := hsrc
  cases A with
  | none => have := (hnone rfl).1; omega
  | some ad =>
    refine wpList_append_grows w hg s x t hop e i z size bytes h1 hi hz h4 h5 h6 h7 A0 n c0 xs hs hold.2.1 hold.1 hold.2.2.1 ad m c news hx hn (hcells ad rfl) h1c hfull b1 b2 fun v' w' ho hgr => ?_
    rcases ho.2 with ⟨_, h0⟩ | ⟨g, cap', cur, hv', _⟩
    · omega
    · subst hv'
      exact hK _ _ w' ho ⟨hgr.os, hgr.tape, hgr.output, hgr.size, fun k hk _ => hgr.block k hk (by simp)⟩
set_option maxRecDepth 8000 in
set_option maxHeartbeats 4000000 in
theorem rSplit_is (w : World) (A : Option Addr) (n c : Nat) (xs : List Int) (size : Int) (h : Nums .u8 w A n c xs) (hn : n ≤ 1048576) (hk : inKind .i64 size) :
    Calls Try.prog 35 #[.slice A n c, .int .i64 size] w fun e w' => SplPost w (splP xs size) e w' := by
  obtain ⟨R, hR⟩ : ∃ R, R = splP xs size := ⟨_, rfl⟩
  have HRR := Lib.hid hR
  rw [← hR]
  obtain ⟨POST, hPOST⟩ : ∃ POST : Ending → World → Prop, POST = fun e w' => SplPost w R e w' := ⟨_, rfl⟩
  have HPO := Lib.hid hPOST
  show Calls _ _ _ _ fun e w' => (fun e w' => SplPost w R e w') e w'
  rw [← hPOST]
  have hk1 : (-9223372036854775808 : Int) ≤ size ∧ size ≤ 9223372036854775807 := hk
  have HN := Lib.hid h
  have HNB := Lib.hid hn
  have hni : (n : Int) ≤ 1048576 := by omega
  by_cases hbad : size ≤ 24 ∨ 1073741824 < size
  · have hr : R = (2, []) := by rw [hR]; unfold splP; rw [if_pos hbad]
    have HR := Lib.hid hr
    clear hR hPOST h hk hr hn
    rcases (show size ≤ 24 ∨ (24 < size ∧ 1073741824 < size) by omega) with hb | hb
    · have q1 : decide (size < 25) = true := decide_eq_true (by omega)
      clear hbad hk1
      go_enter Try.func35, Try.ntmps35
      go_wp2_with fail
      try go_ret2
      show POST (.returned (.tuple #[.slice none 0 0, .int .i64 (2 : Nat)])) _
      rw [HPO.out, HR.out]
      exact ⟨_, [], rfl, Parts.nil _ _, rfl, Keeps.refl _ _⟩
    · have q1 : decide (size < 25) = false := decide_eq_false (by omega)
      have q2 : decide (1073741824 < size) = true := decide_eq_true hb.2
      clear hbad hk1
      go_enter Try.func35, Try.ntmps35
      go_wp2_with fail
      try go_ret2
      show POST (.returned (.tuple #[.slice none 0 0, .int .i64 (2 : Nat)])) _
      rw [HPO.out, HR.out]
      exact ⟨_, [], rfl, Parts.nil _ _, rfl, Keeps.refl _ _⟩
  · obtain ⟨sz, hsz⟩ : ∃ sz : Nat, size - 24 = (sz : Int) := ⟨(size - 24).toNat, by omega⟩
    have hsz1 : 1 ≤ sz := by omega
    have hsz2 : sz ≤ 1073741824 := by omega
    have hto : (size - 24).toNat = sz := by omega
    have hr : R = if 1024 < cntP n sz then (3, []) else (0, (List.range (cntP n sz)).map (volP xs sz (cntP n sz))) := by rw [hR]; unfold splP; rw [if_neg hbad, hto, h.len]
    have HR := Lib.hid hr
    have q1 : decide (size < 25) = false := decide_eq_false (by omega)
    have q2 : decide (1073741824 < size) = false := decide_eq_false (by omega)
    have HSZ := Lib.hid (And.intro hsz1 hsz2)
    have hszb : size ≤ 1073741824 := by omega
    have hszl : 24 < size := by omega
    have hszi : (sz : Int) ≤ 1073741824 := by omega
    have hszi1 : (1 : Int) ≤ (sz : Int) := by omega
    have hcap := h.cap
    have HCAP := Lib.hid hcap
    obtain ⟨d, hd⟩ : ∃ d, d = n + sz - 1 := ⟨_, rfl⟩
    have hdi : (n : Int) + (sz : Int) - 1 = (d : Int) := by omega
    have hq : d / sz = chkN n sz := by rw [hd]; rfl
    have hdb : (d : Int) ≤ 1074790400 := by omega
    obtain ⟨q, hqe⟩ : ∃ q, q = chkN n sz := ⟨_, rfl⟩
    have hqi : (d : Int) / (sz : Int) = (q : Int) := by rw [hqe, ← hq]; exact (Int.natCast_ediv d sz).symm
    have hqn : q ≤ n := by rw [hqe]; exact chkN_le hsz1
    have hqb : (q : Int) ≤ 1048576 := by omega
    obtain ⟨cnt, hcnt⟩ : ∃ cnt, cnt = cntP n sz := ⟨_, rfl⟩
    have hcq : cnt = if q = 0 then 1 else q := by rw [hcnt, hqe]; rfl
    rw [← hcnt] at HR
    have HCQ := Lib.hid (And.intro hcq (And.intro hqe hcnt))
    clear hR hPOST h hk hr hn hbad hk1 hto HRR hcap hd hq hqn hcnt hcq hqe
    go_enter Try.func35, Try.ntmps35
    go_upto_if 29 with fail
    go_cut [7] from 29 to 29 (fun s wx => s = .int .i64 (cnt : Nat) ∧ wx = w)
    case first =>
      by_cases h0 : q = 0
      · have q3 : ((q : Int) == 0) = true := by simp [h0]
        have q4 : decide ((q : Int) = 0) = true := decide_eq_true (by omega)
        have hc1 : cnt = 1 := by rw [HCQ.out.1, if_pos h0]
        have HC1 := Lib.hid hc1
        clear h0 hc1
        go_wp2_with fail
        go_meet
        exact ⟨by rw [HC1.out]; rfl, rfl⟩
      · have q3 : ((q : Int) == 0) = false := by simp; omega
        have q4 : decide ((q : Int) = 0) = false := decide_eq_false (by omega)
        have hc1 : cnt = q := by rw [HCQ.out.1, if_neg h0]
        have HC1 := Lib.hid hc1
        clear h0 hc1
        go_wp2_with fail
        go_meet
        exact ⟨by rw [HC1.out], rfl⟩
    case rest =>
      obtain ⟨rfl, hwc⟩ := hcut
      rw [hwc]
      clear hwc wc
      clear hqi hdi hdb hsz
      have hcb : cnt ≤ 1048577 := by have := HCQ.out.1; split at this <;> omega
      have hcbi : (cnt : Int) ≤ 1048577 := by omega
      by_cases hbig : 1024 < cnt
      · have hr := HR.out
        rw [if_pos hbig] at hr
        replace HR := Lib.hid hr
        have q5 : decide ((1024 : Int) < (cnt : Int)) = true := decide_eq_true (by omega)
        have q6 : decide ((268435456 : Int) < (n : Int)) = false := decide_eq_false (by omega)
        clear hr hbig hcb
        go_wp2_with fail
        try go_ret2
        show POST (.returned (.tuple #[.slice none 0 0, .int .i64 (3 : Nat)])) _
        rw [HPO.out, HR.out]
        exact ⟨_, [], rfl, Parts.nil _ _, rfl, Keeps.refl _ _⟩
      · have hr := HR.out
        rw [if_neg hbig] at hr
        replace HR := Lib.hid hr
        have q5 : decide ((1024 : Int) < (cnt : Int)) = false := decide_eq_false (by omega)
        have q6 : decide ((268435456 : Int) < (n : Int)) = false := decide_eq_false (by omega)
        have hc1024 : cnt ≤ 1024 := by omega
        clear hr hbig hcbi hcb hqb
        have HC := Lib.hid (refCrc_is w 0 A n c _ (by decide) (bs_of_nums HN.out) (by have := HNB.out; omega))
        obtain ⟨S, hS⟩ : ∃ S, S = crcP xs := ⟨_, rfl⟩
        have hSb : S < 4294967296 := by rw [hS]; exact not32_lt _ (crcAll_lt _ (by decide) _ (bs_of_nums HN.out).2.1 _ (not32_lt 0 (by decide)))
        have hSe : not32 (crcAll 3988292384 (not32 0) (xs.map Int.toNat)) = S := by rw [hS]; rfl
        rw [hSe] at HC
        have HS := Lib.hid (And.intro hS hSb)
        have hSi : (S : Int) < 4294967296 := by omega
        clear hS hSb hSe
        go_wp2_with fail
        refine HC.out.mono ?_
        rintro x w5 ⟨rfl, hw5⟩
        rw [← hw5]
        clear hw5 w5 HC
        go_wp2_with fail
        go_loopw [9, 10, 11, 12] (fun vl vi _ _ wr => ∃ (i : Nat) (L : List Part), i ≤ cnt ∧ vi = .int .i64 i ∧ Hid (Parts wr w.heap.size vl L) ∧ Hid (L.length = i ∧ L.map (fun t => t.2.2) = (List.range i).map (volP xs sz cnt)) ∧ Hid (Grow w wr)) (fun _ vi _ _ _ => cnt - (intOf vi).toNat)
        case atStart => exact ⟨0, [], Nat.zero_le _, rfl, Parts.nil _ _, ⟨rfl, rfl⟩, Keeps.refl _ _⟩
        case round =>
          obtain ⟨i, L, hi, rfl, HP, HL, HG⟩ := hrel
          obtain ⟨Al, cl, rfl⟩ := rowf_ci HP.out.row
          by_cases hic : i < cnt
          · have hic' : (i : Int) < (cnt : Int) := by omega
            have hii : (i : Int) ≤ 1023 := by omega
            obtain ⟨Bx, hBx⟩ : ∃ Bx, Bx = wr.heap.size := ⟨_, rfl⟩
            have HBX := Lib.hid hBx
            have hm := run_mark (P := Try.prog) (wr.alloc (.cells #[.int .u8 72, .int .u8 86, .int .u8 79, .int .u8 76] 5)) 51 5 #[.int .u8 72, .int .u8 86, .int .u8 79, .int .u8 76] (0, 0) 4 4 wr.heap.size Try.underlying51 Try.underlying5 (heap_alloc_new wr _)
            have hlit : Lit8 wr.heap.size 5 [72, 86, 79, 76] (.slice (some ⟨wr.heap.size, 0, none⟩) 4 4) (wr.alloc (.cells #[.int .u8 72, .int .u8 86, .int .u8 79, .int .u8 76] 5)) := Lit8.new wr.heap.size _ [72, 86, 79, 76] wr (Nat.le_refl _)
            have q4 : Mark wr.heap.size (wr.alloc (.cells #[.int .u8 72, .int .u8 86, .int .u8 79, .int .u8 76] 5)) ((wr.alloc (.cells #[.int .u8 72, .int .u8 86, .int .u8 79, .int .u8 76] 5)).freeze ⟨wr.heap.size, 4, none⟩ 1) := (Mark.refl _).freeze (p := ⟨wr.heap.size, 4, none⟩) (Nat.le_refl _) 1
            have HNL := Lib.hid (lit_nums (hlit.mark q4))
            have HGx : Hid (Grow wr ((wr.alloc (.cells #[.int .u8 72, .int .u8 86, .int .u8 79, .int .u8 76] 5)).freeze ⟨wr.heap.size, 4, none⟩ 1)) := grow_of_below (((Mark.refl wr).alloc _).trans q4).below
            clear hlit q4 hBx
            go_wp2_with fail
            clear hm
            generalize (wr.alloc (.cells #[.int .u8 72, .int .u8 86, .int .u8 79, .int .u8 76] 5)).freeze ⟨wr.heap.size, 4, none⟩ 1 = w4 at *
            refine (rlow_is w4 i 2 (by omega) (by decide)).mono ?_
            rintro x w6 ⟨A6, c6, rfl, ho6, hg6⟩
            have HS0 := Lib.hid (HNL.out.grow hg6).src
            have HSR := Lib.hid (Nums.of_own ho6 (leN_rng _ _)).src
            replace HGx := Lib.hid (Grow.trans _ _ _ HGx.out hg6)
            clear ho6 hg6 HNL
            go_wp2_with (at_builtin; refine wpList_appN rfl (.tmp 45) (.tmp 48) 51 5 rfl Try.underlying51 Try.infoU8l rfl (by decide) _ 4 4 _ rfl HS0.out _ 2 _ _ rfl HSR.out (by decide) (by decide) (by decide) (by decide) ?_)
            intro A7 c7 w7 ho7 k7
            have HX : Hid (w7.ownsRow Bx 5 1 (.slice A7 6 c7) 6 ((([72, 86, 79, 76] : List Int) ++ leN i 2).map (Value.int .u8))) := by
              show World.ownsRow _ _ _ _ _ _ _
              rw [List.map_append]
              exact owns_any_base ho7 (by rw [HBX.out]; exact HGx.out.size)
            replace HGx := Lib.hid (Grow.trans _ _ _ HGx.out k7)
            clear ho7 k7 HS0 HSR
            go_wp2_with fail
            refine (rlow_is w7 cnt 2 (by omega) (by decide)).mono ?_
            rintro x w8 ⟨A8, c8, rfl, ho8, hg8⟩
            have HSR := Lib.hid (Nums.of_own ho8 (leN_rng _ _)).src
            replace HX := Lib.hid (owns_keep HX.out hg8 (fun _ _ h => h))
            replace HGx := Lib.hid (Grow.trans _ _ _ HGx.out hg8)
            have HZ : Hid (Bx ≤ w8.heap.size) := by show _ ≤ _; rw [HBX.out]; exact HGx.out.size
            clear ho8 hg8
            go_wp2_with (at_builtin; refine wpList_appS rfl (.tmp 50) (.tmp 53) 51 5 rfl Try.underlying51 Try.infoU8l rfl (by decide) Bx _ 6 _ rfl HX.out HZ.out _ 2 _ _ rfl HSR.out (by unfold maxLen; omega) (by omega) ?_)
            intro A9 c9 w9 ho9 k9 _
            replace HGx := Lib.hid (grow_own HGx.out HX.out (Nat.le_of_eq HBX.out.symm) k9)
            have HX9 : Hid (w9.ownsRow Bx 5 1 (.slice A9 (6 + 2) c9) (6 + 2) ((([72, 86, 79, 76] : List Int) ++ leN i 2 ++ leN cnt 2).map (Value.int .u8))) := by
              show World.ownsRow _ _ _ _ _ _ _
              rw [List.map_append]; exact ho9
            clear ho9 k9 HX HSR HZ
            have HX := HX9
            clear HX9
            go_wp2_with fail
            refine (rlow_is w9 n 8 (by have := HNB.out; omega) (by decide)).mono ?_
            rintro x w10 ⟨A10, c10, rfl, ho10, hg10⟩
            have HSR := Lib.hid (Nums.of_own ho10 (leN_rng _ _)).src
            replace HX := Lib.hid (owns_keep HX.out hg10 (fun _ _ h => h))
            replace HGx := Lib.hid (Grow.trans _ _ _ HGx.out hg10)
            have HZ : Hid (Bx ≤ w10.heap.size) := by show _ ≤ _; rw [HBX.out]; exact HGx.out.size
            clear ho10 hg10
            go_wp2_with (at_builtin; refine wpList_appS rfl (.tmp 54) (.tmp 58) 51 5 rfl Try.underlying51 Try.infoU8l rfl (by decide) Bx _ 8 _ rfl HX.out HZ.out _ 8 _ _ rfl HSR.out (by unfold maxLen; omega) (by omega) ?_)
            intro A11 c11 w11 ho11 k11 _
            replace HGx := Lib.hid (grow_own HGx.out HX.out (Nat.le_of_eq HBX.out.symm) k11)
            have HX11 : Hid (w11.ownsRow Bx 5 1 (.slice A11 (8 + 8) c11) (8 + 8) ((([72, 86, 79, 76] : List Int) ++ leN i 2 ++ leN cnt 2 ++ leN n 8).map (Value.int .u8))) := by
              show World.ownsRow _ _ _ _ _ _ _
              rw [List.map_append]; exact ho11
            clear ho11 k11 HX HSR HZ
            have HX := HX11
            clear HX11
            go_wp2_with fail
            refine (rlow_is w11 S 4 (by have := HS.out.2; omega) (by decide)).mono ?_
            rintro x w12 ⟨A12, c12, rfl, ho12, hg12⟩
            have HSR := Lib.hid (Nums.of_own ho12 (leN_rng _ _)).src
            replace HX := Lib.hid (owns_keep HX.out hg12 (fun _ _ h => h))
            replace HGx := Lib.hid (Grow.trans _ _ _ HGx.out hg12)
            have HZ : Hid (Bx ≤ w12.heap.size) := by show _ ≤ _; rw [HBX.out]; exact HGx.out.size
            clear ho12 hg12
            go_wp2_with (at_builtin; refine wpList_appS rfl (.tmp 60) (.tmp 63) 51 5 rfl Try.underlying51 Try.infoU8l rfl (by decide) Bx _ 16 _ rfl HX.out HZ.out _ 4 _ _ rfl HSR.out (by unfold maxLen; omega) (by omega) ?_)
            intro A13 c13 w13 ho13 k13 _
            replace HGx := Lib.hid (grow_own HGx.out HX.out (Nat.le_of_eq HBX.out.symm) k13)
            have HX13 : Hid (w13.ownsRow Bx 5 1 (.slice A13 (16 + 4) c13) (16 + 4) ((([72, 86, 79, 76] : List Int) ++ leN i 2 ++ leN cnt 2 ++ leN n 8 ++ leN S 4).map (Value.int .u8))) := by
              show World.ownsRow _ _ _ _ _ _ _
              rw [List.map_append]; exact ho13
            clear ho13 k13 HX HSR HZ
            have HX := HX13
            clear HX13
            have HN20 := Lib.hid (Nums.of_own (xs := hd20 i cnt n S) HX.out (hd20_rng i cnt n S))
            obtain ⟨T, hT⟩ : ∃ T, T = not32 (crcAll 3988292384 (not32 0) ((hd20 i cnt n S).map Int.toNat)) := ⟨_, rfl⟩
            have hTb : T < 4294967296 := by rw [hT]; exact not32_lt _ (crcAll_lt _ (by decide) _ (bs_of_nums HN20.out).2.1 _ (not32_lt 0 (by decide)))
            have HC := Lib.hid (refCrc_is w13 0 A13 20 c13 _ (by decide) (bs_of_nums HN20.out) (by decide))
            rw [← hT] at HC
            have HT := Lib.hid (And.intro hT hTb)
            have hTi : (T : Int) < 4294967296 := by omega
            clear hT hTb
            go_wp2_with fail
            refine HC.out.mono ?_
            rintro x w14 ⟨rfl, hw14⟩
            rw [← hw14]
            clear hw14 w14 HC HN20
            go_wp2_with fail
            refine (rlow_is w13 T 4 (by have := HT.out.2; omega) (by decide)).mono ?_
            rintro x w16 ⟨A16, c16, rfl, ho16, hg16⟩
            have HSR := Lib.hid (Nums.of_own ho16 (leN_rng _ _)).src
            replace HX := Lib.hid (owns_keep HX.out hg16 (fun _ _ h => h))
            replace HGx := Lib.hid (Grow.trans _ _ _ HGx.out hg16)
            have HZ : Hid (Bx ≤ w16.heap.size) := by show _ ≤ _; rw [HBX.out]; exact HGx.out.size
            clear ho16 hg16
            go_wp2_with (at_builtin; refine wpList_appS rfl (.tmp 65) (.tmp 69) 51 5 rfl Try.underlying51 Try.infoU8l rfl (by decide) Bx _ 20 _ rfl HX.out HZ.out _ 4 _ _ rfl HSR.out (by unfold maxLen; omega) (by omega) ?_)
            intro A17 c17 w17 ho17 k17 _
            replace HGx := Lib.hid (grow_own HGx.out HX.out (Nat.le_of_eq HBX.out.symm) k17)
            have HX17 : Hid (w17.ownsRow Bx 5 1 (.slice A17 (20 + 4) c17) (20 + 4) ((hd20 i cnt n S ++ leN T 4).map (Value.int .u8))) := by
              show World.ownsRow _ _ _ _ _ _ _
              rw [List.map_append]; exact ho17
            clear ho17 k17 HX HSR HZ
            have HX := HX17
            clear HX17
            obtain ⟨p, hp⟩ : ∃ p, p = i * sz := ⟨_, rfl⟩
            obtain ⟨e1, he1⟩ : ∃ e1, e1 = (i + 1) * sz := ⟨_, rfl⟩
            have hpi : (i : Int) * (sz : Int) = (p : Int) := by rw [hp]; exact (Int.natCast_mul i sz).symm
            have hei : ((i : Int) + 1) * (sz : Int) = (e1 : Int) := by rw [he1]; simp
            have hep : e1 = p + sz := by rw [he1, hp, Nat.succ_mul]
            have hpn : p ≤ n := by
              have h9 := HCQ.out
              rcases Nat.eq_zero_or_pos q with h0 | h0
              · have h1 : i = 0 := by have := h9.1; rw [if_pos h0] at this; omega
                rw [hp, h1]; omega
              · have h1 : i < chkN n sz := by have := h9.1; rw [if_neg (by omega)] at this; omega
                rw [hp]
                exact Nat.le_of_lt ((chkN_lt (by omega)).2 h1)
            have hpb : (p : Int) ≤ 1048576 := by have := HNB.out; omega
            have heb : (e1 : Int) ≤ 1100000000000 := by
              have h9 : p ≤ 1048576 := by have := HNB.out; omega
              omega
            obtain ⟨en, hen⟩ : ∃ en, en = min e1 n := ⟨_, rfl⟩
            have hpe : p ≤ en := by omega
            have hen2 : en ≤ n := by omega
            have hdrop : (xs.drop p).take (en - p) = (xs.drop p).take sz := by
              rw [hen, hep]
              rcases Nat.le_total (p + sz) n with h9 | h9
              · rw [Nat.min_eq_left h9, Nat.add_sub_cancel_left]
              · rw [Nat.min_eq_right h9, List.take_of_length_le (by rw [List.length_drop, HN.out.len]; exact Nat.le_refl _), List.take_of_length_le (by rw [List.length_drop, HN.out.len]; omega)]
            obtain ⟨ys, hys⟩ : ∃ ys, ys = (xs.drop p).take sz := ⟨_, rfl⟩
            have hNy : Nums .u8 w17 (Nums.off A c p) (en - p) (c - p) ys := by
              rw [hys, ← hdrop]
              exact (((HN.out.grow HG.out).grow HGx.out).drop p hpn).take (en - p) (by omega)
            obtain ⟨Ay, hAy⟩ : ∃ Ay, Ay = Nums.off A c p := ⟨_, rfl⟩
            rw [← hAy] at hNy
            obtain ⟨my, hmy⟩ : ∃ my, my = en - p := ⟨_, rfl⟩
            rw [← hmy] at hNy
            have hsl : ∀ w : World, (Instr.slice 51 (.slice A n c) (some (.int .i64 (p : Nat))) (some (.int .i64 (en : Nat))) none).run Try.prog w = .ok (.slice Ay my (c - p)) w := fun w => by
              have h9 := run_mid (P := Try.prog) (t := 51) Try.underlying51 rfl rfl A n c p en hpe (Nat.le_trans hen2 HCAP.out) w
              rw [h9, hAy, hmy]
            have hmyb : my ≤ 1048576 := by have := HNB.out; omega
            have HSR := Lib.hid hNy.src
            have HYR := Lib.hid (And.intro hNy.rng hNy.len)
            have HY : Hid (ys = (xs.drop (i * sz)).take sz) := by show _ = _; rw [hys, hp]
            have HLP := Lib.hid (row_len HP.out)
            have hLL : L.length ≤ 1024 := by have := HL.out.1; omega
            have hZ17 : Bx ≤ w17.heap.size := by rw [HBX.out]; exact HGx.out.size
            by_cases hbe : n < e1
            · obtain rfl : en = n := by omega
              have q7 : decide ((en : Int) < (e1 : Int)) = true := decide_eq_true (by omega)
              have q8 : decide (en < e1) = true := decide_eq_true (by omega)
              clear hp he1 hep hpn hdrop hen hpe hys hNy hAy hmy hen2 hbe
              go_upto_region 21 with fail
              clear hei heb q7 q8
              go_wp2_with (at_builtin; refine wpList_appS rfl (.tmp 82) (.tmp 88) 51 5 rfl Try.underlying51 Try.infoU8l rfl (by decide) Bx _ 24 _ rfl HX.out hZ17 _ my _ _ rfl HSR.out (by unfold maxLen; omega) (by omega) ?_)
              intro A18 c18 w18 ho18 k18 _
              have hg18 : Grow wr w18 := grow_own HGx.out HX.out (Nat.le_of_eq HBX.out.symm) k18
              obtain ⟨g9, e9⟩ : ∃ g9, A18 = some ⟨g9, 0, none⟩ := by
                rcases ho18.2 with ⟨_, h0⟩ | ⟨g9, cap9, cur9, e9, _⟩
                · omega
                · injection e9 with e9 _ _
                  exact ⟨g9, e9⟩
              subst e9
              have HO9 : Hid (w18.ownsRow Bx 5 1 (.slice (some ⟨g9, 0, none⟩) (24 + my) c18) (24 + my) ((hdP i cnt en S ++ ys).map (Value.int .u8))) := by
                show World.ownsRow _ _ _ _ _ _ _
                have h9 : hdP i cnt en S = hd20 i cnt en S ++ leN T 4 := by unfold hdP; rw [HT.out.1]
                rw [h9]
                simp only [List.map_append, List.append_assoc] at ho18 ⊢
                exact ho18
              have HG18 : Hid (Grow w w18) := Grow.trans _ _ _ HG.out hg18
              have HP9 := Lib.hid (HP.out.grow hg18)
              have HBB : Hid (w.heap.size ≤ Bx) := by show _ ≤ _; rw [HBX.out]; exact HG.out.size
              clear ho18 k18 hg18 HX HSR
              go_wp2_with (at_builtin; refine wpList_app1 rfl (.tmp 81) (.tmp 90) 57 51 rfl Try.underlying57 Try.infoSl rfl w.heap.size _ L.length _ rfl HP9.out.row HG18.out.size rfl rfl (by unfold maxLen; omega) (by omega) ?_)
              intro gl cap w19 ho19 k19 _
              have hlt9 : (hdP i cnt en S ++ ys).length = 24 + my := by rw [List.length_append, hdP_len, HYR.out.2]
              have hg9b : Bx ≤ g9 := own_ge HO9.out g9 rfl
              have HP10 : Hid (Parts w19 w.heap.size (.slice (some ⟨gl, 0, none⟩) (L.length + 1) cap) (L ++ [(g9, c18, hdP i cnt en S ++ ys)])) := by
                refine HP9.out.snoc k19 (g9, c18, hdP i cnt en S ++ ys) ?_ ?_ ?_ ?_
                · have h9 := owns_any_base HO9.out HBB.out
                  show w18.ownsRow w.heap.size _ _ (.slice (some ⟨g9, 0, none⟩) (hdP i cnt en S ++ ys).length c18) (hdP i cnt en S ++ ys).length _
                  rw [hlt9]; exact h9
                · intro x hx
                  rcases List.mem_append.1 hx with hx | hx
                  · exact hdP_rng _ _ _ _ x hx
                  · exact HYR.out.1 x hx
                · intro s hs
                  have h1 : s.1 < wr.heap.size := HLP.out s hs
                  have h2 := HBX.out
                  show s.1 < g9
                  omega
                · have h9 : pV (g9, c18, hdP i cnt en S ++ ys) = .slice (some ⟨g9, 0, none⟩) (24 + my) c18 := by unfold pV; rw [hlt9]
                  rw [h9]; exact ho19
              have HG19 := Lib.hid (grow_own HG18.out HP9.out.row (Nat.le_refl _) k19)
              have HL10 : Hid ((L ++ [(g9, c18, hdP i cnt en S ++ ys)]).length = i + 1 ∧ (L ++ [(g9, c18, hdP i cnt en S ++ ys)]).map (fun t => t.2.2) = (List.range (i + 1)).map (volP xs sz cnt)) := by
                refine ⟨by rw [List.length_append, HL.out.1]; rfl, ?_⟩
                rw [List.map_append, HL.out.2, List.range_succ, List.map_append]
                congr 1
                show [hdP i cnt en S ++ ys] = [volP xs sz cnt i]
                unfold volP
                rw [HY.out, HS.out.1, HN.out.len]
              obtain ⟨ll, hll⟩ : ∃ ll, ll = L.length := ⟨_, rfl⟩
              rw [← hll] at HP10 ⊢
              clear ho19 k19 hlt9 hg9b hll hLL
              go_wp2_with fail
              go_roundw
              case rel => exact ⟨i + 1, L ++ [(g9, c18, hdP i cnt en S ++ ys)], by omega, by go_num, HP10.out, HL10.out, HG19.out⟩
              case measure => simp [intOf]; omega
            · obtain rfl : en = e1 := by omega
              have q7 : decide ((n : Int) < (en : Int)) = false := decide_eq_false (by omega)
              have q8 : decide (n < en) = false := decide_eq_false (by omega)
              clear hp he1 hep hpn hdrop hen hpe hys hNy hAy hmy hen2 hbe
              go_upto_region 21 with fail
              clear hei heb q7 q8
              go_wp2_with (at_builtin; refine wpList_appS rfl (.tmp 82) (.tmp 88) 51 5 rfl Try.underlying51 Try.infoU8l rfl (by decide) Bx _ 24 _ rfl HX.out hZ17 _ my _ _ rfl HSR.out (by unfold maxLen; omega) (by omega) ?_)
              intro A18 c18 w18 ho18 k18 _
              have hg18 : Grow wr w18 := grow_own HGx.out HX.out (Nat.le_of_eq HBX.out.symm) k18
              obtain ⟨g9, e9⟩ : ∃ g9, A18 = some ⟨g9, 0, none⟩ := by
                rcases ho18.2 with ⟨_, h0⟩ | ⟨g9, cap9, cur9, e9, _⟩
                · omega
                · injection e9 with e9 _ _
                  exact ⟨g9, e9⟩
              subst e9
              have HO9 : Hid (w18.ownsRow Bx 5 1 (.slice (some ⟨g9, 0, none⟩) (24 + my) c18) (24 + my) ((hdP i cnt n S ++ ys).map (Value.int .u8))) := by
                show World.ownsRow _ _ _ _ _ _ _
                have h9 : hdP i cnt n S = hd20 i cnt n S ++ leN T 4 := by unfold hdP; rw [HT.out.1]
                rw [h9]
                simp only [List.map_append, List.append_assoc] at ho18 ⊢
                exact ho18
              have HG18 : Hid (Grow w w18) := Grow.trans _ _ _ HG.out hg18
              have HP9 := Lib.hid (HP.out.grow hg18)
              have HBB : Hid (w.heap.size ≤ Bx) := by show _ ≤ _; rw [HBX.out]; exact HG.out.size
              clear ho18 k18 hg18 HX HSR
              go_wp2_with (at_builtin; refine wpList_app1 rfl (.tmp 81) (.tmp 90) 57 51 rfl Try.underlying57 Try.infoSl rfl w.heap.size _ L.length _ rfl HP9.out.row HG18.out.size rfl rfl (by unfold maxLen; omega) (by omega) ?_)
              intro gl cap w19 ho19 k19 _
              have hlt9 : (hdP i cnt n S ++ ys).length = 24 + my := by rw [List.length_append, hdP_len, HYR.out.2]
              have hg9b : Bx ≤ g9 := own_ge HO9.out g9 rfl
              have HP10 : Hid (Parts w19 w.heap.size (.slice (some ⟨gl, 0, none⟩) (L.length + 1) cap) (L ++ [(g9, c18, hdP i cnt n S ++ ys)])) := by
                refine HP9.out.snoc k19 (g9, c18, hdP i cnt n S ++ ys) ?_ ?_ ?_ ?_
                · have h9 := owns_any_base HO9.out HBB.out
                  show w18.ownsRow w.heap.size _ _ (.slice (some ⟨g9, 0, none⟩) (hdP i cnt n S ++ ys).length c18) (hdP i cnt n S ++ ys).length _
                  rw [hlt9]; exact h9
                · intro x hx
                  rcases List.mem_append.1 hx with hx | hx
                  · exact hdP_rng _ _ _ _ x hx
                  · exact HYR.out.1 x hx
                · intro s hs
                  have h1 : s.1 < wr.heap.size := HLP.out s hs
                  have h2 := HBX.out
                  show s.1 < g9
                  omega
                · have h9 : pV (g9, c18, hdP i cnt n S ++ ys) = .slice (some ⟨g9, 0, none⟩) (24 + my) c18 := by unfold pV; rw [hlt9]
                  rw [h9]; exact ho19
              have HG19 := Lib.hid (grow_own HG18.out HP9.out.row (Nat.le_refl _) k19)
              have HL10 : Hid ((L ++ [(g9, c18, hdP i cnt n S ++ ys)]).length = i + 1 ∧ (L ++ [(g9, c18, hdP i cnt n S ++ ys)]).map (fun t => t.2.2) = (List.range (i + 1)).map (volP xs sz cnt)) := by
                refine ⟨by rw [List.length_append, HL.out.1]; rfl, ?_⟩
                rw [List.map_append, HL.out.2, List.range_succ, List.map_append]
                congr 1
                show [hdP i cnt n S ++ ys] = [volP xs sz cnt i]
                unfold volP
                rw [HY.out, HS.out.1, HN.out.len]
              obtain ⟨ll, hll⟩ : ∃ ll, ll = L.length := ⟨_, rfl⟩
              rw [← hll] at HP10 ⊢
              clear ho19 k19 hlt9 hg9b hll hLL
              go_wp2_with fail
              go_roundw
              case rel => exact ⟨i + 1, L ++ [(g9, c18, hdP i cnt n S ++ ys)], by omega, by go_num, HP10.out, HL10.out, HG19.out⟩
              case measure => simp [intOf]; omega
          · obtain rfl : i = cnt := by omega
            go_wp2_with fail
            try go_ret2
            show POST (.returned (.tuple #[.slice Al L.length cl, .int .i64 (0 : Nat)])) _
            rw [HPO.out, HR.out]
            exact ⟨_, L, rfl, HP.out, HL.out.2, HG.out⟩
end Go.Proofs.Ytoeapobpdfidkaa
