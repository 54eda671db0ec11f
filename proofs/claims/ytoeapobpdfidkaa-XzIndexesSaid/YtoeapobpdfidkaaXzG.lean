/- xz: the cursor's index. -/
import Derived.Test.YtoeapobpdfidkaaXzF
import Derived.Deep.LoopGhost
namespace Go.Proofs.Ytoeapobpdfidkaa
open Go.RowKit
set_option linter.unusedVariables false
set_option linter.unusedSimpArgs false

def headP (xs : List Int) (n : Nat) : Nat × Nat × Nat :=
  if n < 1 then (10, 0, 0) else if bytN xs 0 ≠ 0 then (11, 0, 0)
  else if (varP xs n 1).1 ≠ 0 then ((varP xs n 1).1, 0, 0)
  else if 65536 < (varP xs n 1).2.1 then (11, 0, 0) else (0, (varP xs n 1).2.1, (varP xs n 1).2.2)
def recsG (xs : List Int) (n : Nat) : Nat → Nat → List (Int × Int) → Nat × List (Int × Int) × Nat
  | 0, a, acc => (0, acc, a)
  | k + 1, a, acc =>
    if (varP xs n a).1 ≠ 0 then ((varP xs n a).1, [], 0)
    else if (varP xs n (varP xs n a).2.2).1 ≠ 0 then ((varP xs n (varP xs n a).2.2).1, [], 0)
    else if mayP (varP xs n a).2.1 (varP xs n (varP xs n a).2.2).2.1 = false then (11, [], 0)
    else recsG xs n k (varP xs n (varP xs n a).2.2).2.2 (acc ++ [((((varP xs n a).2.1 : Nat) : Int), (((varP xs n (varP xs n a).2.2).2.1 : Nat) : Int))])
def finP (xs : List Int) (n : Nat) (r : Nat × List (Int × Int) × Nat) : Nat × List (Int × Int) × Nat :=
  if r.1 ≠ 0 then (r.1, [], 0)
  else if (padG xs n 4 r.2.2).1 ≠ 0 then ((padG xs n 4 r.2.2).1, [], 0)
  else if n < (padG xs n 4 r.2.2).2 + 4 then (10, [], 0)
  else if (xs.drop (padG xs n 4 r.2.2).2).take 4 ≠ leN (crcN (xs.take (padG xs n 4 r.2.2).2)) 4 then (12, [], 0)
  else (0, r.2.1, (padG xs n 4 r.2.2).2 + 4)
def readP (xs : List Int) (n : Nat) : Nat × List (Int × Int) × Nat :=
  if (headP xs n).1 ≠ 0 then ((headP xs n).1, [], 0) else finP xs n (recsG xs n (headP xs n).2.1 (headP xs n).2.2 [])
theorem recsG_step (xs : List Int) (n k a v1 at6 bad6 v2 at7 bad7 bad10 : Nat) (acc : List (Int × Int)) (is9 : Bool) (h1 : v1 = if (varP xs n a).1 = 0 then (varP xs n a).2.1 else 0) (h2 : at6 = if (varP xs n a).1 = 0 then (varP xs n a).2.2 else a) (h3 : bad6 = (varP xs n a).1)
    (h4 : v2 = if bad7 = 0 then (varP xs n at6).2.1 else 0) (h5 : bad7 = okL bad6 (varP xs n at6).1) (h6 : at7 = if bad7 = 0 then (varP xs n at6).2.2 else at6) (h7 : is9 = mayP v1 v2) (h8 : bad10 = okS bad7 is9 11) :
    (bad10 ≠ 0 → (recsG xs n (k + 1) a acc).1 = bad10) ∧ (bad10 = 0 → recsG xs n (k + 1) a acc = recsG xs n k at7 (acc ++ [((v1 : Int), (v2 : Int))]) ∧ inKind .i64 (v1 : Int) ∧ inKind .i64 (v2 : Int)) := by
  have hd : recsG xs n (k + 1) a acc = if (varP xs n a).1 ≠ 0 then ((varP xs n a).1, [], 0)
    else if (varP xs n (varP xs n a).2.2).1 ≠ 0 then ((varP xs n (varP xs n a).2.2).1, [], 0)
    else if mayP (varP xs n a).2.1 (varP xs n (varP xs n a).2.2).2.1 = false then (11, [], 0)
    else recsG xs n k (varP xs n (varP xs n a).2.2).2.2 (acc ++ [((((varP xs n a).2.1 : Nat) : Int), (((varP xs n (varP xs n a).2.2).2.1 : Nat) : Int))]) := rfl
  rw [hd]
  clear hd
  by_cases e1 : (varP xs n a).1 = 0
  · rw [if_pos e1] at h1 h2
    rw [if_neg (by omega), ← h1, ← h2]
    have h3 : bad6 = 0 := by omega
    subst h3
    have h5 : bad7 = (varP xs n at6).1 := h5
    by_cases e2 : (varP xs n at6).1 = 0
    · have e7 : bad7 = 0 := by omega
      rw [if_pos e7] at h4 h6
      rw [if_neg (by omega), ← h4, ← h6, ← h7]
      rw [e7] at h8
      cases is9
      · rw [okS_no] at h8
        rw [if_pos rfl, h8]
        exact ⟨fun _ => rfl, fun h => absurd h (by decide)⟩
      · rw [okS_yes] at h8
        rw [if_neg (by decide), h8]
        refine ⟨fun h => absurd rfl h, fun _ => ⟨rfl, ?_⟩⟩
        have h9 := h7.symm
        unfold mayP at h9
        simp at h9
        have m1 : IntKind.i64.min = -9223372036854775808 := rfl
        have m2 : IntKind.i64.max = 9223372036854775807 := rfl
        unfold inKind
        rw [m1, m2]
        omega
    · have e7 : bad7 ≠ 0 := by omega
      rw [okS_bad e7] at h8
      rw [if_pos e2, h8]
      exact ⟨fun _ => h5.symm, fun h => absurd h e7⟩
  · have e7 : bad7 = bad6 := by rw [h5]; exact if_neg (by omega)
    rw [okS_bad (by omega)] at h8
    rw [if_pos e1, h8, e7]
    exact ⟨fun _ => h3.symm, fun h => absurd (h3.symm.trans h) e1⟩
theorem Try.infoXr : (Try.prog.info? 76).map (fun i => (i.zero, i.size, i.bytes)) = some (some (.agg #[.int .i64 0, .int .i64 0]), 2, 16) := by kernel_rfl
theorem src_new2 (w : World) (a b : Value) (t : TypeId) (ha : a.oneCell' = true) (hb : b.oneCell' = true) : Src (w.alloc (.cells #[a, b] t)) 2 (some ⟨w.heap.size, 0, none⟩) 1 1 [a, b] := by
  refine ⟨rfl, fun h => (by cases h), fun ad hA j u hu => ?_, fun u hu => ?_⟩
  · injection hA with hA
    subst hA
    rw [Addr.add_mid, Nat.zero_add, blk_cell (heap_alloc_new w _)]
    simpa using hu
  · simp at hu
    rcases hu with rfl | rfl <;> assumption
theorem equal_is (w : World) (A B : Option Addr) (n c m d : Nat) (xs ys : List Int) (hx : Nums .u8 w A n c xs) (hy : Nums .u8 w B m d ys) :
    Calls Try.prog 90 #[.slice A n c, .slice B m d] w fun e w' => e = .returned (.bool (decide (xs = ys))) ∧ w = w' := by
  have h1 := run_str_src (P := Try.prog) (w := w) (xs := xs) Try.underlying51 Try.underlying5 Try.underlying9 hx.src
  have h2 := run_str_src (P := Try.prog) (w := w) (xs := ys) Try.underlying51 Try.underlying5 Try.underlying9 hy.src
  have h3 := str_inj hx.rng hy.rng
  obtain ⟨r, hr⟩ : ∃ r, r = decide (xs = ys) := ⟨_, rfl⟩
  rw [← hr] at h3 ⊢
  generalize strOfNums xs = X at *
  generalize strOfNums ys = Y at *
  clear hx hy hr
  go_enter Try.func90, Try.ntmps90
  go_wp2_with fail
  go_ret
  exact ⟨by first | rfl | (rw [← h3]; rfl), rfl⟩
def IxPost (w : World) (g n c : Nat) (A : Option Addr) (xs : List Int) (R : Nat × List (Int × Int) × Nat) (x : Ending) (w' : World) : Prop :=
  ∃ (A' : Option Addr) (m' c' at3 bad3 : Nat), x = .returned (.slice A' m' c') ∧ CAt w' g A n c xs at3 bad3 ∧ bad3 = R.1 ∧ (bad3 = 0 → m' = R.2.1.length ∧ Recs w' A' R.2.1.length c' R.2.1 ∧ at3 = R.2.2 ∧ ∀ b, A' = some b → w.heap.size ≤ b.block) ∧ Keeps (fun k => k = g) w w'
set_option maxRecDepth 8000 in
set_option maxHeartbeats 4000000 in
theorem cindex_is (w : World) (g n c : Nat) (A : Option Addr) (xs : List Int) (h : CAt w g A n c xs 0 0) :
    Calls Try.prog 67 #[.pointer (some ⟨g, 0, none⟩)] w fun x w' => IxPost w g n c A xs (readP xs n) x w' := by
  obtain ⟨R, hR⟩ : ∃ R, R = readP xs n := ⟨_, rfl⟩
  obtain ⟨POST, hPOST⟩ : ∃ POST : Ending → World → Prop, POST = fun x w' => IxPost w g n c A xs R x w' := ⟨_, rfl⟩
  have HPO := Lib.hid hPOST
  rw [← hR]
  show Calls _ _ _ _ fun x w' => (fun x w' => IxPost w g n c A xs R x w') x w'
  rw [← hPOST]
  have HRR := Lib.hid hR
  have H := Lib.hid h
  have d1 := blk_cell h.blk 1
  simp at d1
  have HGB := Lib.hid (blk_lt h.blk)
  clear h hR hPOST
  go_enter Try.func67, Try.ntmps67
  go_wp2_with fail
  refine (cbytes_is w g n c 0 0 1 A xs H.out (by decide) (by decide)).mono ?_
  rintro x w2 ⟨Ab, cb, ys, rfl, hny, hne, hy1, hy2, hk2⟩
  obtain ⟨b, o, rfl, hcy⟩ := hny.at_ (by decide)
  have hc0 := hcy 0 (by decide)
  obtain ⟨y, hy⟩ : ∃ y, y = bytN ys 0 := ⟨_, rfl⟩
  have hyv : ys.getD 0 0 = (y : Int) := by rw [hy]; exact (bytN_is hny 0).1
  have hyb : y < 256 := by rw [hy]; exact (bytN_is hny 0).2
  rw [hyv, Nat.add_zero] at hc0
  obtain ⟨is, his⟩ : ∃ is, is = decide (y = 0) := ⟨_, rfl⟩
  have hyq : ((y : Int) == 0) = is := by
    rw [his]
    by_cases h0 : y = 0
    · rw [h0]; rfl
    · rw [decide_eq_false h0]; simp; omega
  obtain ⟨at1, bad1, hC1, hW1⟩ : ∃ at1 bad1, CAt w2 g A n c xs at1 bad1 ∧ ((n < 1 ∧ at1 = 0 ∧ bad1 = 10 ∧ y = 0) ∨ (1 ≤ n ∧ at1 = 1 ∧ bad1 = 0 ∧ y = bytN xs 0)) := by
    by_cases hfit : 0 + 1 ≤ n
    · have e1 : okS 0 (decide (0 + 1 ≤ n)) 10 = 0 := by rw [decide_eq_true hfit, okS_yes]
      obtain ⟨h1, h2, h3⟩ := hy2 e1
      refine ⟨0 + 1, 0, h3, .inr ⟨by omega, rfl, rfl, ?_⟩⟩
      rw [hy, h1]
      unfold bytN
      simp [List.getD_eq_getElem?_getD]
    · have e1 : okS 0 (decide (0 + 1 ≤ n)) 10 = 10 := by rw [decide_eq_false hfit, okS_no]
      rw [e1] at hy1
      obtain ⟨h1, h2⟩ := hy1 (by decide)
      refine ⟨0, 10, h2, .inl ⟨by omega, rfl, rfl, ?_⟩⟩
      rw [hy, h1]; rfl
  have HC1 := Lib.hid hC1
  have HW1 := Lib.hid hW1
  have HK1 := Lib.hid hk2
  have HIS := Lib.hid his
  clear hny hne hy1 hy2 hk2 hcy hy hyv his hC1 hW1 d1
  go_wp2_with fail
  refine (cok_is w2 g n c at1 bad1 11 A xs is HC1.out (by decide) (by decide)).mono ?_
  rintro x w3 ⟨rfl, hc3, hk3⟩
  obtain ⟨bad2, hb2⟩ : ∃ bad2, bad2 = okS bad1 is 11 := ⟨_, rfl⟩
  rw [← hb2] at hc3 ⊢
  have HC3 := Lib.hid hc3
  have HK3 : Hid (Keeps (fun k => k = g) w w3) := Keeps.trans HK1.out hk3 fun _ _ h => h
  have HB2 := Lib.hid hb2
  clear hc3 hk3 hb2 hc0 hyq
  go_wp2_with fail
  refine (clong_is w3 g n c at1 bad2 A xs HC3.out).mono ?_
  rintro x w4 ⟨v, rfl, hv, hc4, hk4⟩
  obtain ⟨bad3, hb3⟩ : ∃ bad3, bad3 = okL bad2 (varP xs n at1).1 := ⟨_, rfl⟩
  rw [← hb3] at hv hc4
  obtain ⟨at3, hat3⟩ : ∃ at3, at3 = if bad3 = 0 then (varP xs n at1).2.2 else at1 := ⟨_, rfl⟩
  rw [← hat3] at hc4
  have HC4 := Lib.hid hc4
  have HK4 : Hid (Keeps (fun k => k = g) w w4) := Keeps.trans HK3.out hk4 fun _ _ h => h
  have HV := Lib.hid (And.intro hv (And.intro hb3 hat3))
  obtain ⟨is4, his4⟩ : ∃ is4, is4 = decide (v ≤ 65536) := ⟨_, rfl⟩
  have q1 : decide ((v : Int) ≤ 65536) = is4 := by rw [his4]; exact decide_eq_decide.2 (by omega)
  have q2 : decide ((0 : Int) ≤ (v : Int)) = true := decide_eq_true (by omega)
  have HI4 := Lib.hid his4
  clear hv hc4 hk4 hb3 hat3 his4
  go_wp2_with fail
  refine (cok_is w4 g n c at3 bad3 11 A xs is4 HC4.out (by decide) (by decide)).mono ?_
  rintro x w5 ⟨rfl, hc5, hk5⟩
  obtain ⟨bad4, hb4⟩ : ∃ bad4, bad4 = okS bad3 is4 11 := ⟨_, rfl⟩
  rw [← hb4] at hc5 ⊢
  have HC5 := Lib.hid hc5
  have HK5 : Hid (Keeps (fun k => k = g) w w5) := Keeps.trans HK4.out hk5 fun _ _ h => h
  -- what the head tells
  have HHD : Hid ((bad4 ≠ 0 → (headP xs n).1 = bad4) ∧ (bad4 = 0 → headP xs n = (0, v, at3) ∧ v ≤ 65536)) := by
    have h2 := HB2.out
    have h3 := HV.out
    have h4 := HI4.out
    show _ ∧ _
    unfold headP
    rcases HW1.out with ⟨e1, e2, e3, e4⟩ | ⟨e1, e2, e3, e4⟩
    · rw [if_pos e1]
      subst e3
      rw [okS_bad (by decide)] at h2
      subst h2
      have h5 : bad3 = 10 := h3.2.1
      rw [h5, okS_bad (by decide)] at hb4
      rw [hb4]
      exact ⟨fun _ => rfl, fun h => absurd h (by decide)⟩
    · rw [if_neg (by omega), ← e4]
      subst e3
      subst e2
      by_cases h0 : y = 0
      · rw [if_neg (by simp [h0])]
        rw [HIS.out, decide_eq_true h0, okS_yes] at h2
        subst h2
        have h5 : bad3 = (varP xs n 1).1 := h3.2.1
        by_cases he : (varP xs n 1).1 = 0
        · rw [if_neg (by omega)]
          have h6 : bad3 = 0 := by omega
          rw [if_pos h6] at h3
          have hv1 := h3.1
          have ha1 := h3.2.2
          rw [if_pos h6] at ha1
          rw [h6, h4] at hb4
          by_cases hvb : v ≤ 65536
          · rw [decide_eq_true hvb, okS_yes] at hb4
            rw [if_neg (by omega), hb4, ← hv1, ← ha1]
            exact ⟨fun h => absurd rfl h, fun _ => ⟨rfl, hvb⟩⟩
          · rw [decide_eq_false hvb, okS_no] at hb4
            rw [if_pos (by omega), hb4]
            exact ⟨fun _ => rfl, fun h => absurd h (by decide)⟩
        · rw [if_pos he]
          have h6 : bad3 ≠ 0 := by omega
          rw [okS_bad h6] at hb4
          rw [hb4]
          exact ⟨fun _ => h5.symm, fun h => absurd h h6⟩
      · rw [if_pos h0]
        rw [HIS.out, decide_eq_false h0, okS_no] at h2
        subst h2
        have h5 : bad3 = 11 := h3.2.1
        rw [h5, okS_bad (by decide)] at hb4
        rw [hb4]
        exact ⟨fun _ => rfl, fun h => absurd h (by decide)⟩
  clear hc5 hk5 hb4 q1 q2 HW1 HB2 HV HI4 HIS
  go_wp2_with fail
  obtain ⟨RR, hRR⟩ : ∃ RR, RR = recsG xs n v at3 [] := ⟨_, rfl⟩
  have HRC := Lib.hid hRR
  clear hRR
  go_loopg [2, 5] 65538 (fun t vl _ wr => ∃ (at5 bad5 : Nat) (l : List (Int × Int)) (A2 : Option Addr) (c2 : Nat), vl = .slice A2 l.length c2 ∧ Hid (wr.ownsRow w.heap.size 76 2 (.slice A2 l.length c2) l.length (recC l)) ∧ Hid (CAt wr g A n c xs at5 bad5) ∧ Hid (Keeps (fun k => k = g) w wr) ∧ Hid ((bad4 ≠ 0 → bad5 = bad4) ∧ (bad4 = 0 → (bad5 ≠ 0 → RR.1 = bad5) ∧ (bad5 = 0 → l.length ≤ v ∧ v - l.length < t ∧ (∀ r ∈ l, inKind .i64 r.1 ∧ inKind .i64 r.2) ∧ recsG xs n (v - l.length) at5 l = RR))))
  case atStart =>
    refine ⟨at3, bad4, [], none, 0, rfl, World.ownsRow_nil _ _ _ _, HC5.out, HK5.out, fun _ => rfl, fun h4 => ⟨fun h => absurd h4 h, fun _ => ⟨Nat.zero_le _, ?_, fun r hr => (by cases hr), HRC.out.symm⟩⟩⟩
    have := (HHD.out.2 h4).2
    show v - 0 < 65538
    omega
  case round =>
    obtain ⟨at5, bad5, l, A2, c2, rfl, HO, HC, HK, HT⟩ := hrel
    have d2 := blk_cell HC.out.blk 2
    simp at d2
    have hbi : (bad5 : Int) ≤ 20 := by have := HC.out.bads; omega
    obtain ⟨gob, hgob⟩ : ∃ gob, gob = (decide (bad5 = 0) && decide (l.length < v)) := ⟨_, rfl⟩
    have HGO := Lib.hid hgob
    clear hgob
    go_upto_region 5 with fail
    go_cut [38] from 28 to 37 (fun s wx => s = .bool gob ∧ wx = wr)
    case first =>
      by_cases hb : bad5 = 0
      · subst hb
        have q3 : decide ((l.length : Int) < (v : Int)) = gob := by rw [HGO.out]; simp
        have q4 : decide (l.length < v) = gob := by rw [HGO.out]; simp
        clear HGO
        go_wp2_with fail
        go_meet
        exact ⟨rfl, rfl⟩
      · have q3 : ((bad5 : Int) == 0) = false := by simp; omega
        have HE : Hid (gob = false) := by show _ = _; rw [HGO.out, decide_eq_false hb]; rfl
        clear hb
        go_wp2_with fail
        go_meet
        exact ⟨by rw [HE.out], rfl⟩
    case rest =>
      obtain ⟨rfl, hwc⟩ := hcut
      rw [hwc]
      clear hwc wc d2
      cases gob
      · have HF : Hid ((bad5 ≠ 0 → R.1 = bad5) ∧ (bad5 = 0 → R = finP xs n (0, l, at5) ∧ ∀ r ∈ l, inKind .i64 r.1 ∧ inKind .i64 r.2)) := by
          have hr := HRR.out
          have hh := HHD.out
          have ht := HT.out
          show _ ∧ _
          unfold readP at hr
          by_cases h4 : bad4 = 0
          · obtain ⟨h5, h6⟩ := hh.2 h4
            rw [h5, if_neg (by simp)] at hr
            simp only at hr
            rw [← HRC.out] at hr
            obtain ⟨h7, h8⟩ := ht.2 h4
            refine ⟨fun hb => ?_, fun hb => ?_⟩
            · have h9 := h7 hb
              rw [hr]
              unfold finP
              rw [if_pos (by rw [h9]; exact hb)]
              exact h9
            · obtain ⟨h9, h10, h11, h12⟩ := h8 hb
              have hg := HGO.out
              rw [hb] at hg
              have hl : ¬ l.length < v := by
                intro hl
                simp [hl] at hg
              rw [show v - l.length = 0 by omega] at h12
              have h12 : (0, l, at5) = RR := h12
              rw [hr, ← h12]
              exact ⟨rfl, h11⟩
          · have h5 := hh.1 h4
            have h6 := ht.1 h4
            refine ⟨fun hb => ?_, fun hb => by omega⟩
            rw [hr, if_pos (by rw [h5]; exact h4), h6]
            exact h5
        clear HT HGO HRC HHD hbi
        go_wp2_with fail
        refine (cfilled_is wr g n c at5 bad5 A xs HC.out).mono ?_
        rintro x w6 ⟨⟨vx, rfl⟩, hc6a, hc6b, hk6⟩
        obtain ⟨at6, bad6, hc6, hq6⟩ : ∃ at6 bad6, CAt w6 g A n c xs at6 bad6 ∧ ((bad5 ≠ 0 ∧ bad6 = bad5) ∨ (bad5 = 0 ∧ padG xs n 4 at5 = (bad6, at6))) := by
          by_cases hb : bad5 = 0
          · exact ⟨_, _, hc6b hb, .inr ⟨hb, rfl⟩⟩
          · exact ⟨_, _, hc6a hb, .inl ⟨hb, rfl⟩⟩
        have HC6 := Lib.hid hc6
        have HQ6 := Lib.hid hq6
        have HK6 : Hid (Keeps (fun k => k = g) wr w6) := hk6
        have d2 := blk_cell hc6.blk 2
        simp at d2
        have hb6i : (bad6 : Int) ≤ 20 := by have := hc6.bads; omega
        clear hc6a hc6b hc6 hq6 hk6
        by_cases hb6 : bad6 = 0
        · subst hb6
          have hq : bad5 = 0 ∧ padG xs n 4 at5 = (0, at6) := by
            rcases HQ6.out with h | h
            · exact absurd h.2.symm h.1
            · exact h
          have HQ := Lib.hid hq
          clear hq
          have d0 := blk_cell HC6.out.blk 0
          have d1 := blk_cell HC6.out.blk 1
          simp at d0 d1
          have ha6 : (at6 : Int) ≤ 140737488355328 := by have := HC6.out.small; have := HC6.out.le; omega
          obtain ⟨Ab, hAb⟩ : ∃ Ab, Ab = Nums.off A c 0 := ⟨_, rfl⟩
          have hsl : ∀ w : World, (Instr.slice 51 (.slice A n c) (some (.int .i64 0)) (some (.int .i64 (at6 : Nat))) none).run Try.prog w = .ok (.slice Ab at6 (c - 0)) w := fun w => by
            have h9 := run_mid (P := Try.prog) (t := 51) Try.underlying51 rfl rfl A n c 0 at6 (by omega) (by have := HC6.out.nums.cap; have := HC6.out.le; omega) w
            rw [← hAb] at h9
            exact h9
          have HNb : Hid (Nums .u8 w6 Ab at6 (c - 0) (xs.take at6)) := by
            show Nums _ _ _ _ _ _
            rw [hAb]
            exact (HC6.out.nums.drop 0 (by omega)).take at6 (by have := HC6.out.le; omega)
          clear hAb
          go_upto_region 11 with fail
          go_still_tail 10, (by kernel_rfl)
          change wpList _ _ _ _ _ w6.drew
          have HC7 : Hid (CAt w6.drew g A n c xs at6 0) := HC6.out.grow ((Keeps.refl _ w6).drew)
          have HK7 : Hid (Keeps (fun k => k = g) wr w6.drew) := HK6.out.drew
          have HN7 : Hid (Nums .u8 w6.drew Ab at6 (c - 0) (xs.take at6)) := HNb.out.grow ((Keeps.refl _ w6).drew)
          have h6m : at6 ≤ 140737488355328 := by omega
          clear d0 d1 d2 HC6 HK6 HNb
          generalize w6.drew = w7 at *
          go_wp2_with fail
          refine (xsum_is w7 Ab at6 (c - 0) (xs.take at6) HN7.out h6m).mono ?_
          rintro x w8 ⟨As, cs, rfl, hos, hg8⟩
          have HC8 := Lib.hid (HC7.out.grow hg8)
          have HK8 : Hid (Keeps (fun k => k = g) wr w8) := Keeps.trans HK7.out hg8 fun _ _ h => h.elim
          have HS8 := Lib.hid hos
          have hgs : g < w7.heap.size := blk_lt HC7.out.blk
          have HGS := Lib.hid hgs
          clear hos hg8 hgs HC7 HK7 HN7 h6m
          go_wp2_with fail
          refine (cbytes_is w8 g n c at6 0 4 A xs HC8.out (by decide) (by decide)).mono ?_
          rintro x w9 ⟨Ab2, cb2, ys, rfl, hny, hne, hy1, hy2, hk9⟩
          have HS9 : Hid (Nums .u8 w9 As 4 cs (leN (crcN (xs.take at6)) 4)) := Nums.of_own (owns_keep HS8.out hk9 (fun k hk h9 => by have h9 : k = g := h9; have := own_ge HS8.out k hk; have := HGS.out; omega)) (leN_rng _ _)
          have HN9 := Lib.hid hny
          obtain ⟨at9, bad9, hc9, hw9⟩ : ∃ at9 bad9, CAt w9 g A n c xs at9 bad9 ∧ ((n < at6 + 4 ∧ bad9 = 10) ∨ (at6 + 4 ≤ n ∧ bad9 = 0 ∧ at9 = at6 + 4 ∧ ys = (xs.drop at6).take 4)) := by
            by_cases hfit : at6 + 4 ≤ n
            · have e1 : okS 0 (decide (at6 + 4 ≤ n)) 10 = 0 := by rw [decide_eq_true hfit, okS_yes]
              obtain ⟨h1, h2, h3⟩ := hy2 e1
              exact ⟨at6 + 4, 0, h3, .inr ⟨hfit, rfl, rfl, h1⟩⟩
            · have e1 : okS 0 (decide (at6 + 4 ≤ n)) 10 = 10 := by rw [decide_eq_false hfit, okS_no]
              rw [e1] at hy1
              obtain ⟨h1, h2⟩ := hy1 (by decide)
              exact ⟨at6, 10, h2, .inl ⟨by omega, rfl⟩⟩
          have HC9 := Lib.hid hc9
          have HW9 := Lib.hid hw9
          have HK9 : Hid (Keeps (fun k => k = g) wr w9) := Keeps.trans HK8.out hk9 fun _ _ h => h
          clear hny hne hy1 hy2 hk9 hc9 hw9 HC8 HK8 HS8
          go_wp2_with fail
          refine (equal_is w9 Ab2 As 4 cb2 4 cs ys _ HN9.out HS9.out).mono ?_
          rintro x w10 ⟨rfl, hw10⟩
          rw [← hw10]
          clear hw10 w10
          obtain ⟨is, his⟩ : ∃ is, is = decide (ys = leN (crcN (xs.take at6)) 4) := ⟨_, rfl⟩
          rw [← his]
          have HIS := Lib.hid his
          clear his
          go_wp2_with fail
          refine (cok_is w9 g n c at9 bad9 12 A xs is HC9.out (by decide) (by decide)).mono ?_
          rintro x w10 ⟨rfl, hc10, hk10⟩
          have HC10 := Lib.hid hc10
          have HK10 : Hid (Keeps (fun k => k = g) wr w10) := Keeps.trans HK9.out hk10 fun _ _ h => h
          clear hc10 hk10
          go_wp2_with fail
          try go_ret
          show POST (.returned (.slice A2 l.length c2)) _
          rw [HPO.out]
          have hR : R = finP xs n (0, l, at5) := (HF.out.2 HQ.out.1).1
          have hp := HQ.out.2
          have hfin : R = if n < at6 + 4 then (10, [], 0) else if (xs.drop at6).take 4 ≠ leN (crcN (xs.take at6)) 4 then (12, [], 0) else (0, l, at6 + 4) := by
            rw [hR]
            unfold finP
            rw [hp, if_neg (by simp), if_neg (by simp)]
          rcases HW9.out with ⟨h1, h2⟩ | ⟨h1, h2, h3, h4⟩
          · have h5 : okS bad9 is 12 = 10 := by rw [h2, okS_bad (by decide)]
            rw [if_pos h1] at hfin
            exact ⟨A2, l.length, c2, at9, _, rfl, HC10.out, by rw [h5, hfin], fun h => by rw [h5] at h; exact absurd h (by decide), Keeps.trans HK.out HK10.out fun _ _ h => h⟩
          · rw [if_neg (by omega), ← h4] at hfin
            by_cases h5 : ys = leN (crcN (xs.take at6)) 4
            · have h6 : okS bad9 is 12 = 0 := by rw [h2, HIS.out, decide_eq_true h5, okS_yes]
              rw [if_neg (by simp [h5])] at hfin
              refine ⟨A2, l.length, c2, at9, _, rfl, HC10.out, by rw [h6, hfin], fun _ => ?_, Keeps.trans HK.out HK10.out fun _ _ h => h⟩
              rw [hfin]
              exact ⟨rfl, Recs.of_own (owns_keep HO.out HK10.out (fun k hk h9 => by have h9 : k = g := h9; have := own_ge HO.out k hk; have := HGB.out; omega)) (HF.out.2 HQ.out.1).2, h3, fun b hb => by subst hb; exact own_ge HO.out b.block rfl⟩
            · have h6 : okS bad9 is 12 = 12 := by rw [h2, HIS.out, decide_eq_false h5, okS_no]
              rw [if_pos h5] at hfin
              exact ⟨A2, l.length, c2, at9, _, rfl, HC10.out, by rw [h6, hfin], fun h => by rw [h6] at h; exact absurd h (by decide), Keeps.trans HK.out HK10.out fun _ _ h => h⟩
        · have q3 : ((bad6 : Int) == 0) = false := by simp; omega
          have HB6 := Lib.hid hb6
          clear hb6
          go_wp2_with fail
          try go_ret
          show POST (.returned (.slice A2 l.length c2)) _
          rw [HPO.out]
          refine ⟨A2, l.length, c2, at6, bad6, rfl, HC6.out, ?_, fun h => absurd h HB6.out, Keeps.trans HK.out HK6.out fun _ _ h => h⟩
          rcases HQ6.out with ⟨h1, h2⟩ | ⟨h1, h2⟩
          · rw [h2]; exact (HF.out.1 h1).symm
          · rw [(HF.out.2 h1).1]
            unfold finP
            rw [if_neg (by simp)]
            show bad6 = (if (padG xs n 4 at5).1 ≠ 0 then _ else _ : Nat × List (Int × Int) × Nat).1
            rw [h2, if_pos HB6.out]
      · have hgo : bad5 = 0 ∧ l.length < v := by have h9 := HGO.out.symm; simpa using h9
        have hb40 : bad4 = 0 := by
          rcases Nat.eq_zero_or_pos bad4 with h4 | h4
          · exact h4
          · have := HT.out.1 (by omega); omega
        have hlv := hgo.2
        have hb5 := hgo.1
        subst hb5
        have hst0 := (HT.out.2 hb40).2 rfl
        have hv65 := (HHD.out.2 hb40).2
        have hlb : l.length ≤ 65536 := by omega
        obtain ⟨t, rfl⟩ : ∃ t, gk = t + 1 := by
          cases gk with
          | zero => omega
          | succ t => exact ⟨t, rfl⟩
        have HST := Lib.hid hst0
        have HLV := Lib.hid (And.intro hlv (And.intro hlb hb40))
        clear hgo hlv hst0 hv65 hlb hb40 hbi
        go_wp2_with fail
        refine (clong_is wr g n c at5 0 A xs HC.out).mono ?_
        rintro x w6 ⟨v1, rfl, hv1, hc6, hk6⟩
        have e6 : okL 0 (varP xs n at5).1 = (varP xs n at5).1 := rfl
        rw [e6] at hv1 hc6
        obtain ⟨at6, hat6⟩ : ∃ at6, at6 = if (varP xs n at5).1 = 0 then (varP xs n at5).2.2 else at5 := ⟨_, rfl⟩
        rw [← hat6] at hc6
        obtain ⟨bad6, hbad6⟩ : ∃ bad6, bad6 = (varP xs n at5).1 := ⟨_, rfl⟩
        rw [← hbad6] at hc6
        have HC6 := Lib.hid hc6
        have HK6 : Hid (Keeps (fun k => k = g) wr w6) := hk6
        have HV1 := Lib.hid (And.intro hv1 (And.intro hat6 hbad6))
        clear hv1 hc6 hk6 hat6 hbad6 e6
        go_wp2_with fail
        refine (clong_is w6 g n c at6 bad6 A xs HC6.out).mono ?_
        rintro x w7 ⟨v2, rfl, hv2, hc7, hk7⟩
        obtain ⟨bad7, hbad7⟩ : ∃ bad7, bad7 = okL bad6 (varP xs n at6).1 := ⟨_, rfl⟩
        rw [← hbad7] at hv2 hc7
        obtain ⟨at7, hat7⟩ : ∃ at7, at7 = if bad7 = 0 then (varP xs n at6).2.2 else at6 := ⟨_, rfl⟩
        rw [← hat7] at hc7
        have HC7 := Lib.hid hc7
        have HK7 : Hid (Keeps (fun k => k = g) wr w7) := Keeps.trans HK6.out hk7 fun _ _ h => h
        have HV2 := Lib.hid (And.intro hv2 (And.intro hbad7 hat7))
        clear hv2 hc7 hk7 hbad7 hat7
        go_upto_region 7 with fail
        have hgx := heap_alloc_new w7 (.cells #[.int .i64 (v1 : Nat), .int .i64 (v2 : Nat)] 76)
        have hg8 : Grow w7 (w7.alloc (.cells #[.int .i64 (v1 : Nat), .int .i64 (v2 : Nat)] 76)) := (Keeps.refl _ w7).alloc _
        generalize w7.alloc (.cells #[.int .i64 (v1 : Nat), .int .i64 (v2 : Nat)] 76) = w8 at *
        obtain ⟨gx, hgxe⟩ : ∃ gx, gx = w7.heap.size := ⟨_, rfl⟩
        rw [← hgxe] at hgx ⊢
        have HGX : Hid (g < gx) := by show _ < _; rw [hgxe]; exact blk_lt HC7.out.blk
        have HC8 := Lib.hid (HC7.out.grow hg8)
        have HK8 : Hid (Keeps (fun k => k = g) wr w8) := Keeps.trans HK7.out hg8 fun _ _ h => h.elim
        have HX8 := Lib.hid hgx
        have x0 := blk_cell hgx 0
        have x1 := blk_cell hgx 1
        simp at x0 x1
        clear hgx hg8 hgxe
        go_wp2_with fail
        clear x0 x1
        refine (xmay_is w8 v1 v2).mono ?_
        rintro x w9 ⟨rfl, hg9⟩
        have HC9 := Lib.hid (HC8.out.grow hg9)
        have HK9 : Hid (Keeps (fun k => k = g) wr w9) := Keeps.trans HK8.out hg9 fun _ _ h => h.elim
        have HX9 := Lib.hid (block_keep HX8.out hg9 (fun h => h))
        obtain ⟨is9, his9⟩ : ∃ is9, is9 = mayP v1 v2 := ⟨_, rfl⟩
        rw [← his9]
        have HI9 := Lib.hid his9
        clear hg9 his9
        go_wp2_with fail
        refine (cok_is w9 g n c at7 bad7 11 A xs is9 HC9.out (by decide) (by decide)).mono ?_
        rintro x w10 ⟨rfl, hc10, hk10⟩
        obtain ⟨bad10, hbad10⟩ : ∃ bad10, bad10 = okS bad7 is9 11 := ⟨_, rfl⟩
        rw [← hbad10] at hc10 ⊢
        have HC10 := Lib.hid hc10
        have HK10 : Hid (Keeps (fun k => k = g) wr w10) := Keeps.trans HK9.out hk10 fun _ _ h => h
        have hx10 := block_keep HX9.out hk10 (fun h9 => by have h9 : gx = g := h9; have := HGX.out; omega)
        have HB10 := Lib.hid hbad10
        have x0 := blk_cell hx10 0
        have x1 := blk_cell hx10 1
        simp at x0 x1
        have HO10 := Lib.hid (owns_keep HO.out HK10.out (fun k hk h9 => by have h9 : k = g := h9; have := own_ge HO.out k hk; have := HGB.out; omega))
        have HS10 := Lib.hid (src_new2 w10 (.int .i64 (v1 : Nat)) (.int .i64 (v2 : Nat)) 76 rfl rfl)
        have hz10 : w.heap.size ≤ (w10.alloc (.cells #[.int .i64 (v1 : Nat), .int .i64 (v2 : Nat)] 76)).heap.size := by
          have h1 := HK.out.size
          have h2 := HK10.out.size
          simp
          omega
        have HO11 := Lib.hid (HO10.out.alloc (.cells #[.int .i64 (v1 : Nat), .int .i64 (v2 : Nat)] 76))
        have hlb := HLV.out.2.1
        clear hc10 hk10 hx10 hbad10 HC6 HK6 HC7 HK7 HC8 HK8 HC9 HK9 HX8 HX9
        go_wp2_with (at_builtin; refine wpList_appS rfl (.tmp 48) (.tmp 50) 63 76 rfl Try.underlying63 Try.infoXr rfl (by decide) w.heap.size _ l.length _ rfl HO11.out hz10 _ 1 1 _ rfl HS10.out (by unfold maxLen; omega) (by omega) ?_)
        intro A12 c12 w12 ho12 k12 _
        have HO12 : Hid (w12.ownsRow w.heap.size 76 2 (.slice A12 (l.length + 1) c12) (l.length + 1) (recC (l ++ [(((v1 : Nat) : Int), ((v2 : Nat) : Int))]))) := by
          show World.ownsRow _ _ _ _ _ _ _
          rw [recC_snoc]
          exact ho12
        have hk11 : Keeps (fun k => k = g) wr (w10.alloc (.cells #[.int .i64 (v1 : Nat), .int .i64 (v2 : Nat)] 76)) := HK10.out.alloc _
        have hown := HO11.out
        have hk0 : Keeps (fun k => k = g) w w12 := Keeps.trans (Keeps.trans HK.out hk11 fun _ _ h => h) k12 fun i hi h9 => by
          have := own_ge hown i h9
          omega
        have hc12 : CAt w12 g A n c xs at7 bad10 := (HC10.out.grow ((Keeps.refl (fun _ => False) w10).alloc _)).keep k12 fun b hb h9 => by
          have := own_ge hown b h9
          have := HGB.out
          omega
        have HC12 := Lib.hid hc12
        have HK12 := Lib.hid hk0
        clear ho12 k12 hk11 hown hk0 hc12 HO11 HO10 HS10 hz10 x0 x1
        go_wp2_with fail
        go_roundg t
        case rel =>
          have hst := HST.out
          have hlv := HLV.out
          have e1 : v - l.length = (v - (l.length + 1)) + 1 := by omega
          have hs := recsG_step xs n (v - (l.length + 1)) at5 v1 at6 bad6 v2 at7 bad7 bad10 l is9 HV1.out.1 HV1.out.2.1 HV1.out.2.2 HV2.out.1 HV2.out.2.1 HV2.out.2.2 HI9.out HB10.out
          rw [← e1, hst.2.2.2] at hs
          refine ⟨at7, bad10, l ++ [(((v1 : Nat) : Int), ((v2 : Nat) : Int))], A12, c12, by rw [List.length_append]; rfl, by rw [List.length_append]; exact HO12.out, HC12.out, HK12.out, fun h => absurd hlv.2.2 h, fun _ => ⟨hs.1, fun h0 => ?_⟩⟩
          obtain ⟨hs1, hs2⟩ := hs.2 h0
          refine ⟨by rw [List.length_append]; show l.length + 1 ≤ v; omega, by rw [List.length_append]; show v - (l.length + 1) < t; omega, ?_, by rw [List.length_append]; exact hs1.symm⟩
          intro r hr
          rcases List.mem_append.1 hr with hr | hr
          · exact hst.2.2.1 r hr
          · simp at hr
            subst hr
            exact hs2
        case measure => omega
end Go.Proofs.Ytoeapobpdfidkaa
