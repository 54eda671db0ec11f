/- The document's ReadIndex, walked. -/
import Derived.Test.YtoeapobpdfidkaaXzH
import Derived.Test.YtoeapobpdfidkaaVar3
namespace Go.Proofs.Ytoeapobpdfidkaa
open Go.RowKit
set_option linter.unusedVariables false
set_option linter.unusedSimpArgs false

theorem Try.infoXrR : (Try.prog.info? 77).map (fun i => (i.zero, i.size, i.bytes)) = some (some (.agg #[.int .i64 0, .int .i64 0]), 2, 16) := by kernel_rfl
theorem finP_bad (xs : List Int) (n e : Nat) (h : e ≠ 0) : finP xs n (e, [], 0) = (e, [], 0) := if_pos h
theorem recsG_e1 (xs : List Int) (n k a : Nat) (l : List (Int × Int)) (h : (varP xs n a).1 ≠ 0) : recsG xs n (k + 1) a l = ((varP xs n a).1, [], 0) := if_pos h
theorem recsG_e2 (xs : List Int) (n k a v nx : Nat) (l : List (Int × Int)) (h : varP xs n a = (0, v, nx)) (h2 : (varP xs n nx).1 ≠ 0) : recsG xs n (k + 1) a l = ((varP xs n nx).1, [], 0) := by
  unfold recsG
  rw [h, if_neg (by simp), if_pos h2]
theorem recsG_e3 (xs : List Int) (n k a v nx v2 nx2 : Nat) (l : List (Int × Int)) (h : varP xs n a = (0, v, nx)) (h2 : varP xs n nx = (0, v2, nx2)) (h3 : mayP v v2 = false) : recsG xs n (k + 1) a l = (11, [], 0) := by
  unfold recsG
  rw [h, if_neg (by simp)]
  simp only
  rw [h2, if_neg (by simp), if_pos h3]
theorem recsG_e4 (xs : List Int) (n k a v nx v2 nx2 : Nat) (l : List (Int × Int)) (h : varP xs n a = (0, v, nx)) (h2 : varP xs n nx = (0, v2, nx2)) (h3 : mayP v v2 = true) : recsG xs n (k + 1) a l = recsG xs n k nx2 (l ++ [((v : Int), (v2 : Int))]) := by
  rw [recsG]
  rw [h, if_neg (by simp)]
  simp only
  rw [h2, if_neg (by simp), if_neg (by simp [h3])]
theorem may_kind {v v2 : Nat} (h : mayP (v : Int) (v2 : Int) = true) : inKind .i64 (v : Int) ∧ inKind .i64 (v2 : Int) := by
  unfold mayP at h
  simp at h
  have m1 : IntKind.i64.min = -9223372036854775808 := rfl
  have m2 : IntKind.i64.max = 9223372036854775807 := rfl
  unfold inKind
  rw [m1, m2]
  omega
set_option maxRecDepth 8000 in
set_option maxHeartbeats 4000000 in
theorem rread_is (w : World) (n c : Nat) (A : Option Addr) (xs : List Int) (h : Nums .u8 w A n c xs) (hn : n ≤ 140737488355328) :
    Calls Try.prog 41 #[.slice A n c] w fun x w' => RdPost w (readP xs n) x w' := by
  obtain ⟨R, hR⟩ : ∃ R, R = readP xs n := ⟨_, rfl⟩
  obtain ⟨POST, hPOST⟩ : ∃ POST : Ending → World → Prop, POST = fun x w' => RdPost w R x w' := ⟨_, rfl⟩
  have HPO := Lib.hid hPOST
  rw [← hR]
  show Calls _ _ _ _ fun x w' => (fun x w' => RdPost w R x w') x w'
  rw [← hPOST]
  have H := Lib.hid h
  have HN : Hid (n ≤ 140737488355328) := hn
  have hni : (n : Int) ≤ 140737488355328 := by omega
  have hbad : ∀ (e : Nat) (w' : World), R = (e, [], 0) → Grow w w' → POST (.returned (.tuple #[.slice none 0 0, .int .i64 0, .int .i64 (e : Nat)])) w' := fun e w' h1 h2 => by
    rw [hPOST, h1]
    exact ⟨none, 0, rfl, recs_nil _, fun b hb => (by cases hb), h2⟩
  have HBAD := Lib.hid hbad
  have HRR := Lib.hid hR
  clear h hR hPOST hn hbad
  by_cases hn0 : n = 0
  · have HR1 : Hid (R = (10, [], 0)) := by
      show _ = _
      rw [HRR.out]
      have hd : headP xs n = (10, 0, 0) := if_pos (by omega)
      unfold readP
      rw [hd, if_pos (by decide)]
    have q1 : ((n : Int) == 0) = true := by simp; omega
    clear hn0 HRR
    go_enter Try.func41, Try.ntmps41
    go_wp2_with fail
    try go_ret3
    exact HBAD.out 10 _ HR1.out (Keeps.refl _ _)
  have q1 : ((n : Int) == 0) = false := by simp; omega
  have hn1 : 1 ≤ n := by omega
  have HN1 := Lib.hid hn1
  obtain ⟨b, o, rfl, hc⟩ := H.out.at_ (by omega)
  have hc0 := hc 0 (by omega)
  obtain ⟨y, hy⟩ : ∃ y, y = bytN xs 0 := ⟨_, rfl⟩
  rw [(bytN_is H.out 0).1, ← hy, Nat.add_zero] at hc0
  have hyb : y < 256 := by rw [hy]; exact (bytN_is H.out 0).2
  have hyi : (y : Int) < 256 := by omega
  have hpos : (0 : Int) < (n : Int) := by omega
  have hr1 : R = if y ≠ 0 then (11, [], 0) else if (varP xs n 1).1 ≠ 0 then ((varP xs n 1).1, [], 0) else if 65536 < (varP xs n 1).2.1 then (11, [], 0) else finP xs n (recsG xs n (varP xs n 1).2.1 (varP xs n 1).2.2 []) := by
    have hd : headP xs n = if y ≠ 0 then (11, 0, 0) else if (varP xs n 1).1 ≠ 0 then ((varP xs n 1).1, 0, 0)
        else if 65536 < (varP xs n 1).2.1 then (11, 0, 0) else (0, (varP xs n 1).2.1, (varP xs n 1).2.2) := by
      unfold headP
      rw [if_neg (by omega), ← hy]
    rw [HRR.out]
    unfold readP
    rw [hd]
    generalize varP xs n 1 = V
    by_cases h1 : y = 0
    · by_cases h2 : V.1 = 0
      · by_cases h3 : 65536 < V.2.1
        · simp [h1, h2, h3]
        · simp [h1, h2, h3]
      · simp [h1, h2]
    · simp [h1]
  have HR1 := Lib.hid hr1
  clear hc hy hr1 HRR hn1 hn0
  by_cases hy0 : y = 0
  · have HR2 := HR1.out
    rw [if_neg (by simp [hy0])] at HR2
    have HR2 := Lib.hid HR2
    have q2 : ((y : Int) != 0) = false := by simp; omega
    have q3 : ((y : Int) == 0) = true := by simp; omega
    clear HR1 hy0
    go_enter Try.func41, Try.ntmps41
    go_wp2_with fail
    refine (rVar_is w _ n c 1 xs H.out HN1.out HN.out).mono ?_
    rintro x w2 ⟨rfl, hw2⟩
    rw [← hw2]
    clear hw2 w2
    have HVF := Lib.hid (varP_facts xs n 1)
    obtain ⟨VV, hVV⟩ : ∃ VV, VV = varP xs n 1 := ⟨_, rfl⟩
    have HR3 := HR2.out
    have HVF3 := HVF.out
    rw [← hVV] at HR3 HVF3 ⊢
    obtain ⟨er, v, nx⟩ := VV
    have HR4 := Lib.hid HR3
    have HVF4 := Lib.hid HVF3
    clear HR3 HVF3 HR2 HVF hVV
    have heb : (er : Int) ≤ 11 := by have := HVF4.out.1; simp only at this; omega
    simp only
    by_cases he : er = 0
    · subst he
      simp only [show ((0 : Nat) : Int) = 0 from rfl]
      have hv := HVF4.out.2 rfl
      simp only at hv
      have hvb : (v : Int) < 9223372036854775808 := by omega
      have HNX : Hid (nx ≤ n) := hv.1
      have hr := HR4.out
      rw [if_neg (by simp)] at hr
      simp only at hr
      clear HR4 HVF4 hv
      by_cases hv6 : 65536 < v
      · rw [if_pos hv6] at hr
        have HR5 := Lib.hid hr
        have k1 : decide ((65536 : Int) < (v : Int)) = true := decide_eq_true (by omega)
        clear hr hv6
        go_wp2_with fail
        try go_ret3
        exact HBAD.out 11 _ HR5.out (Keeps.refl _ _)
      · rw [if_neg hv6] at hr
        obtain ⟨RR, hRR⟩ : ∃ RR, RR = recsG xs n v nx [] := ⟨_, rfl⟩
        rw [← hRR] at hr
        have HR5 := Lib.hid hr
        have HRR := Lib.hid hRR
        have k1 : decide ((65536 : Int) < (v : Int)) = false := decide_eq_false (by omega)
        have hv6i : (v : Int) ≤ 65536 := by omega
        have hv6n : v ≤ 65536 := by omega
        have hwv : IntKind.i64.wrap (v : Int) = (v : Int) := by rw [IntKind.wrap_i64]; omega
        clear hr hRR hv6 hvb
        go_wp2_with fail
        go_loopw [6, 8, 9, 10, 11, 12, 13, 14] (fun va vo vi _ _ _ _ _ wr => ∃ (a i : Nat) (l : List (Int × Int)) (A2 : Option Addr) (c2 : Nat), va = .int .i64 (a : Nat) ∧ vo = .slice A2 l.length c2 ∧ vi = .int .i64 (i : Nat) ∧ Hid (wr.ownsRow w.heap.size 77 2 (.slice A2 l.length c2) l.length (recC l)) ∧ Hid (Grow w wr) ∧ Hid (i ≤ v ∧ a ≤ n ∧ l.length = i ∧ (∀ r ∈ l, inKind .i64 r.1 ∧ inKind .i64 r.2) ∧ recsG xs n (v - i) a l = RR)) (fun _ _ vi _ _ _ _ _ _ => v - (intOf vi).toNat)
        case atStart => exact ⟨nx, 0, [], none, 0, rfl, rfl, rfl, World.ownsRow_nil _ _ _ _, Keeps.refl _ _, Nat.zero_le _, HNX.out, rfl, fun r hr => (by cases hr), HRR.out.symm⟩
        case round =>
          obtain ⟨a, i, l, A2, c2, rfl, rfl, rfl, HO, HG, HT⟩ := hrel
          have hai : (a : Int) ≤ 140737488355328 := by have := HT.out.2.1; have := HN.out; omega
          have han : a ≤ 140737488355328 := by omega
          have hib : (i : Int) ≤ 65536 := by have := HT.out.1; omega
          by_cases hiv : i < v
          · have k2 : decide ((i : Int) < (v : Int)) = true := decide_eq_true (by omega)
            have k2n : decide (i < v) = true := decide_eq_true hiv
            obtain ⟨k, hk⟩ : ∃ k, v - i = k + 1 := ⟨v - i - 1, by omega⟩
            have HK := Lib.hid hk
            have hlb : l.length ≤ 65536 := by have := HT.out.2.2.1; omega
            clear hk
            go_wp2_with fail
            refine (rVar_is wr _ n c a xs (H.out.grow HG.out) HT.out.2.1 HN.out).mono ?_
            rintro x w2 ⟨rfl, hw2⟩
            rw [← hw2]
            clear hw2 w2
            have HVF := varP_facts xs n a
            obtain ⟨V1, hV1⟩ : ∃ V1, V1 = varP xs n a := ⟨_, rfl⟩
            rw [← hV1] at HVF ⊢
            obtain ⟨e1, v1, n1⟩ := V1
            have HVF := Lib.hid HVF
            have HV1 := Lib.hid hV1.symm
            have he1b : (e1 : Int) ≤ 11 := by have := HVF.out.1; simp only at this; omega
            clear hV1
            simp only
            by_cases he1 : e1 = 0
            · subst he1
              have hv := HVF.out.2 rfl
              simp only at hv
              have hv1i : (v1 : Int) < 9223372036854775808 := by omega
              have HN1' : Hid (n1 ≤ n) := hv.1
              have hwv1 : IntKind.i64.wrap (v1 : Int) = (v1 : Int) := by rw [IntKind.wrap_i64]; omega
              clear HVF hv
              go_wp2_with fail
              refine (rVar_is wr _ n c n1 xs (H.out.grow HG.out) HN1'.out HN.out).mono ?_
              rintro x w2 ⟨rfl, hw2⟩
              rw [← hw2]
              clear hw2 w2
              have HVF := varP_facts xs n n1
              obtain ⟨V2, hV2⟩ : ∃ V2, V2 = varP xs n n1 := ⟨_, rfl⟩
              rw [← hV2] at HVF ⊢
              obtain ⟨e2, v2, n2⟩ := V2
              have HVF := Lib.hid HVF
              have HV2 := Lib.hid hV2.symm
              have he2b : (e2 : Int) ≤ 11 := by have := HVF.out.1; simp only at this; omega
              clear hV2
              simp only
              by_cases he2 : e2 = 0
              · subst he2
                have hv := HVF.out.2 rfl
                simp only at hv
                have hv2i : (v2 : Int) < 9223372036854775808 := by omega
                have HN2 : Hid (n2 ≤ n) := hv.1
                have hwv2 : IntKind.i64.wrap (v2 : Int) = (v2 : Int) := by rw [IntKind.wrap_i64]; omega
                clear HVF hv
                go_upto_region 22 with fail
                have hgx := heap_alloc_new wr (.cells #[.int .i64 (v1 : Nat), .int .i64 (v2 : Nat)] 77)
                have hg8 : Grow wr (wr.alloc (.cells #[.int .i64 (v1 : Nat), .int .i64 (v2 : Nat)] 77)) := (Keeps.refl _ wr).alloc _
                generalize wr.alloc (.cells #[.int .i64 (v1 : Nat), .int .i64 (v2 : Nat)] 77) = w8 at *
                obtain ⟨gx, hgxe⟩ : ∃ gx, gx = wr.heap.size := ⟨_, rfl⟩
                rw [← hgxe] at hgx ⊢
                have HG8 : Hid (Grow wr w8) := hg8
                have HX8 := Lib.hid hgx
                have x0 := blk_cell hgx 0
                have x1 := blk_cell hgx 1
                simp at x0 x1
                clear hgx hg8 hgxe
                go_wp2_with fail
                clear x0 x1
                refine (rmay_is w8 v1 v2).mono ?_
                rintro x w9 ⟨rfl, hg9⟩
                have HG9 : Hid (Grow wr w9) := Grow.trans _ _ _ HG8.out hg9
                have hx9 := block_keep HX8.out hg9 (fun h => h)
                obtain ⟨is9, his9⟩ : ∃ is9, is9 = mayP v1 v2 := ⟨_, rfl⟩
                rw [← his9]
                have HI9 := Lib.hid his9
                have x0 := blk_cell hx9 0
                have x1 := blk_cell hx9 1
                simp at x0 x1
                clear hg9 his9 hx9
                cases is9
                · have hrr : RR = (11, [], 0) := by
                    have h9 := HT.out.2.2.2.2
                    rw [HK.out, recsG_e3 xs n k a v1 n1 v2 n2 l HV1.out HV2.out HI9.out.symm] at h9
                    exact h9.symm
                  have HR6 : Hid (R = (11, [], 0)) := by show _ = _; rw [HR5.out, hrr]; exact finP_bad xs n 11 (by decide)
                  clear hrr
                  go_wp2_with fail
                  try go_ret3
                  exact HBAD.out 11 _ HR6.out (Grow.trans _ _ _ HG.out HG9.out)
                · have HO10 := Lib.hid (owns_keep HO.out HG9.out (fun k hk h9 => h9))
                  have HS10 := Lib.hid (src_new2 w9 (.int .i64 (v1 : Nat)) (.int .i64 (v2 : Nat)) 77 rfl rfl)
                  have hz10 : w.heap.size ≤ (w9.alloc (.cells #[.int .i64 (v1 : Nat), .int .i64 (v2 : Nat)] 77)).heap.size := by
                    have h1 := HG.out.size
                    have h2 := HG9.out.size
                    simp
                    omega
                  have HO11 := Lib.hid (HO10.out.alloc (.cells #[.int .i64 (v1 : Nat), .int .i64 (v2 : Nat)] 77))
                  go_wp2_with (at_builtin; refine wpList_appS rfl (.tmp 68) (.tmp 70) 68 77 rfl Try.underlying68 Try.infoXrR rfl (by decide) w.heap.size _ l.length _ rfl HO11.out hz10 _ 1 1 _ rfl HS10.out (by unfold maxLen; omega) (by omega) ?_)
                  intro A12 c12 w12 ho12 k12 _
                  have HO12 : Hid (w12.ownsRow w.heap.size 77 2 (.slice A12 (l.length + 1) c12) (l.length + 1) (recC (l ++ [(((v1 : Nat) : Int), ((v2 : Nat) : Int))]))) := by
                    show World.ownsRow _ _ _ _ _ _ _
                    rw [recC_snoc]
                    exact ho12
                  have HG12 : Hid (Grow w w12) := grow_own ((Grow.trans _ _ _ HG.out HG9.out).alloc _) HO11.out (Nat.le_refl _) k12
                  clear ho12 k12 HO11 HO10 HS10 hz10 x0 x1
                  go_wp2_with fail
                  go_roundw
                  case rel =>
                    have ht := HT.out
                    refine ⟨n2, i + 1, l ++ [(((v1 : Nat) : Int), ((v2 : Nat) : Int))], A12, c12, rfl, by rw [List.length_append]; rfl, by go_num, by rw [List.length_append]; exact HO12.out, HG12.out, by omega, HN2.out, by rw [List.length_append]; show l.length + 1 = i + 1; omega, ?_, ?_⟩
                    · intro r hr
                      rcases List.mem_append.1 hr with hr | hr
                      · exact ht.2.2.2.1 r hr
                      · simp at hr
                        subst hr
                        exact may_kind HI9.out.symm
                    · have h9 := ht.2.2.2.2
                      have hk := HK.out
                      rw [hk, recsG_e4 xs n k a v1 n1 v2 n2 l HV1.out HV2.out HI9.out.symm] at h9
                      rw [show v - (i + 1) = k by omega]
                      exact h9
                  case measure => simp [intOf]; omega
              · have hrr : RR = (e2, [], 0) := by
                  have h9 := HT.out.2.2.2.2
                  rw [HK.out, recsG_e2 xs n k a v1 n1 l HV1.out (by rw [HV2.out]; exact he2), HV2.out] at h9
                  exact h9.symm
                have HR6 : Hid (R = (e2, [], 0)) := by show _ = _; rw [HR5.out, hrr]; exact finP_bad xs n e2 he2
                have k3 : ((e2 : Int) != 0) = true := by simp; omega
                have k4 : ((e2 : Int) == 0) = false := by simp; omega
                clear hrr he2
                go_wp2_with fail
                try go_ret3
                exact HBAD.out e2 _ HR6.out HG.out
            · have hrr : RR = (e1, [], 0) := by
                have h9 := HT.out.2.2.2.2
                rw [HK.out, recsG_e1 xs n k a l (by rw [HV1.out]; exact he1), HV1.out] at h9
                exact h9.symm
              have HR6 : Hid (R = (e1, [], 0)) := by show _ = _; rw [HR5.out, hrr]; exact finP_bad xs n e1 he1
              have k3 : ((e1 : Int) != 0) = true := by simp; omega
              have k4 : ((e1 : Int) == 0) = false := by simp; omega
              clear hrr he1
              go_wp2_with fail
              try go_ret3
              exact HBAD.out e1 _ HR6.out HG.out
          · have k2 : decide ((i : Int) < (v : Int)) = false := decide_eq_false (by omega)
            have k2n : decide (i < v) = false := decide_eq_false hiv
            have hrr : RR = (0, l, a) := by
              have h9 := HT.out.2.2.2.2
              rw [show v - i = 0 by omega] at h9
              exact h9.symm
            have hr6 : R = finP xs n (0, l, a) := by rw [HR5.out, hrr]
            have HR6 := Lib.hid hr6
            obtain ⟨hia, hna, hll, hkl, _⟩ := HT.out
            have HKL := Lib.hid hkl
            clear hrr hr6 hiv hia hll hkl HT HRR HR5
            obtain ⟨PP, hPP⟩ : ∃ PP, PP = padG xs n 4 a := ⟨_, rfl⟩
            have hr7 : R = if PP.1 ≠ 0 then (PP.1, [], 0) else if n < PP.2 + 4 then (10, [], 0) else if (xs.drop PP.2).take 4 ≠ leN (crcN (xs.take PP.2)) 4 then (12, [], 0) else (0, l, PP.2 + 4) := by
              rw [HR6.out]
              unfold finP
              rw [if_neg (by simp), ← hPP]
            have HR7 := Lib.hid hr7
            have HPP := Lib.hid hPP
            have HNA := Lib.hid hna
            clear hr7 hPP HR6 hna han hai
            go_wp2_with fail
            go_loopg [6] 4 (fun t va wz => ∃ a2 : Nat, va = .int .i64 (a2 : Nat) ∧ wr = wz ∧ Hid (a2 ≤ n ∧ (4 - a2 % 4) % 4 < t ∧ padG xs n t a2 = PP))
            case atStart => exact ⟨a, rfl, rfl, HNA.out, by omega, HPP.out.symm⟩
            case round =>
              obtain ⟨a2, rfl, rfl, HT⟩ := hrel
              have hle := HT.out.1
              have han2 : a2 ≤ 140737488355328 := by have := HN.out; omega
              have hai2 : (a2 : Int) ≤ 140737488355328 := by omega
              obtain ⟨t, rfl⟩ : ∃ t, gk = t + 1 := by
                cases gk with
                | zero => have := HT.out.2.1; omega
                | succ t => exact ⟨t, rfl⟩
              have hp : (if a2 % 4 = 0 then (0, a2) else if n ≤ a2 then (10, a2) else if bytN xs a2 ≠ 0 then (11, a2 + 1) else padG xs n t (a2 + 1)) = PP := HT.out.2.2
              by_cases h4 : a2 % 4 = 0
              · rw [if_pos h4] at hp
                have HP2 := Lib.hid hp
                have q5 : (a2 : Int) % 4 = 0 := by omega
                have q6 : ((a2 : Int) % 4 == 0) = true := by simp; omega
                clear h4 hp
                have hr8 := HR7.out
                rw [← HP2.out, if_neg (by simp)] at hr8
                simp only at hr8
                obtain ⟨d, hd⟩ : ∃ d, d = n - a2 := ⟨_, rfl⟩
                have hdi : (n : Int) - (a2 : Int) = (d : Int) := by omega
                by_cases hd4 : n < a2 + 4
                · rw [if_pos hd4] at hr8
                  have HR8 := Lib.hid hr8
                  have q7 : decide ((d : Int) < 4) = true := decide_eq_true (by omega)
                  have q8 : decide (d < 4) = true := decide_eq_true (by omega)
                  clear hr8 hd hd4
                  go_wp2_with fail
                  try go_ret3
                  exact HBAD.out 10 _ HR8.out HG.out
                · rw [if_neg hd4] at hr8
                  have HR8 := Lib.hid hr8
                  have q7 : decide ((d : Int) < 4) = false := decide_eq_false (by omega)
                  have q8 : decide (d < 4) = false := decide_eq_false (by omega)
                  obtain ⟨a3, ha3⟩ : ∃ a3, a3 = a2 + 4 := ⟨_, rfl⟩
                  have ha3i : (a2 : Int) + 4 = (a3 : Int) := by omega
                  have ha3b : (a3 : Int) ≤ 140737488355400 := by omega
                  have ha3n : a3 ≤ n := by omega
                  have HA3 := Lib.hid (And.intro ha3 ha3n)
                  clear hr8 hd hd4 ha3 ha3n
                  go_upto_region 33 with fail
                  obtain ⟨Ab, hAb⟩ : ∃ Ab, Ab = Nums.off (some ⟨b, o, none⟩) c a2 := ⟨_, rfl⟩
                  have hcp : n ≤ c := H.out.cap
                  have hs1 : ∀ w : World, (Instr.slice 51 (.slice (some ⟨b, o, none⟩) n c) none (some (.int .i64 (a2 : Nat))) none).run Try.prog w = .ok (.slice (some ⟨b, o, none⟩) a2 c) w := fun w =>
                    run_pre (P := Try.prog) (t := 51) Try.underlying51 rfl _ n c a2 (by omega) w
                  have hs2 : ∀ w : World, (Instr.slice 51 (.slice (some ⟨b, o, none⟩) n c) (some (.int .i64 (a2 : Nat))) (some (.int .i64 (a3 : Nat))) none).run Try.prog w = .ok (.slice Ab 4 (c - a2)) w := fun w => by
                    have h9 := run_mid (P := Try.prog) (t := 51) Try.underlying51 rfl rfl (some ⟨b, o, none⟩) n c a2 a3 (by have := HA3.out; omega) (by have := HA3.out; omega) w
                    rw [h9, hAb, show a3 - a2 = 4 by have := HA3.out; omega]
                  have HNb : Hid (Nums .u8 wr Ab 4 (c - a2) ((xs.drop a2).take 4)) := by
                    show Nums _ _ _ _ _ _
                    rw [hAb]
                    exact ((H.out.grow HG.out).drop a2 hle).take 4 (by have := HA3.out; omega)
                  have HNa : Hid (Nums .u8 wr (some ⟨b, o, none⟩) a2 c (xs.take a2)) := (H.out.grow HG.out).take a2 hle
                  have ha16 : a2 ≤ 140737488355328 := by omega
                  clear hAb hcp
                  refine wp_region_hold Grow Grow.refl Grow.trans [4, 10] [(0, [0, 1, 2, 5, 6, 7, 8, 9]), (1, [10]), (2, [3]), (1, [4]), (0, [11])] [(0, [?o0, ?o1, ?o2, ?o5, ?o6, ?o7, ?o8, ?o9]), (1, [?o10]), (2, [?o3]), (1, [?o4]), (0, [?o11])] [?o0, ?o1, ?o2, ?o3, ?o4, ?o5, ?o6, ?o7, ?o8, ?o9, ?o10, ?o11] (by kernel_rfl) (by kernel_rfl) (by kernel_rfl) ?_
                  refine seg_calm ?_
                  go_wp2_with fail
                  have HG1 : Hid (Grow wr wr.drew) := (Keeps.refl _ wr).drew
                  clear hs1 hs2
                  generalize wr.drew = w1 at *
                  have HY := Lib.hid (str_inj (leN_rng (crcN (xs.take a2)) 4) HNb.out.rng)
                  obtain ⟨X, hX⟩ : ∃ X, X = strOfNums ((xs.drop a2).take 4) := ⟨_, rfl⟩
                  obtain ⟨Y, hY⟩ : ∃ Y, Y = strOfNums (leN (crcN (xs.take a2)) 4) := ⟨_, rfl⟩
                  have HX := Lib.hid hX
                  have HYY := Lib.hid hY
                  clear hX hY
                  refine seg_held (by kernel_rfl) (.string X) (fun w7 hk7 => ?_) ?_
                  · have h1 := run_str_src (P := Try.prog) (w := w7) Try.underlying51 Try.underlying5 Try.underlying9 (HNb.out.grow (Grow.trans _ _ _ HG1.out hk7)).src
                    rw [← HX.out] at h1
                    go_simp
                  refine seg_call ?_
                  go_wp2_with fail
                  refine (rcrc_is w1 _ a2 c (xs.take a2) (HNa.out.grow HG1.out) ha16).mono ?_
                  rintro x w2 ⟨As, cs, rfl, hos, hg2⟩
                  have HS2 : Hid (Nums .u8 w2 As 4 cs (leN (crcN (xs.take a2)) 4)) := Nums.of_own hos (leN_rng _ _)
                  have HG2 : Hid (Grow w w2) := Grow.trans _ _ _ HG.out (Grow.trans _ _ _ HG1.out hg2)
                  have HG2r : Hid (Grow wr w2) := Grow.trans _ _ _ HG1.out hg2
                  have hg2' := hg2
                  clear hos hg2
                  go_wp2_with fail
                  refine ⟨hg2', ?_⟩
                  clear hg2'
                  refine seg_held (by kernel_rfl) (.string Y) (fun w7 hk7 => ?_) ?_
                  · have h1 := run_str_src (P := Try.prog) (w := w7) Try.underlying51 Try.underlying5 Try.underlying9 (HS2.out.grow hk7).src
                    rw [← HYY.out] at h1
                    go_simp
                  refine seg_calm ?_
                  obtain ⟨is, his⟩ : ∃ is, is = decide (leN (crcN (xs.take a2)) 4 = (xs.drop a2).take 4) := ⟨_, rfl⟩
                  have hxy := HY.out
                  rw [← HX.out, ← HYY.out, ← his] at hxy
                  have HIS := Lib.hid his
                  clear his HX HYY HY
                  go_wp2_with fail
                  refine seg_end ⟨by kernel_rfl, ?_⟩
                  cases is
                  · have hr9 : R = (12, [], 0) := by
                      rw [HR8.out]
                      exact if_pos (fun h => of_decide_eq_false HIS.out.symm h.symm)
                    have HR9 := Lib.hid hr9
                    clear hr9
                    go_wp2_with fail
                    try go_ret3
                    exact HBAD.out 12 _ HR9.out HG2.out
                  · have hr9 : R = (0, l, a3) := by
                      rw [HR8.out, HA3.out.1]
                      exact if_neg (fun h => h (of_decide_eq_true HIS.out.symm).symm)
                    have HR9 := Lib.hid hr9
                    clear hr9
                    go_wp2_with fail
                    try go_ret3
                    rw [HPO.out, HR9.out]
                    exact ⟨A2, c2, rfl, Recs.of_own (owns_keep HO.out HG2r.out (fun _ _ h => h)) HKL.out, fun b hb => (by subst hb; exact own_ge HO.out b.block rfl), HG2.out⟩
              · rw [if_neg h4] at hp
                have q5 : ((a2 : Int) % 4 == 0) = false := by simp; omega
                have q6 : ¬ (a2 : Int) % 4 = 0 := by omega
                have q7 : ((a2 : Int) % 4 != 0) = true := by simp; omega
                have H4 := Lib.hid h4
                clear h4
                by_cases hna2 : n ≤ a2
                · rw [if_pos hna2] at hp
                  have hr8 : R = (10, [], 0) := by
                    rw [HR7.out, ← hp]
                    exact if_pos (by simp)
                  have HR8 := Lib.hid hr8
                  have q8 : decide ((n : Int) ≤ (a2 : Int)) = true := decide_eq_true (by omega)
                  have q9 : decide (n ≤ a2) = true := decide_eq_true hna2
                  clear hr8 hna2 hp
                  go_wp2_with fail
                  try go_ret3
                  exact HBAD.out 10 _ HR8.out HG.out
                · rw [if_neg hna2] at hp
                  have q8 : decide ((n : Int) ≤ (a2 : Int)) = false := decide_eq_false (by omega)
                  have q9 : decide (n ≤ a2) = false := decide_eq_false hna2
                  have hlt : (a2 : Int) < (n : Int) := by omega
                  obtain ⟨b2, o2, e2, hc⟩ := H.out.at_ (by omega)
                  injection e2 with e2
                  injection e2 with e2a e2b
                  subst e2a
                  subst e2b
                  have hc2 := ckp (hc a2 (by omega)) HG.out (fun h => h)
                  obtain ⟨z, hz⟩ : ∃ z, z = bytN xs a2 := ⟨_, rfl⟩
                  rw [(bytN_is H.out a2).1, ← hz] at hc2
                  have hzb : z < 256 := by rw [hz]; exact (bytN_is H.out a2).2
                  have hzi : (z : Int) < 256 := by omega
                  rw [← hz] at hp
                  have HP3 := Lib.hid hp
                  clear hc hz hp hna2
                  by_cases hz0 : z = 0
                  · have hp := HP3.out
                    rw [if_neg (by simp [hz0])] at hp
                    have HP4 := Lib.hid hp
                    have k5 : ((z : Int) != 0) = false := by simp; omega
                    have k6 : ((z : Int) == 0) = true := by simp; omega
                    clear hp hz0 HP3
                    go_wp2_with fail
                    go_roundg t
                    case measure => omega
                    case rel =>
                      have ht := HT.out
                      have h4 := H4.out
                      exact ⟨a2 + 1, by go_num, rfl, by omega, by omega, HP4.out⟩
                  · have hp := HP3.out
                    rw [if_pos hz0] at hp
                    have hr8 : R = (11, [], 0) := by
                      rw [HR7.out, ← hp]
                      exact if_pos (by simp)
                    have HR8 := Lib.hid hr8
                    have k5 : ((z : Int) != 0) = true := by simp; omega
                    have k6 : ((z : Int) == 0) = false := by simp; omega
                    clear hr8 hp hz0 HP3
                    go_wp2_with fail
                    try go_ret3
                    exact HBAD.out 11 _ HR8.out HG.out
    · have hr := HR4.out
      rw [if_pos he] at hr
      have HR5 := Lib.hid hr
      have k1 : ((er : Int) != 0) = true := by simp; omega
      have k2 : ((er : Int) == 0) = false := by simp; omega
      clear hr he
      go_wp2_with fail
      try go_ret3
      exact HBAD.out er _ HR5.out (Keeps.refl _ _)
  · have HR2 := HR1.out
    rw [if_pos hy0] at HR2
    have HR2 := Lib.hid HR2
    have q2 : ((y : Int) != 0) = true := by simp; omega
    have q3 : ((y : Int) == 0) = false := by simp; omega
    clear HR1 hy0
    go_enter Try.func41, Try.ntmps41
    go_wp2_with fail
    try go_ret3
    exact HBAD.out 11 _ HR2.out (Keeps.refl _ _)
end Go.Proofs.Ytoeapobpdfidkaa
