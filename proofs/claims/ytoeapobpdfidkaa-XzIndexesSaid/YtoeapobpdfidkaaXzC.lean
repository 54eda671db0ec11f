/- xz.Index, walked. -/
import Derived.Test.YtoeapobpdfidkaaXzB
namespace Go.Proofs.Ytoeapobpdfidkaa
open Go.RowKit
set_option linter.unusedVariables false
set_option linter.unusedSimpArgs false

def recB (l : List (Int × Int)) : List Int := l.flatMap fun r => varL r.1.toNat ++ varL r.2.toNat
def bodyP (n : Nat) (l : List (Int × Int)) : List Int := [0] ++ varL n ++ recB l
def idxP (l : List (Int × Int)) : Nat × List Int :=
  if 65536 < l.length ∨ (l.any fun r => !mayP r.1 r.2) = true then (2, [])
  else (0, fillP (bodyP l.length l) ++ leN (crcN (fillP (bodyP l.length l))) 4)
theorem recB_snoc (l : List (Int × Int)) (r : Int × Int) : recB (l ++ [r]) = recB l ++ varL r.1.toNat ++ varL r.2.toNat := by simp [recB]
theorem recB_len : ∀ l : List (Int × Int), (recB l).length ≤ 20 * l.length
  | [] => Nat.le_refl _
  | r :: l => by
    show ((varL r.1.toNat ++ varL r.2.toNat) ++ recB l).length ≤ _
    have h1 := varF_len 9 r.1.toNat
    have h2 := varF_len 9 r.2.toNat
    have h3 := recB_len l
    rw [List.length_append, List.length_append, List.length_cons]
    unfold varL
    omega
theorem bodyP_len (n : Nat) (l : List (Int × Int)) : (bodyP n l).length ≤ 11 + 20 * l.length := by
  have h1 := varF_len 9 n
  have h2 := recB_len l
  unfold bodyP
  rw [List.length_append, List.length_append]
  unfold varL
  simp only [List.length_singleton]
  omega
theorem varL_rng (v : Nat) : ∀ x ∈ varL v, inKind .u8 x := varF_rng 9 v
theorem bodyP_rng (n : Nat) (l : List (Int × Int)) : ∀ x ∈ bodyP n l, inKind .u8 x := fun x hx => by
  unfold bodyP at hx
  rcases List.mem_append.1 hx with hx | hx
  · rcases List.mem_append.1 hx with hx | hx
    · rw [List.mem_singleton.1 hx]; exact mk_u8 (by decide) (by decide)
    · exact varL_rng _ x hx
  · obtain ⟨r, _, hr⟩ := List.mem_flatMap.1 hx
    rcases List.mem_append.1 hr with h | h
    · exact varL_rng _ x h
    · exact varL_rng _ x h
theorem fillP_rng {xs : List Int} (h : ∀ x ∈ xs, inKind .u8 x) : ∀ x ∈ fillP xs, inKind .u8 x := fun x hx => by
  rcases List.mem_append.1 hx with hx | hx
  · exact h x hx
  · rw [(List.mem_replicate.1 hx).2]; exact mk_u8 (by decide) (by decide)
theorem may_of {l : List (Int × Int)} (h : (l.any fun r => !mayP r.1 r.2) = false) : ∀ r ∈ l, 5 ≤ r.1 ∧ r.1 ≤ 1099511627776 ∧ 0 ≤ r.2 ∧ r.2 ≤ 1099511627776 := fun r hr => by
  have h1 := List.any_eq_false.1 h r hr
  have h2 : mayP r.1 r.2 = true := by simpa using h1
  unfold mayP at h2
  simp at h2
  exact ⟨h2.1.1, h2.1.2, h2.2.1, h2.2.2⟩
def IdxPost (w : World) (R : Nat × List Int) (e : Ending) (w' : World) : Prop :=
  ∃ A' c', e = .returned (.tuple #[.slice A' R.2.length c', .int .i64 (R.1 : Nat)]) ∧ w'.ownsRow w.heap.size 5 1 (.slice A' R.2.length c') R.2.length (R.2.map (Value.int .u8)) ∧ Grow w w'
set_option maxRecDepth 8000 in
set_option maxHeartbeats 4000000 in
theorem xIndex_is (w : World) (A : Option Addr) (n c : Nat) (l : List (Int × Int)) (h : Recs w A n c l) (hn : n ≤ 140737488355328) :
    Calls Try.prog 37 #[.slice A n c] w fun e w' => IdxPost w (idxP l) e w' := by
  obtain ⟨R, hR⟩ : ∃ R, R = idxP l := ⟨_, rfl⟩
  obtain ⟨POST, hPOST⟩ : ∃ POST : Ending → World → Prop, POST = fun e w' => IdxPost w R e w' := ⟨_, rfl⟩
  have HPO := Lib.hid hPOST
  rw [← hR]
  show Calls _ _ _ _ fun e w' => (fun e w' => IdxPost w R e w') e w'
  rw [← hPOST]
  have H := Lib.hid h
  have hni : (n : Int) ≤ 140737488355328 := by omega
  obtain ⟨an, han⟩ : ∃ an, an = l.any (fun r => !mayP r.1 r.2) := ⟨_, rfl⟩
  have hr : R = if 65536 < n ∨ an = true then (2, []) else (0, fillP (bodyP n l) ++ leN (crcN (fillP (bodyP n l))) 4) := by rw [hR, idxP, ← han, h.len]
  have HR := Lib.hid hr
  have HC := Lib.hid (fun w' (k : Grow w w') => contains_is w' A n c l (h.grow k) (by omega))
  rw [← han] at HC
  have HAN := Lib.hid han
  have HNN := Lib.hid hn
  clear hR hPOST h hr han hn
  by_cases hb : 65536 < n
  · have hr := HR.out
    rw [if_pos (.inl hb)] at hr
    have HR2 := Lib.hid hr
    have q1 : decide ((65536 : Int) < (n : Int)) = true := decide_eq_true (by omega)
    clear hr hb
    go_enter Try.func37, Try.ntmps37
    go_wp2_with fail
    try go_ret2
    show POST (.returned (.tuple #[.slice none 0 0, .int .i64 (2 : Nat)])) _
    rw [HPO.out, HR2.out]
    exact ⟨none, 0, rfl, own_nil _ _ _, Keeps.refl _ _⟩
  · have q1 : decide ((65536 : Int) < (n : Int)) = false := decide_eq_false (by omega)
    have hn5 : n ≤ 65536 := by omega
    cases an
    · have hr := HR.out
      rw [if_neg (by simp; omega)] at hr
      have HR2 := Lib.hid hr
      have HMY := Lib.hid (may_of HAN.out.symm)
      have HN5 := Lib.hid hn5
      clear hr hb hni
      have hni : (n : Int) ≤ 65536 := by omega
      go_enter Try.func37, Try.ntmps37
      go_wp2_with fail
      refine (HC.out w (Keeps.refl _ _)).mono ?_
      rintro x w1 ⟨rfl, hg1⟩
      have HG1 := Lib.hid hg1
      clear hg1
      go_wp2_with fail
      have hb0 : Nums .u8 (w1.alloc (.cells #[.int .u8 0] 5)) (some ⟨w1.heap.size, 0, none⟩) 1 1 [0] := ⟨rfl, fun x hx => by rw [List.mem_singleton.1 hx]; exact mk_u8 (by decide) (by decide), Nat.le_refl _, fun h => (by cases h), fun _ => ⟨w1.heap.size, 0, rfl, fun j hj => by
        obtain rfl : j = 0 := by omega
        go_simp⟩⟩
      have hg2 : Grow w (w1.alloc (.cells #[.int .u8 0] 5)) := HG1.out.alloc _
      have HB0 := Lib.hid hb0
      have HG2 := Lib.hid hg2
      clear hb0 hg2
      refine (putVar_is _ _ 1 1 n [0] HB0.out (by decide) (by have := HN5.out; omega)).mono ?_
      rintro x w2 ⟨A2, c2, rfl, ho2, hg2⟩
      have HG3 : Hid (Grow w w2) := Grow.trans _ _ _ HG2.out hg2
      have HO3 : Hid (w2.ownsRow w.heap.size 5 1 (.slice A2 (bodyP n []).length c2) (bodyP n []).length ((bodyP n []).map (Value.int .u8))) := by
        have e1 : bodyP n [] = [0] ++ varL n := by simp [bodyP, recB]
        have e2 : (bodyP n []).length = 1 + (varL n).length := by rw [e1, List.length_append]; rfl
        show World.ownsRow _ _ _ _ _ _ _
        rw [e2, e1]
        exact owns_any_base ho2 HG2.out.size
      have e2 : 1 + (varL n).length = (bodyP n []).length := by simp [bodyP, recB]; omega
      rw [e2]
      clear ho2 hg2 HB0 HG2 HG1 e2
      go_wp2_with fail
      go_loopw [4, 7, 25] (fun vb _ vi wr => ∃ (i : Nat) (A4 : Option Addr) (c4 : Nat), i ≤ n ∧ vi = .int .i64 i ∧ vb = .slice A4 (bodyP n (l.take i)).length c4 ∧ Hid (wr.ownsRow w.heap.size 5 1 (.slice A4 (bodyP n (l.take i)).length c4) (bodyP n (l.take i)).length ((bodyP n (l.take i)).map (Value.int .u8))) ∧ Hid (Grow w wr)) (fun _ _ vi _ => n - (intOf vi).toNat)
      case atStart => exact ⟨0, A2, c2, Nat.zero_le _, rfl, by rw [List.take_zero], by rw [List.take_zero]; exact HO3.out, HG3.out⟩
      case round =>
        obtain ⟨i, A4, c4, hi, rfl, rfl, HO, HG⟩ := hrel
        by_cases hin : i < n
        · obtain ⟨b, o, rfl, hc⟩ := H.out.at_ (by omega)
          have hr := hc i hin
          have hlt : i < l.length := by rw [H.out.len]; exact hin
          obtain ⟨s, hs⟩ : ∃ s, s = (l.getD i (0, 0)).1 := ⟨_, rfl⟩
          obtain ⟨t, ht⟩ : ∃ t, t = (l.getD i (0, 0)).2 := ⟨_, rfl⟩
          have hli : l[i]? = some (s, t) := by rw [hs, ht, List.getD_eq_getElem?_getD, List.getElem?_eq_getElem hlt]; rfl
          have hmy := HMY.out (s, t) (List.mem_of_getElem? hli)
          rw [← hs, ← ht] at hr
          have c1 := ckp hr.1 HG.out (fun h => h)
          have c2' := ckp hr.2 HG.out (fun h => h)
          obtain ⟨sn, hsn⟩ : ∃ sn : Nat, s = (sn : Int) := ⟨s.toNat, by have := hmy.1; omega⟩
          obtain ⟨tn, htn⟩ : ∃ tn : Nat, t = (tn : Int) := ⟨t.toNat, by have := hmy.2.2.1; omega⟩
          clear hs ht
          subst hsn
          subst htn
          have hsb : (sn : Int) ≤ 1099511627776 := hmy.2.1
          have htb : (tn : Int) ≤ 1099511627776 := hmy.2.2.2
          have HLI := Lib.hid hli
          have hin' : (i : Int) < (n : Int) := by omega
          obtain ⟨m, hm⟩ : ∃ m, m = (bodyP n (l.take i)).length := ⟨_, rfl⟩
          have hmb : m ≤ 1400000 := by
            have h1 := bodyP_len n (l.take i)
            rw [List.length_take] at h1
            have := HN5.out
            omega
          rw [← hm] at HO ⊢
          have HM := Lib.hid (And.intro hm hmb)
          have HNu := Lib.hid (Nums.of_own HO.out (bodyP_rng _ _))
          clear hc hr hlt hli hmy hm hmb
          go_wp2_with fail
          have hgx := heap_alloc_new wr (.cells #[.int .i64 (sn : Nat), .int .i64 (tn : Nat)] 76)
          have hg5 : Grow wr (wr.alloc (.cells #[.int .i64 (sn : Nat), .int .i64 (tn : Nat)] 76)) := (Keeps.refl _ wr).alloc _
          generalize wr.alloc (.cells #[.int .i64 (sn : Nat), .int .i64 (tn : Nat)] 76) = w5 at *
          obtain ⟨gx, hgxe⟩ : ∃ gx, gx = wr.heap.size := ⟨_, rfl⟩
          rw [← hgxe] at hgx ⊢
          have HG5 : Hid (Grow w w5) := Grow.trans _ _ _ HG.out hg5
          have HN5' := Lib.hid (HNu.out.grow hg5)
          have hx1 := blk_cell hgx 1
          simp at hx1
          have HX1 := Lib.hid hx1
          clear hgx hg5 hgxe c1 c2' hx1 HNu
          refine (putVar_is w5 A4 m c4 sn _ HN5'.out (by have := HM.out; omega) (by omega)).mono ?_
          rintro x w6 ⟨A6, c6, rfl, ho6, hg6⟩
          obtain ⟨m6, hm6⟩ : ∃ m6, m6 = m + (varL sn).length := ⟨_, rfl⟩
          have hv1 := varF_len 9 sn
          have hm6b : m6 ≤ 1500000 := by have := HM.out; unfold varL at hm6; omega
          rw [← hm6] at ho6 ⊢
          have HN6 := Lib.hid (Nums.of_own ho6 (fun y hy => by rcases List.mem_append.1 hy with h | h; exact HN5'.out.rng y h; exact varL_rng _ y h))
          have HG6 : Hid (Grow w w6) := Grow.trans _ _ _ HG5.out hg6
          have c3 := ckp HX1.out hg6 (fun h => h)
          have HM6 := Lib.hid (And.intro hm6 hm6b)
          clear ho6 hg6 hm6 hm6b hv1 HN5' HX1
          go_wp2_with fail
          clear c3
          refine (putVar_is w6 A6 m6 c6 tn _ HN6.out (by have := HM6.out; omega) (by omega)).mono ?_
          rintro x w7 ⟨A7, c7, rfl, ho7, hg7⟩
          have HG7 : Hid (Grow w w7) := Grow.trans _ _ _ HG6.out hg7
          have hbd : bodyP n (l.take (i + 1)) = bodyP n (l.take i) ++ varL sn ++ varL tn := by
            rw [List.take_add_one, HLI.out]
            show [0] ++ varL n ++ recB (l.take i ++ [((sn : Int), (tn : Int))]) = _
            rw [recB_snoc]
            simp [bodyP]
          have hln : m6 + (varL tn).length = (bodyP n (l.take (i + 1))).length := by
            rw [hbd, List.length_append, List.length_append, HM6.out.1, HM.out.1]
          have HO7 : Hid (w7.ownsRow w.heap.size 5 1 (.slice A7 (bodyP n (l.take (i + 1))).length c7) (bodyP n (l.take (i + 1))).length ((bodyP n (l.take (i + 1))).map (Value.int .u8))) := by
            show World.ownsRow _ _ _ _ _ _ _
            rw [hln] at ho7
            rw [hbd] at ho7 ⊢
            exact owns_any_base ho7 HG6.out.size
          rw [hln]
          have hLx : l.length = n := H.out.len
          clear ho7 hg7 hbd hln
          go_wp2_with fail
          go_roundw
          case rel => exact ⟨i + 1, A7, c7, by omega, by go_num, rfl, HO7.out, HG7.out⟩
          case measure => simp [intOf]; omega
        · obtain rfl : i = n := by omega
          have htk : l.take i = l := List.take_of_length_le (by rw [H.out.len]; exact Nat.le_refl _)
          rw [htk] at HO ⊢
          obtain ⟨xs, hxs⟩ : ∃ xs, xs = bodyP i l := ⟨_, rfl⟩
          rw [← hxs] at HO ⊢
          have hxr : ∀ x ∈ xs, inKind .u8 x := by rw [hxs]; exact bodyP_rng _ _
          have hxl : xs.length ≤ 1400000 := by
            have h1 := bodyP_len i l
            rw [hxs]
            have := H.out.len
            have := HN5.out
            omega
          have hr := HR2.out
          rw [← hxs] at hr
          have HR3 := Lib.hid hr
          have HXR := Lib.hid (And.intro hxr hxl)
          clear htk hxs hxr hr hxl
          have HF := Lib.hid (fill_is wr A4 xs.length c4 w.heap.size xs HO.out rfl HG.out.size (by have := HXR.out.2; omega))
          obtain ⟨m, hm⟩ : ∃ m, m = xs.length := ⟨_, rfl⟩
          rw [← hm] at HO HF ⊢
          have HM := Lib.hid hm
          clear hm
          go_wp2_with fail
          refine HF.out.mono ?_
          rintro x w8 ⟨A8, c8, rfl, ho8, hk8⟩
          have HG8 := Lib.hid (grow_own HG.out HO.out (Nat.le_refl _) hk8)
          obtain ⟨m8, hm8⟩ : ∃ m8, m8 = m + padN m := ⟨_, rfl⟩
          have hp4 : padN m < 4 := by unfold padN; omega
          have hm8b : m8 ≤ 1400010 := by have := HXR.out.2; have := HM.out; omega
          have hfl : (fillP xs).length = m8 := by unfold fillP; rw [List.length_append, List.length_replicate, ← HM.out, hm8]
          rw [← hm8] at ho8 ⊢
          have HO8 := Lib.hid ho8
          have HN8 := Lib.hid (Nums.of_own ho8 (fillP_rng HXR.out.1))
          have HM8 := Lib.hid (And.intro hfl hm8b)
          clear ho8 hk8 hm8 hp4 hm8b hfl HF HO HG
          go_wp2_with fail
          refine (xsum_is w8 A8 m8 c8 _ HN8.out (by have := HM8.out; omega)).mono ?_
          rintro x w9 ⟨A9, c9, rfl, ho9, hg9⟩
          have HG9 : Hid (Grow w w9) := Grow.trans _ _ _ HG8.out hg9
          have HO9 := Lib.hid (owns_keep HO8.out hg9 (fun _ _ h => h))
          have HS9 := Lib.hid (Nums.of_own ho9 (leN_rng _ _)).src
          have hz9 := HG9.out.size
          have hm8b : m8 ≤ 1400010 := HM8.out.2
          clear ho9 hg9 HO8 HG8 HN8
          go_wp2_with (at_builtin; refine wpList_appS rfl (.tmp 48) (.tmp 50) 51 5 rfl Try.underlying51 Try.infoU8l rfl (by decide) w.heap.size _ m8 _ rfl HO9.out hz9 A9 4 c9 _ rfl HS9.out (by unfold maxLen; omega) (by omega) ?_)
          intro A10 c10 w10 ho10 k10 _
          have HG10 := Lib.hid (grow_own HG9.out HO9.out (Nat.le_refl _) k10)
          have hRl : R.2.length = m8 + 4 := by rw [HR3.out, List.length_append, HM8.out.1, leN_len]
          have HO10 : Hid (w10.ownsRow w.heap.size 5 1 (.slice A10 R.2.length c10) R.2.length (R.2.map (Value.int .u8))) := by
            show World.ownsRow _ _ _ _ _ _ _
            rw [hRl, HR3.out, List.map_append]
            exact ho10
          have HRL := Lib.hid hRl
          clear ho10 k10 hRl
          go_wp2_with fail
          try go_ret2
          show POST (.returned (.tuple #[.slice A10 (m8 + 4) c10, .int .i64 (0 : Nat)])) _
          rw [HPO.out]
          exact ⟨A10, c10, by rw [← HRL.out, HR3.out], HO10.out, HG10.out⟩
    · have hr := HR.out
      rw [if_pos (.inr rfl)] at hr
      have HR2 := Lib.hid hr
      clear hr hb
      go_enter Try.func37, Try.ntmps37
      go_wp2_with fail
      refine (HC.out w (Keeps.refl _ _)).mono ?_
      rintro x w1 ⟨rfl, hg1⟩
      have HG1 := Lib.hid hg1
      clear hg1
      go_wp2_with fail
      try go_ret2
      show POST (.returned (.tuple #[.slice none 0 0, .int .i64 (2 : Nat)])) _
      rw [HPO.out, HR2.out]
      exact ⟨none, 0, rfl, own_nil _ _ _, HG1.out⟩
end Go.Proofs.Ytoeapobpdfidkaa
