/- The document's Index, walked. -/
import Derived.Test.YtoeapobpdfidkaaXzC
namespace Go.Proofs.Ytoeapobpdfidkaa
open Go.RowKit
set_option linter.unusedVariables false
set_option linter.unusedSimpArgs false

set_option maxRecDepth 4000 in
set_option maxHeartbeats 1000000 in
theorem filled_is (w : World) (A : Option Addr) (m c B : Nat) (xs : List Int) (ho : w.ownsRow B 5 1 (.slice A m c) m (xs.map (Value.int .u8))) (hl : xs.length = m) (hB : B ≤ w.heap.size) (hm : m ≤ 4194304) :
    Calls Try.prog 65 #[.slice A m c] w fun e w' => ∃ A' c', e = .returned (.slice A' (m + padN m) c') ∧ w'.ownsRow B 5 1 (.slice A' (m + padN m) c') (m + padN m) ((fillP xs).map (Value.int .u8)) ∧ (∀ W0, Grow W0 w → W0.heap.size ≤ B → Grow W0 w') := by
  have HO := Lib.hid ho
  have HB := Lib.hid hB
  have HM := Lib.hid (And.intro hl hm)
  clear ho hl hB hm
  go_enter Try.func65, Try.ntmps65
  go_wp2_with fail
  go_loopw [0] (fun vb wr => ∃ (j m2 : Nat) (A2 : Option Addr) (c2 : Nat), vb = .slice A2 m2 c2 ∧ m2 = m + j ∧ j ≤ padN m ∧ Hid (wr.ownsRow B 5 1 (.slice A2 m2 c2) m2 ((xs ++ List.replicate j 0).map (Value.int .u8))) ∧ Hid (B ≤ wr.heap.size) ∧ Hid (∀ W0, Grow W0 w → W0.heap.size ≤ B → Grow W0 wr)) (fun vb _ => match vb with | .slice _ k _ => padN k | _ => 0)
  case atStart => exact ⟨0, m, A, c, rfl, rfl, Nat.zero_le _, by show World.ownsRow _ _ _ _ _ _ _; simpa using HO.out, HB.out, fun W0 h _ => h⟩
  case round =>
    obtain ⟨j, m2, A2, c2, rfl, hm2, hj, HO2, HB2, HG2⟩ := hrel
    have HJ := Lib.hid (And.intro hm2 hj)
    have hm2b : m2 ≤ 4194308 := by have := HM.out.2; unfold padN at hj; omega
    have hm2i : (m2 : Int) ≤ 4194308 := by omega
    clear hm2 hj
    by_cases h4 : m2 % 4 = 0
    · have q1 : (m2 : Int) % 4 = 0 := by omega
      have q2 : ((m2 : Int) % 4 == 0) = true := by simp; omega
      have hjp : j = padN m := by have := HJ.out; unfold padN at *; omega
      have HJP := Lib.hid hjp
      clear hjp h4
      go_wp2_with fail
      go_ret
      have e1 : m2 = m + padN m := by rw [← HJP.out]; exact HJ.out.1
      have h9 := HO2.out
      rw [HJP.out, e1] at h9
      exact ⟨A2, c2, by rw [e1]; rfl, by unfold fillP; rw [HM.out.1]; exact h9, HG2.out⟩
    · have q1 : ((m2 : Int) % 4 == 0) = false := by simp; omega
      have q2 : ¬ (m2 : Int) % 4 = 0 := by omega
      go_wp2_with (at_builtin; refine wpList_app1 rfl (.tmp 7) (.tmp 8) 51 5 rfl Try.underlying51 Try.infoU8l rfl B _ m2 _ rfl HO2.out HB2.out rfl rfl (by unfold maxLen; omega) (by omega) ?_)
      intro g cap w4 ho4 hk4 _
      have HO4 : Hid (w4.ownsRow B 5 1 (.slice (some ⟨g, 0, none⟩) (m2 + 1) cap) (m2 + 1) ((xs ++ List.replicate (j + 1) 0).map (Value.int .u8))) := by
        show World.ownsRow _ _ _ _ _ _ _
        rw [List.replicate_succ']
        simp only [List.map_append, List.map_cons, List.map_nil, List.map_replicate, ← List.append_assoc] at ho4 ⊢
        exact ho4
      have HG4 : Hid (∀ W0, Grow W0 w → W0.heap.size ≤ B → Grow W0 w4) := fun W0 h1 h2 => grow_own (HG2.out W0 h1 h2) HO2.out h2 hk4
      have HB4 : Hid (B ≤ w4.heap.size) := Nat.le_trans HB2.out hk4.size
      have H4 := Lib.hid h4
      clear ho4 hk4 h4 q1 q2
      go_wp2_with fail
      go_roundw
      case rel => exact ⟨j + 1, m2 + 1, some ⟨g, 0, none⟩, cap, rfl, by have := HJ.out; omega, by have := HJ.out; have := H4.out; unfold padN at *; omega, HO4.out, HB4.out, HG4.out⟩
      case measure => have := H4.out; simp [padN]; omega
set_option maxRecDepth 8000 in
set_option maxHeartbeats 4000000 in
theorem rIndex_is (w : World) (A : Option Addr) (n c : Nat) (l : List (Int × Int)) (h : Recs w A n c l) (hn : n ≤ 140737488355328) :
    Calls Try.prog 38 #[.slice A n c] w fun e w' => IdxPost w (idxP l) e w' := by
  obtain ⟨R, hR⟩ : ∃ R, R = idxP l := ⟨_, rfl⟩
  obtain ⟨POST, hPOST⟩ : ∃ POST : Ending → World → Prop, POST = fun e w' => IdxPost w R e w' := ⟨_, rfl⟩
  have HPO := Lib.hid hPOST
  rw [← hR]
  show Calls _ _ _ _ fun e w' => (fun e w' => IdxPost w R e w') e w'
  rw [← hPOST]
  have H := Lib.hid h
  have hni : (n : Int) ≤ 140737488355328 := by omega
  obtain ⟨an, han⟩ : ∃ an, an = l.any (fun r => !mayP r.1 r.2) := ⟨_, rfl⟩
  have hr : R = if 65536 < n ∨ an = true then (2, []) else (0, fillP (bodyP n l) ++ leN (crcN (fillP (bodyP n l))) 4) := by rw [hR, idxP, ← han, h.len]
  have HR := Lib.hid hr
  have HAN := Lib.hid han
  clear hR hPOST h hr han
  by_cases hb : 65536 < n
  · have hr := HR.out
    rw [if_pos (.inl hb)] at hr
    have HR2 := Lib.hid hr
    have q1 : decide ((65536 : Int) < (n : Int)) = true := decide_eq_true (by omega)
    clear hr hb hn
    go_enter Try.func38, Try.ntmps38
    go_wp2_with fail
    try go_ret2
    show POST (.returned (.tuple #[.slice none 0 0, .int .i64 (2 : Nat)])) _
    rw [HPO.out, HR2.out]
    exact ⟨none, 0, rfl, own_nil _ _ _, Keeps.refl _ _⟩
  · have q1 : decide ((65536 : Int) < (n : Int)) = false := decide_eq_false (by omega)
    have HN5 : Hid (n ≤ 65536) := by show _ ≤ _; omega
    clear hni hn hb
    have hni : (n : Int) ≤ 65536 := by have := HN5.out; omega
    go_enter Try.func38, Try.ntmps38
    go_wp2_with fail
    refine (rPutVar_is w n (by have := HN5.out; omega)).mono ?_
    rintro x w1 ⟨A1, c1, rfl, ho1, hg1⟩
    have HG1 := Lib.hid hg1
    have hv1 := varF_len 9 n
    obtain ⟨k1, hk1⟩ : ∃ k1, k1 = (varL n).length := ⟨_, rfl⟩
    have hk1b : k1 ≤ 10 := by rw [hk1]; unfold varL; omega
    rw [← hk1] at ho1 ⊢
    have HS1 := Lib.hid ((Nums.of_own ho1 (varL_rng n)).grow ((Keeps.refl (fun _ => False) w1).alloc (.cells #[.int .u8 0] 5))).src
    have HK1 := Lib.hid hk1
    have hrow0 : (w1.alloc (.cells #[.int .u8 0] 5)).ownsRow w.heap.size 5 1 (.slice (some ⟨w1.heap.size, 0, none⟩) 1 1) 1 [.int .u8 0] :=
      ⟨rfl, .inr ⟨w1.heap.size, 1, #[.int .u8 0], rfl, HG1.out.size, heap_alloc_new w1 _, Nat.le_refl _, by decide, rfl, rfl⟩⟩
    have HR0 := Lib.hid hrow0
    have hz1 : w.heap.size ≤ (w1.alloc (.cells #[.int .u8 0] 5)).heap.size := (HG1.out.alloc _).size
    clear ho1 hg1 hv1 hk1 hrow0
    go_wp2_with (at_builtin; refine wpList_appS rfl (.tmp 22) (.tmp 23) 51 5 rfl Try.underlying51 Try.infoU8l rfl (by decide) w.heap.size _ 1 _ rfl HR0.out hz1 A1 k1 c1 _ rfl HS1.out (by unfold maxLen; omega) (by omega) ?_)
    intro A2 c2 w2 ho2 k2 _
    have HG2 := Lib.hid (grow_own (HG1.out.alloc _) HR0.out (Nat.le_refl _) k2)
    have e1 : bodyP n [] = [0] ++ varL n := by simp [bodyP, recB]
    have e2 : (bodyP n []).length = 1 + k1 := by rw [e1, List.length_append, HK1.out]; rfl
    have HO2 : Hid (w2.ownsRow w.heap.size 5 1 (.slice A2 (bodyP n []).length c2) (bodyP n []).length ((bodyP n []).map (Value.int .u8))) := by
      show World.ownsRow _ _ _ _ _ _ _
      rw [e2, e1, List.map_append]
      exact ho2
    rw [← e2]
    clear ho2 k2 e1 e2 HR0 HS1 hz1
    go_wp2_with fail
    go_loopw [6, 7, 8, 10] (fun vb vi _ _ wr => ∃ (i : Nat) (A4 : Option Addr) (c4 : Nat), i ≤ n ∧ vi = .int .i64 i ∧ vb = .slice A4 (bodyP n (l.take i)).length c4 ∧ Hid (∀ r ∈ l.take i, mayP r.1 r.2 = true) ∧ Hid (wr.ownsRow w.heap.size 5 1 (.slice A4 (bodyP n (l.take i)).length c4) (bodyP n (l.take i)).length ((bodyP n (l.take i)).map (Value.int .u8))) ∧ Hid (Grow w wr)) (fun _ vi _ _ _ => n - (intOf vi).toNat)
    case atStart => exact ⟨0, A2, c2, Nat.zero_le _, rfl, by rw [List.take_zero], fun r hr => by simp at hr, by rw [List.take_zero]; exact HO2.out, HG2.out⟩
    case round =>
      obtain ⟨i, A4, c4, hi, rfl, rfl, HMY, HO, HG⟩ := hrel
      by_cases hin : i < n
      · obtain ⟨b, o, rfl, hc⟩ := H.out.at_ (by omega)
        have hr := hc i hin
        have hlt : i < l.length := by rw [H.out.len]; exact hin
        obtain ⟨s, hs⟩ : ∃ s, s = (l.getD i (0, 0)).1 := ⟨_, rfl⟩
        obtain ⟨t, ht⟩ : ∃ t, t = (l.getD i (0, 0)).2 := ⟨_, rfl⟩
        have hli : l[i]? = some (s, t) := by rw [hs, ht, List.getD_eq_getElem?_getD, List.getElem?_eq_getElem hlt]; rfl
        rw [← hs, ← ht] at hr
        have c1 := ckp hr.1 HG.out (fun h => h)
        have c2' := ckp hr.2 HG.out (fun h => h)
        have HLI := Lib.hid hli
        have HCS := Lib.hid hr
        have hin' : (i : Int) < (n : Int) := by omega
        obtain ⟨m, hm⟩ : ∃ m, m = (bodyP n (l.take i)).length := ⟨_, rfl⟩
        have hmb : m ≤ 1400000 := by
          have h1 := bodyP_len n (l.take i)
          rw [List.length_take] at h1
          have := HN5.out
          omega
        rw [← hm] at HO ⊢
        have HM := Lib.hid (And.intro hm hmb)
        clear hc hr hlt hli hs ht hm hmb
        go_wp2_with fail
        refine (rmay_is wr s t).mono ?_
        rintro x w5 ⟨rfl, hg5⟩
        have HG5 : Hid (Grow w w5) := Grow.trans _ _ _ HG.out hg5
        have HO5 := Lib.hid (owns_keep HO.out hg5 (fun _ _ h => h))
        have d1 := ckp c1 hg5 (fun h => h)
        have d2 := ckp c2' hg5 (fun h => h)
        clear hg5 c1 c2'
        obtain ⟨mm, hmm⟩ : ∃ mm, mm = mayP s t := ⟨_, rfl⟩
        rw [← hmm]
        have HMM := Lib.hid hmm
        clear hmm
        cases mm
        · have hr : R = (2, []) := by
            have ha : an = true := by
              rw [HAN.out]
              exact List.any_eq_true.2 ⟨(s, t), List.mem_of_getElem? HLI.out, by show (!mayP s t) = true; rw [← HMM.out]; rfl⟩
            rw [HR.out, if_pos (.inr ha)]
          have HR2 := Lib.hid hr
          clear hr
          go_wp2_with fail
          try go_ret2
          show POST (.returned (.tuple #[.slice none 0 0, .int .i64 (2 : Nat)])) _
          rw [HPO.out, HR2.out]
          exact ⟨none, 0, rfl, own_nil _ _ _, HG5.out⟩
        · have hmy : 5 ≤ s ∧ s ≤ 1099511627776 ∧ 0 ≤ t ∧ t ≤ 1099511627776 := by
            have h2 := HMM.out.symm
            unfold mayP at h2
            simp at h2
            exact ⟨h2.1.1, h2.1.2, h2.2.1, h2.2.2⟩
          obtain ⟨sn, hsn⟩ : ∃ sn : Nat, s = (sn : Int) := ⟨s.toNat, by have := hmy.1; omega⟩
          obtain ⟨tn, htn⟩ : ∃ tn : Nat, t = (tn : Int) := ⟨t.toNat, by have := hmy.2.2.1; omega⟩
          subst hsn
          subst htn
          have hsb : (sn : Int) ≤ 1099511627776 := hmy.2.1
          have htb : (tn : Int) ≤ 1099511627776 := hmy.2.2.2
          clear hmy
          have HC2 := Lib.hid d2
          have HIN := Lib.hid hin'
          go_wp2_with fail
          refine (rPutVar_is w5 sn (by omega)).mono ?_
          rintro x w6 ⟨A6, c6, rfl, ho6, hg6⟩
          obtain ⟨ks, hks⟩ : ∃ ks, ks = (varL sn).length := ⟨_, rfl⟩
          have hv1 := varF_len 9 sn
          have hksb : ks ≤ 10 := by rw [hks]; unfold varL; omega
          rw [← hks] at ho6 ⊢
          have HO6 := Lib.hid ho6
          have HG6 : Hid (Grow w w6) := Grow.trans _ _ _ HG5.out hg6
          have HR6 := Lib.hid (owns_keep HO5.out hg6 (fun _ _ h => h))
          have c3 := ckp HC2.out hg6 (fun h => h)
          have HKS := Lib.hid hks
          have HZ56 := Lib.hid hg6.size
          have HL5 : Hid (∀ k, (Value.slice A4 m c4).ownBlock = some k → k < w5.heap.size) := fun k hk => row_lt HO5.out k hk
          clear ho6 hks hv1 d1 d2 hg6 HO5 HO
          go_wp2_with fail
          refine (rPutVar_is w6 tn (by omega)).mono ?_
          rintro x w7 ⟨A7, c7, rfl, ho7, hg7⟩
          obtain ⟨kt, hkt⟩ : ∃ kt, kt = (varL tn).length := ⟨_, rfl⟩
          have hv1 := varF_len 9 tn
          have hktb : kt ≤ 10 := by rw [hkt]; unfold varL; omega
          rw [← hkt] at ho7 ⊢
          have HO7 := Lib.hid ho7
          have HG7 : Hid (Grow w w7) := Grow.trans _ _ _ HG6.out hg7
          have HR7 := Lib.hid (owns_keep HR6.out hg7 (fun _ _ h => h))
          have HS7 := Lib.hid (Nums.of_own (owns_keep HO6.out hg7 (fun _ _ h => h)) (varL_rng sn)).src
          have hz7 := HG7.out.size
          have HKT := Lib.hid hkt
          have hz56 : w5.heap.size ≤ w6.heap.size := HZ56.out
          have hmb := HM.out.2
          clear ho7 hkt hv1 c3 hg7 HR6
          go_wp2_with (at_builtin; refine wpList_appS rfl (.tmp 57) (.tmp 58) 51 5 rfl Try.underlying51 Try.infoU8l rfl (by decide) w.heap.size _ m _ rfl HR7.out hz7 A6 ks c6 _ rfl HS7.out (by unfold maxLen; omega) (by omega) ?_)
          intro A8 c8 w8 ho8 k8 _
          have HG8 := Lib.hid (grow_own HG7.out HR7.out (Nat.le_refl _) k8)
          have HO8 : Hid (w8.ownsRow w.heap.size 5 1 (.slice A8 (m + ks) c8) (m + ks) ((bodyP n (l.take i) ++ varL sn).map (Value.int .u8))) := by
            show World.ownsRow _ _ _ _ _ _ _
            rw [List.map_append]; exact ho8
          have HS8 := Lib.hid (Nums.of_own (owns_keep HO7.out k8 (fun k hk h9 => by have h1 := own_ge HO7.out k hk; have h2 := HL5.out k h9; omega)) (varL_rng tn)).src
          have hz8 := HG8.out.size
          clear ho8 k8 HS7 hz7
          go_wp2_with (at_builtin; refine wpList_appS rfl (.tmp 59) (.tmp 60) 51 5 rfl Try.underlying51 Try.infoU8l rfl (by decide) w.heap.size _ (m + ks) _ rfl HO8.out hz8 A7 kt c7 _ rfl HS8.out (by unfold maxLen; omega) (by omega) ?_)
          intro A9 c9 w9 ho9 k9 _
          have HG9 := Lib.hid (grow_own HG8.out HO8.out (Nat.le_refl _) k9)
          have hbd : bodyP n (l.take (i + 1)) = bodyP n (l.take i) ++ varL sn ++ varL tn := by
            rw [List.take_add_one, HLI.out]
            show [0] ++ varL n ++ recB (l.take i ++ [((sn : Int), (tn : Int))]) = _
            rw [recB_snoc]
            simp [bodyP]
          have hln : m + ks + kt = (bodyP n (l.take (i + 1))).length := by
            rw [hbd, List.length_append, List.length_append, HKS.out, HKT.out, HM.out.1]
          have HO9 : Hid (w9.ownsRow w.heap.size 5 1 (.slice A9 (bodyP n (l.take (i + 1))).length c9) (bodyP n (l.take (i + 1))).length ((bodyP n (l.take (i + 1))).map (Value.int .u8))) := by
            show World.ownsRow _ _ _ _ _ _ _
            rw [← hln, hbd]
            simp only [List.map_append, List.append_assoc] at ho9 ⊢
            exact ho9
          have HMY2 : Hid (∀ r ∈ l.take (i + 1), mayP r.1 r.2 = true) := fun r hr => by
            rw [List.take_add_one, HLI.out] at hr
            rcases List.mem_append.1 hr with hr | hr
            · exact HMY.out r hr
            · simp at hr
              rw [hr]; exact HMM.out.symm
          rw [hln]
          clear ho9 k9 hbd hln hz8 hz56
          go_wp2_with fail
          go_roundw
          case rel => exact ⟨i + 1, A9, c9, by omega, by go_num, rfl, HMY2.out, HO9.out, HG9.out⟩
          case measure => simp [intOf]; omega
      · obtain rfl : i = n := by omega
        have htk : l.take i = l := List.take_of_length_le (by rw [H.out.len]; exact Nat.le_refl _)
        rw [htk] at HO HMY ⊢
        have han0 : an = false := by
          rw [HAN.out, List.any_eq_false]
          intro r hr
          rw [HMY.out r hr]; decide
        have hr := HR.out
        rw [if_neg (by have := HN5.out; simp [han0]; omega)] at hr
        obtain ⟨xs, hxs⟩ : ∃ xs, xs = bodyP i l := ⟨_, rfl⟩
        rw [← hxs] at HO hr ⊢
        have HR3 := Lib.hid hr
        have hxr : ∀ x ∈ xs, inKind .u8 x := by rw [hxs]; exact bodyP_rng _ _
        have hxl : xs.length ≤ 1400000 := by
          have h1 := bodyP_len i l
          rw [hxs]
          have := H.out.len
          have := HN5.out
          omega
        have HXR := Lib.hid (And.intro hxr hxl)
        clear htk hxs hxr hr hxl han0
        have HF := Lib.hid (filled_is wr A4 xs.length c4 w.heap.size xs HO.out rfl HG.out.size (by have := HXR.out.2; omega))
        obtain ⟨m, hm⟩ : ∃ m, m = xs.length := ⟨_, rfl⟩
        rw [← hm] at HO HF ⊢
        have HM := Lib.hid hm
        clear hm
        go_wp2_with fail
        refine HF.out.mono ?_
        rintro x w8 ⟨A8, c8, rfl, ho8, hk8⟩
        have HG8 := Lib.hid (hk8 w HG.out (Nat.le_refl _))
        obtain ⟨m8, hm8⟩ : ∃ m8, m8 = m + padN m := ⟨_, rfl⟩
        have hp4 : padN m < 4 := by unfold padN; omega
        have hm8b : m8 ≤ 1400010 := by have := HXR.out.2; have := HM.out; omega
        have hfl : (fillP xs).length = m8 := by unfold fillP; rw [List.length_append, List.length_replicate, ← HM.out, hm8]
        rw [← hm8] at ho8 ⊢
        have HO8 := Lib.hid ho8
        have HN8 := Lib.hid (Nums.of_own ho8 (fillP_rng HXR.out.1))
        have HM8 := Lib.hid (And.intro hfl hm8b)
        clear ho8 hk8 hm8 hp4 hm8b hfl HF HO HG
        go_wp2_with fail
        refine (rcrc_is w8 A8 m8 c8 _ HN8.out (by have := HM8.out; omega)).mono ?_
        rintro x w9 ⟨A9, c9, rfl, ho9, hg9⟩
        have HG9 : Hid (Grow w w9) := Grow.trans _ _ _ HG8.out hg9
        have HO9 := Lib.hid (owns_keep HO8.out hg9 (fun _ _ h => h))
        have HS9 := Lib.hid (Nums.of_own ho9 (leN_rng _ _)).src
        have hz9 := HG9.out.size
        have hm8b : m8 ≤ 1400010 := HM8.out.2
        clear ho9 hg9 HO8 HG8 HN8
        go_wp2_with (at_builtin; refine wpList_appS rfl (.tmp 64) (.tmp 66) 51 5 rfl Try.underlying51 Try.infoU8l rfl (by decide) w.heap.size _ m8 _ rfl HO9.out hz9 A9 4 c9 _ rfl HS9.out (by unfold maxLen; omega) (by omega) ?_)
        intro A10 c10 w10 ho10 k10 _
        have HG10 := Lib.hid (grow_own HG9.out HO9.out (Nat.le_refl _) k10)
        have hRl : R.2.length = m8 + 4 := by rw [HR3.out, List.length_append, HM8.out.1, leN_len]
        have HO10 : Hid (w10.ownsRow w.heap.size 5 1 (.slice A10 R.2.length c10) R.2.length (R.2.map (Value.int .u8))) := by
          show World.ownsRow _ _ _ _ _ _ _
          rw [hRl, HR3.out, List.map_append]
          exact ho10
        have HRL := Lib.hid hRl
        clear ho10 k10 hRl
        go_wp2_with fail
        try go_ret2
        show POST (.returned (.tuple #[.slice A10 (m8 + 4) c10, .int .i64 (0 : Nat)])) _
        rw [HPO.out]
        exact ⟨A10, c10, by rw [← HRL.out, HR3.out], HO10.out, HG10.out⟩
end Go.Proofs.Ytoeapobpdfidkaa
