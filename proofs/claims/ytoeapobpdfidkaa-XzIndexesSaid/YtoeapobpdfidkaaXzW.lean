/- The walk of hamperlaw16.XzIndexes. -/
import Derived.Test.YtoeapobpdfidkaaXzJ
namespace Go.Proofs.Ytoeapobpdfidkaa
open Go.RowKit
set_option linter.unusedVariables false
set_option linter.unusedSimpArgs false

theorem xiSum {α : Type} (l : List α) : (l.map (fun _ => 1)).sum = l.length := by
  induction l with
  | nil => rfl
  | cons x r ih => simp only [List.map_cons, List.sum_cons, List.length_cons, ih]; omega
theorem len_sum {α : Type} (f : α → Nat) (h : ∀ x, 1 ≤ f x) : ∀ l : List α, l.length ≤ (l.map f).sum
  | [] => Nat.le_refl _
  | x :: r => by
    have h1 := len_sum f h r
    have h2 := h x
    simp only [List.length_cons, List.map_cons, List.sum_cons]
    omega
theorem recsG_len (xs : List Int) (n : Nat) : ∀ (k a : Nat) (l : List (Int × Int)), (recsG xs n k a l).2.1.length ≤ l.length + k
  | 0, _, l => Nat.le_refl _
  | k + 1, a, l => by
    rw [recsG]
    split
    · exact Nat.zero_le _
    split
    · exact Nat.zero_le _
    split
    · exact Nat.zero_le _
    · have h := recsG_len xs n k (varP xs n (varP xs n a).2.2).2.2 (l ++ [((((varP xs n a).2.1 : Nat) : Int), (((varP xs n (varP xs n a).2.2).2.1 : Nat) : Int))])
      rw [List.length_append, List.length_singleton] at h
      omega
theorem readP_len (xs : List Int) (n : Nat) : (readP xs n).2.1.length ≤ 65536 := by
  have hh : (headP xs n).2.1 ≤ 65536 := by
    unfold headP
    split
    · exact Nat.zero_le _
    split
    · exact Nat.zero_le _
    split
    · exact Nat.zero_le _
    split
    · exact Nat.zero_le _
    · show (varP xs n 1).2.1 ≤ 65536
      omega
  have hr := recsG_len xs n (headP xs n).2.1 (headP xs n).2.2 []
  rw [List.length_nil] at hr
  unfold readP
  split
  · exact Nat.zero_le _
  · unfold finP
    split
    · exact Nat.zero_le _
    split
    · exact Nat.zero_le _
    split
    · exact Nat.zero_le _
    split
    · exact Nat.zero_le _
    · show (recsG xs n (headP xs n).2.1 (headP xs n).2.2 []).2.1.length ≤ 65536
      omega
theorem own_none2 (w : World) (e : TypeId) : (w.alloc (.cells #[] e)).ownsRow w.heap.size e 2 (.slice (some ⟨w.heap.size, 0, none⟩) 0 0) 0 [] :=
  ⟨rfl, .inr ⟨w.heap.size, 0, #[], rfl, Nat.le_refl _, heap_alloc_new w _, Nat.le_refl _, by decide, rfl, rfl⟩⟩
theorem own_none1 (w : World) (e : TypeId) : (w.alloc (.cells #[] e)).ownsRow w.heap.size e 1 (.slice (some ⟨w.heap.size, 0, none⟩) 0 0) 0 [] :=
  ⟨rfl, .inr ⟨w.heap.size, 0, #[], rfl, Nat.le_refl _, heap_alloc_new w _, Nat.le_refl _, by decide, rfl, rfl⟩⟩
set_option maxRecDepth 8000 in
set_option maxHeartbeats 4000000 in
theorem walkXzIndexes (W : World) (a0 : Option Addr) (c0 : Nat) (x0 : List ((Int) × (Int) × Unit)) (_h0 : Sh.Rd W (.sl 16 (.pair (.int .i64) (.pair (.int .i64) .nil))) [.slice a0 x0.length c0] x0) (a1 : Option Addr) (c1 : Nat) (x1 : List (Int)) (_h1 : Sh.Rd W (.sl 1 (.int .u8)) [.slice a1 x1.length c1] x1) :
    Calls Try.prog 9 #[.slice a0 x0.length c0, .slice a1 x1.length c1] W fun e w' => e = .returned (.bool true) ∧ Below W.heap.size W w' := by
  obtain ⟨hR0, hcb0⟩ := Recs.of_rd _h0
  obtain ⟨hN1, hcb1⟩ := Nums.of_rd _h1
  obtain ⟨l, hl⟩ : ∃ l, l = x0.map fun r => (r.1, r.2.1) := ⟨_, rfl⟩
  rw [← hl] at hR0
  have hcp0 := hR0.cap
  have hcp1 := hN1.cap
  have hmu : x0.length ≤ 8796093022208 ∧ x1.length ≤ 140737488355328 := by omega
  generalize hm : x0.length = m at *
  generalize hk : x1.length = k at *
  have HR0 := Lib.hid hR0
  have HN1 := Lib.hid hN1
  have HMU : Hid (m ≤ 8796093022208) := hmu.1
  have HKU : Hid (k ≤ 140737488355328) := hmu.2
  have ho0 := own_none2 W 76
  have HS0 := Lib.hid (hR0.grow ((Keeps.refl (fun _ => False) W).alloc (.cells #[] 76))).src
  have hmb : m ≤ 8796093022208 := hmu.1
  have hmc : m ≤ 140737488355328 := by omega
  have hkb : k ≤ 140737488355328 := hmu.2
  clear hR0 hN1 hcp0 hcp1 hcb0 hcb1 hl hm hk hmu _h0 _h1
  go_enter Try.func9, Try.ntmps9
  go_wp2_with (at_builtin; refine wpList_appS rfl (.tmp 17) (.tmp 18) 63 76 rfl Try.underlying63 Try.infoXr rfl (by decide) W.heap.size _ 0 _ rfl ho0 (by simp) a0 m c0 _ rfl HS0.out (by unfold maxLen; omega) (by omega) ?_)
  intro A1 c2 wa ho1 k1 _
  (try simp only [Nat.zero_add, List.nil_append] at ho1)
  (try simp only [Nat.zero_add])
  have HGa : Hid (Grow W wa) := Keeps.trans ((Keeps.refl (fun _ => False) W).alloc (.cells #[] 76)) k1 (fun i hi h => by simp [Value.ownBlock] at h; omega)
  have HRa : Hid (Recs wa A1 m c2 l) := Recs.of_own ho1 HR0.out.rng
  clear ho1 k1 ho0 HS0
  obtain ⟨I, hI⟩ : ∃ I, I = idxP l := ⟨_, rfl⟩
  have HP := Lib.hid (xIndex_is wa A1 m c2 l HRa.out hmc)
  have HQ := Lib.hid (fun w A c h => rIndex_is w A m c l h hmc)
  have HPR := Lib.hid (fun w h => refs16_is w a0 m c0 l h hmb)
  rw [← hI] at HP HQ
  clear hI
  go_wp2_with fail
  refine HP.out.mono ?_
  rintro x w2 ⟨A2, c3, rfl, ho2, hg2⟩
  have HG2 : Hid (Grow W w2) := Grow.trans _ _ _ HGa.out hg2
  have HO2 := Lib.hid ho2
  clear ho2 hg2 HP HRa
  go_wp2_with fail
  refine (HPR.out w2 (HR0.out.grow HG2.out)).mono ?_
  rintro x w3 ⟨A3, c4, rfl, hr3, hg3⟩
  have HG3 : Hid (Grow W w3) := Grow.trans _ _ _ HG2.out hg3
  have HR3 := Lib.hid hr3
  have HO3 := Lib.hid (owns_keep HO2.out hg3 (fun _ _ h => h))
  clear hr3 hg3 HPR HO2 HG2
  go_wp2_with fail
  refine (HQ.out w3 A3 c4 HR3.out).mono ?_
  rintro x w4 ⟨A4, c5, rfl, ho4, hg4⟩
  have HG4 : Hid (Grow W w4) := Grow.trans _ _ _ HG3.out hg4
  have HO4 := Lib.hid ho4
  have HO4a := Lib.hid (owns_keep HO3.out hg4 (fun _ _ h => h))
  clear ho4 hg4 HQ HO3 HR3
  have ho5 := own_none1 w4 5
  have HS5 := Lib.hid ((HN1.out.grow HG4.out).grow ((Keeps.refl (fun _ => False) w4).alloc (.cells #[] 5))).src
  go_wp2_with (at_builtin; refine wpList_appS rfl (.tmp 30) (.tmp 31) 51 5 rfl Try.underlying51 Try.infoU8l rfl (by decide) w4.heap.size _ 0 _ rfl ho5 (by simp) a1 k c1 _ rfl HS5.out (by unfold maxLen; omega) (by omega) ?_)
  intro A5 c6 w5 ho6 k5 _
  (try simp only [Nat.zero_add, List.nil_append] at ho6)
  (try simp only [Nat.zero_add])
  have hg5 : Grow w4 w5 := Keeps.trans ((Keeps.refl (fun _ => False) w4).alloc (.cells #[] 5)) k5 (fun i hi h => by simp [Value.ownBlock] at h; omega)
  have HG5 : Hid (Grow W w5) := Grow.trans _ _ _ HG4.out hg5
  have HN5 := Lib.hid (Nums.of_own ho6 HN1.out.rng)
  have HLT : Hid (∀ b, A5 = some b → b.block < w5.heap.size) := fun b hb => by
    subst hb
    exact (ho6.lt b.block rfl).2
  have HO5 := Lib.hid (owns_keep HO4.out hg5 (fun _ _ h => h))
  have HO5a := Lib.hid (owns_keep HO4a.out hg5 (fun _ _ h => h))
  clear ho6 k5 hg5 ho5 HS5 HO4 HO4a
  obtain ⟨R, hR⟩ : ∃ R, R = readP x1 k := ⟨_, rfl⟩
  have HP := Lib.hid (xread_is w5 k c6 A5 x1 HN5.out HLT.out hkb)
  have HQ := Lib.hid (fun w h => rread_is w k c1 a1 x1 h hkb)
  rw [← hR] at HP HQ
  have HRE := Lib.hid hR
  clear hR
  go_wp2_with fail
  refine HP.out.mono ?_
  rintro x w6 ⟨A6, c7, rfl, hr6, hf6, hg6⟩
  have HG6 : Hid (Grow W w6) := Grow.trans _ _ _ HG5.out hg6
  have HR6 := Lib.hid hr6
  have HF6 : Hid (∀ b, A6 = some b → w5.heap.size ≤ b.block) := hf6
  have HO6 := Lib.hid (owns_keep HO5.out hg6 (fun _ _ h => h))
  have HO6a := Lib.hid (owns_keep HO5a.out hg6 (fun _ _ h => h))
  have HLO := Lib.hid (fun j h => (HO5a.out.lt j h).2)
  have hz6 := hg6.size
  clear hr6 hf6 hg6 HP HO5 HO5a HN5 HLT
  go_wp2_with fail
  refine (HQ.out w6 (HN1.out.grow HG6.out)).mono ?_
  rintro x w7 ⟨A7, c8, rfl, hr7, hf7, hg7⟩
  have HG7 : Hid (Grow W w7) := Grow.trans _ _ _ HG6.out hg7
  have HR7 := Lib.hid hr7
  have HF7 : Hid (∀ b, A7 = some b → w5.heap.size ≤ b.block) := fun b hb => Nat.le_trans hz6 (hf7 b hb)
  have HO7 := Lib.hid (owns_keep HO6.out hg7 (fun _ _ h => h))
  have HO7a := Lib.hid (owns_keep HO6a.out hg7 (fun _ _ h => h))
  have HR6' := Lib.hid (HR6.out.grow hg7)
  have HWA : Hid (W.heap.size ≤ wa.heap.size) := HGa.out.size
  clear hr7 hf7 hg7 HQ HO6 HO6a HR6 hz6 HGa HG3 HG4 HG5 HG6 HN1 HR0
  simp only
  obtain ⟨L, hL⟩ : ∃ L, L = R.2.1.length := ⟨_, rfl⟩
  have hLb : L ≤ 65536 := by rw [hL, HRE.out]; exact readP_len x1 k
  have hLi : (L : Int) ≤ 65536 := by omega
  rw [← hL] at HR7 HR6' ⊢
  clear hL HRE
  have h1 : ((I.1 : Int) != (I.1 : Int)) = false := by simp
  have h2 : ((R.2.2 : Int) != (R.2.2 : Int)) = false := by simp
  have h3 : ((R.1 : Int) != (R.1 : Int)) = false := by simp
  have h4 : ((L : Int) != (L : Int)) = false := by simp
  go_wp2_with fail
  refine (spoilt16_is w7 _ _ A2 A4 I.2.length c3 c5 I.2 HO7a.out HO7.out).mono ?_
  rintro x w8 ⟨rfl, hk8⟩
  have hg8 : Grow W w8 := grow_own HG7.out HO7a.out HWA.out hk8
  have HG8 := Lib.hid hg8
  have HRx : Hid (Recs w8 A6 L c7 R.2.1) := HR6'.out.keep hk8 fun b o hn hA h9 => by
    have := HLO.out b h9
    have := HF6.out _ hA
    simp only at this
    omega
  have HRy : Hid (Recs w8 A7 L c8 R.2.1) := HR7.out.keep hk8 fun b o hn hA h9 => by
    have := HLO.out b h9
    have := HF7.out _ hA
    simp only at this
    omega
  clear hk8 hg8 HR6' HR7 HO7 HO7a HLO HF6 HF7 HG7
  go_wp2_with fail
  go_loopw [15] (fun vi wr => ∃ i : Nat, i ≤ L ∧ vi = .int .i64 i ∧ Hid (Grow w8 wr)) (fun vi _ => L - (intOf vi).toNat)
  case atStart => exact ⟨0, Nat.zero_le _, rfl, Keeps.refl _ _⟩
  case round =>
    obtain ⟨i, hi, rfl, HG⟩ := hrel
    by_cases hiL : i < L
    · obtain ⟨b2, o2, rfl, hc2⟩ := HRx.out.at_ (by omega)
      obtain ⟨b3, o3, rfl, hc3⟩ := HRy.out.at_ (by omega)
      have hd2 := hc2 i hiL
      have hd3 := hc3 i hiL
      obtain ⟨s, hs⟩ : ∃ s, s = (R.2.1.getD i (0, 0)).1 := ⟨_, rfl⟩
      obtain ⟨t, ht⟩ : ∃ t, t = (R.2.1.getD i (0, 0)).2 := ⟨_, rfl⟩
      rw [← hs, ← ht] at hd2 hd3
      have e1 := ckp hd2.1 HG.out (fun h => h)
      have e2 := ckp hd2.2 HG.out (fun h => h)
      have e3 := ckp hd3.1 HG.out (fun h => h)
      have e4 := ckp hd3.2 HG.out (fun h => h)
      have hiL' : (i : Int) < (L : Int) := by omega
      have q1 : (s != s) = false := by simp
      have q2 : (t != t) = false := by simp
      clear hc2 hc3 hd2 hd3 hs ht
      go_wp2_with fail
      go_quiet (fail)
      go_wp2_with fail
      go_roundw
      case rel => exact ⟨i + 1, by omega, by go_num, HG.out.drewN _⟩
      case measure => simp [intOf]; omega
    · obtain rfl : i = L := by omega
      go_wp2_with fail
      refine (names16_is wr).mono ?_
      rintro x w4 ⟨rfl, rfl⟩
      go_wp2_with fail
      go_ret
      exact ⟨rfl, (Grow.trans _ _ _ HG8.out HG.out).below (fun _ _ h => h) (Nat.le_refl _)⟩
end Go.Proofs.Ytoeapobpdfidkaa
