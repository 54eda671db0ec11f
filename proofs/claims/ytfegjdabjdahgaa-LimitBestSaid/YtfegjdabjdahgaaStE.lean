/- Pointers sorted: symMergeCmpFunc. -/
import Derived.Test.YtfegjdabjdahgaaStD
import Derived.Deep.CutRange
namespace Go.Proofs.Ytfegjdabjdahgaa
open Go.RowKit
set_option linter.unusedVariables false
set_option linter.unusedSimpArgs false

/-- What symMerge does. -/
def SymPost (o : Ord) (w : World) (g n cap a b : Nat) (f : Nat → Nat) (e : Ending) (w' : World) : Prop := e = .returned (.tuple #[]) ∧ ∃ f', RowF o w' g cap n f' ∧ Turn n a b f f' ∧ Up o a b f' ∧ Keeps (fun k => k = g) w w'
theorem half_in {i j : Nat} (h : i < j) : i ≤ (i + j) / 2 ∧ (i + j) / 2 < j := by omega
set_option maxRecDepth 8000 in
set_option maxHeartbeats 8000000 in
theorem sym_is (o : Ord) (g n cap : Nat) (hnb : n ≤ 1099511627776) : ∀ (s a m b : Nat) (w : World) (f : Nat → Nat), b - a ≤ s → RowF o w g cap n f → a < m → m < b → b ≤ n → Up o a m f → Up o m b f → Ahead o a m b f →
    Calls Try.prog 28 #[.slice (some ⟨g, 0, none⟩) n cap, .int .i64 (a : Nat), .int .i64 (m : Nat), .int .i64 (b : Nat), cmpFn] w (SymPost o w g n cap a b f) := by
  intro s
  induction s with
  | zero => intro a m b w f h1 _ h3 h4; omega
  | succ s ih =>
    intro a m b w f hs h ham hmb hbn hu1 hu2 hA
    have IH := Lib.hid ih
    have H := Lib.hid h
    have HU1 := Lib.hid hu1
    have HU2 := Lib.hid hu2
    have HA := Lib.hid hA
    have hni : (n : Int) ≤ 1099511627776 := by omega
    have hai : (a : Int) < (m : Int) := by omega
    have hmi : (m : Int) < (b : Int) := by omega
    have hbi : (b : Int) ≤ (n : Int) := by omega
    clear ih h hu1 hu2 hA
    unfold SymPost
    have hF : cmpFn = .func (.func 13) #[] #[] := rfl
    rw [hF]
    rw [hF] at IH
    clear hF
    go_enter Try.func28, Try.ntmps28
    by_cases hm1 : m = a + 1
    · have hma : (m : Int) - (a : Int) = 1 := by omega
      have HM1 := Lib.hid hm1
      clear hm1
      go_wp2_with fail
      clear hma
      go_loopw [10, 11, 12] (fun vi vj _ wr => ∃ (i j : Nat), m ≤ i ∧ i ≤ j ∧ j ≤ b ∧ vi = .int .i64 (i : Nat) ∧ vj = .int .i64 (j : Nat) ∧ Hid (∀ p, m ≤ p → p < i → o.lt (f p) (f a)) ∧ Hid (∀ p, j ≤ p → p < b → o.lt (f a) (f p)) ∧ Hid (RowF o wr g cap n f) ∧ Hid (Keeps (fun k => k = g) w wr)) (fun vi vj _ _ => (intOf vj).toNat - (intOf vi).toNat)
      case atStart => exact ⟨m, b, Nat.le_refl _, by omega, Nat.le_refl _, rfl, rfl, fun p h1 h2 => by omega, fun p h1 h2 => by omega, H.out, Keeps.refl _ _⟩
      case round =>
        obtain ⟨i, j, hi, hij, hj, rfl, rfl, HL, HG, HD, HK⟩ := hrel
        by_cases hlt : i < j
        · have hlti : (i : Int) < (j : Int) := by omega
          have hjn : (j : Int) ≤ (n : Int) := by omega
          obtain ⟨h1, h2⟩ := half_in hlt
          obtain ⟨h, hh⟩ : ∃ h, h = (i + j) / 2 := ⟨_, rfl⟩
          rw [← hh] at h1 h2
          have hhi : ((i : Int) + (j : Int)) / 2 = (h : Int) := by omega
          have hhn : (h : Int) < (n : Int) := by omega
          clear hh
          have hix : o.ix (f a) < o.ix (f h) := HA.out a h (Nat.le_refl _) ham (by omega) (by omega)
          have hlate := Ord.late hix
          have hnlate := Ord.not_late hix
          have c1 := HD.out.cell (j := h) (by omega)
          have c0 := HD.out.cell (j := a) (by omega)
          have HCM : Hid (∀ q, Calls Try.prog 13 #[.pointer (some ⟨f h, 0, none⟩), .pointer (some ⟨f a, 0, none⟩)] (wr.drewN q) fun e w' => e = .returned (.int .i64 (cmpV (o.wo (f h)) (o.wo (f a)))) ∧ ∃ n, w' = (wr.drewN q).drewN n) := fun q => cmp_is (wr.drewN q) (f h) (f a) _ _ (HD.out.coin h (by omega)).1 (HD.out.coin a (by omega)).1
          have hdec := cmpV_dec (o.wo (f h)) (o.wo (f a))
          by_cases hw : o.wo (f h) < o.wo (f a)
          · have hlt2 : o.lt (f h) (f a) := hlate.2 hw
            rw [decide_eq_true hw] at hdec
            have HN : Hid (∀ p, m ≤ p → p < h + 1 → o.lt (f p) (f a)) := fun p q1 q2 => Cut.up_le HU2.out q1 (show p ≤ h by omega) (by omega) hlt2
            have HG' : Hid (∀ p, j ≤ p → p < b → o.lt (f a) (f p)) := HG
            generalize cmpV (o.wo (f h)) (o.wo (f a)) = cv at *
            have hcv : cv < 0 := of_decide_eq_true hdec
            clear hw hlt2 hlate hnlate hix HL HG
            go_wp2_with fail
            go_quiet (refine Calls.quiet_of (HCM.out _))
            replace HD := Lib.hid (HD.out.drewN nq)
            replace HK := Lib.hid (HK.out.drewN nq)
            clear HCM hdec c1 c0
            generalize wr.drewN nq = w5 at *
            go_wp2_with fail
            go_roundw
            case rel => exact ⟨h + 1, j, by omega, by omega, hj, by go_num, rfl, HN.out, HG'.out, HD.out, HK.out⟩
            case measure => (simp [intOf] <;> omega)
          · have hlt2 : o.lt (f a) (f h) := hnlate.1 (fun h => hw (hlate.1 h))
            rw [decide_eq_false hw] at hdec
            have HN : Hid (∀ p, h ≤ p → p < b → o.lt (f a) (f p)) := fun p q1 q2 => Cut.up_ge HU2.out (show m ≤ h by omega) q1 q2 hlt2
            have HL' : Hid (∀ p, m ≤ p → p < i → o.lt (f p) (f a)) := HL
            generalize cmpV (o.wo (f h)) (o.wo (f a)) = cv at *
            have hcv : ¬ cv < 0 := of_decide_eq_false hdec
            clear hw hlt2 hlate hnlate hix HL HG
            go_wp2_with fail
            go_quiet (refine Calls.quiet_of (HCM.out _))
            replace HD := Lib.hid (HD.out.drewN nq)
            replace HK := Lib.hid (HK.out.drewN nq)
            clear HCM hdec c1 c0
            generalize wr.drewN nq = w5 at *
            go_wp2_with fail
            go_roundw
            case rel => exact ⟨i, h, hi, h1, by omega, rfl, rfl, HL'.out, HN.out, HD.out, HK.out⟩
            case measure => (simp [intOf] <;> omega)
        · obtain rfl : i = j := by omega
          have HUP : Hid (Up o a b (shL f a (i - 1))) := by
            have h9 := HM1.out
            subst h9
            exact shL_up hi hj HU2.out HL.out HG.out
          obtain ⟨t, ht⟩ : ∃ t, t = i - 1 := ⟨_, rfl⟩
          have hti : (i : Int) - 1 = (t : Int) := by omega
          rw [← ht] at HUP
          have hat : a ≤ t := by omega
          have htb : t < b := by omega
          clear HL HG hi hij hlt ht
          generalize wr = w1 at *
          go_wp2_with fail
          go_loopw [13] (fun vk wr => ∃ (k : Nat), a ≤ k ∧ k ≤ t ∧ vk = .int .i64 (k : Nat) ∧ Hid (RowF o wr g cap n (shL f a k)) ∧ Hid (Turn n a b f (shL f a k)) ∧ Hid (Keeps (fun k => k = g) w wr)) (fun vk _ => t - (intOf vk).toNat)
          case atStart => exact ⟨a, Nat.le_refl _, hat, rfl, by show RowF _ _ _ _ _ _; rw [shL_start]; exact HD.out, by show Turn _ _ _ _ _; rw [shL_start]; exact Turn.refl _ _ _ _, HK.out⟩
          case round =>
            clear HD HK
            obtain ⟨k, hak, hkt, rfl, HD, HT, HK⟩ := hrel
            by_cases hlt : k < t
            · have hlti : (k : Int) < (t : Int) := by omega
              have hk1 : (k : Int) + 1 = ((k + 1 : Nat) : Int) := by omega
              obtain ⟨u, hu⟩ : ∃ u, u = k + 1 := ⟨_, rfl⟩
              rw [← hu] at hk1
              have hun : (u : Int) < (n : Int) := by omega
              have hkn : (k : Int) < (n : Int) := by omega
              have hut : u ≤ t := by omega
              have hau : a ≤ u := by omega
              have HDd := Lib.hid HD.out.drew
              have HKd := Lib.hid HK.out.drew
              have c1 := HDd.out.cell (j := k) (by omega)
              have c0 := HDd.out.cell (j := u) (by omega)
              have HS : Hid (swapF (shL f a k) k u = shL f a u) := by
                show _ = _
                rw [hu]
                exact shL_succ f hak
              have huk : k < u := by omega
              clear hu
              have HSW := Lib.hid (HDd.out.swap (i := k) (j := u) (by omega) (by omega))
              have HT2 := Lib.hid (Turn.trans HT.out (Turn.swap (shL f a k) (n := n) (a := a) (b := b) (i := k) (j := u) (by omega) (by omega) hbn))
              rw [HS.out] at HSW HT2
              generalize shL f a k k = p1 at *
              generalize shL f a k u = p2 at *
              clear HD HT HK HS
              go_upto_region 11 with fail
              refine wp_region_seq (by kernel_rfl) (by kernel_rfl) ?_
              generalize wr.drew = w6 at *
              have f1 := HDd.out.frz k
              have f0 := HDd.out.frz u
              have HKS := Lib.hid (Keeps.trans HKd.out (keeps_swap w6 g k u (.pointer (some ⟨p2, 0, none⟩)) (.pointer (some ⟨p1, 0, none⟩))) fun _ _ h => h)
              go_wp2_with fail
              refine ⟨by kernel_rfl, ?_⟩
              go_wp2_with fail
              go_roundw
              case rel => exact ⟨u, hau, hut, by go_num, HSW.out, HT2.out, HKS.out⟩
              case measure => (simp [intOf] <;> omega)
            · obtain rfl : k = t := by omega
              go_wp2_with fail
              refine bodyPost_ret (results_none rfl _ _ _) rfl ⟨rfl, _, HD.out, HT.out, HUP.out, HK.out⟩
    have hma : ¬ (m : Int) - (a : Int) = 1 := by omega
    have hmb1 : ((m : Int) - (a : Int) == 1) = false := by simpa using hma
    by_cases hm2 : b = m + 1
    · have hma2 : (b : Int) - (m : Int) = 1 := by omega
      have HM1 := Lib.hid hm2
      clear hm2
      go_wp2_with fail
      clear hma2 hma hmb1
      go_loopw [14, 15, 16] (fun vi vj _ wr => ∃ (i j : Nat), a ≤ i ∧ i ≤ j ∧ j ≤ m ∧ vi = .int .i64 (i : Nat) ∧ vj = .int .i64 (j : Nat) ∧ Hid (∀ p, a ≤ p → p < i → o.lt (f p) (f m)) ∧ Hid (∀ p, j ≤ p → p < m → o.lt (f m) (f p)) ∧ Hid (RowF o wr g cap n f) ∧ Hid (Keeps (fun k => k = g) w wr)) (fun vi vj _ _ => (intOf vj).toNat - (intOf vi).toNat)
      case atStart => exact ⟨a, m, Nat.le_refl _, by omega, Nat.le_refl _, rfl, rfl, fun p h1 h2 => by omega, fun p h1 h2 => by omega, H.out, Keeps.refl _ _⟩
      case round =>
        obtain ⟨i, j, hi, hij, hj, rfl, rfl, HL, HG, HD, HK⟩ := hrel
        by_cases hlt : i < j
        · have hlti : (i : Int) < (j : Int) := by omega
          have hjn : (j : Int) ≤ (n : Int) := by omega
          obtain ⟨h1, h2⟩ := half_in hlt
          obtain ⟨h, hh⟩ : ∃ h, h = (i + j) / 2 := ⟨_, rfl⟩
          rw [← hh] at h1 h2
          have hhi : ((i : Int) + (j : Int)) / 2 = (h : Int) := by omega
          have hhn : (h : Int) < (n : Int) := by omega
          clear hh
          have hix : o.ix (f h) < o.ix (f m) := HA.out h m (by omega) (by omega) (Nat.le_refl _) hmb
          have hlate := Ord.late hix
          have hnlate := Ord.not_late hix
          have c1 := HD.out.cell (j := m) (by omega)
          have c0 := HD.out.cell (j := h) (by omega)
          have HCM : Hid (∀ q, Calls Try.prog 13 #[.pointer (some ⟨f m, 0, none⟩), .pointer (some ⟨f h, 0, none⟩)] (wr.drewN q) fun e w' => e = .returned (.int .i64 (cmpV (o.wo (f m)) (o.wo (f h)))) ∧ ∃ n, w' = (wr.drewN q).drewN n) := fun q => cmp_is (wr.drewN q) (f m) (f h) _ _ (HD.out.coin m (by omega)).1 (HD.out.coin h (by omega)).1
          have hdec := cmpV_dec (o.wo (f m)) (o.wo (f h))
          by_cases hw : o.wo (f m) < o.wo (f h)
          · have hlt2 : o.lt (f m) (f h) := hlate.2 hw
            rw [decide_eq_true hw] at hdec
            have HN : Hid (∀ p, h ≤ p → p < m → o.lt (f m) (f p)) := fun p q1 q2 => Cut.up_ge HU1.out (show a ≤ h by omega) q1 q2 hlt2
            have HL' : Hid (∀ p, a ≤ p → p < i → o.lt (f p) (f m)) := HL
            generalize cmpV (o.wo (f m)) (o.wo (f h)) = cv at *
            have hcv : cv < 0 := of_decide_eq_true hdec
            clear hw hlt2 hlate hnlate hix HL HG
            go_wp2_with fail
            go_quiet (refine Calls.quiet_of (HCM.out _))
            replace HD := Lib.hid (HD.out.drewN nq)
            replace HK := Lib.hid (HK.out.drewN nq)
            clear HCM hdec c1 c0
            generalize wr.drewN nq = w5 at *
            go_wp2_with fail
            go_roundw
            case rel => exact ⟨i, h, hi, h1, by omega, rfl, rfl, HL'.out, HN.out, HD.out, HK.out⟩
            case measure => (simp [intOf] <;> omega)
          · have hlt2 : o.lt (f h) (f m) := hnlate.1 (fun h => hw (hlate.1 h))
            rw [decide_eq_false hw] at hdec
            have HN : Hid (∀ p, a ≤ p → p < h + 1 → o.lt (f p) (f m)) := fun p q1 q2 => Cut.up_le HU1.out q1 (show p ≤ h by omega) (by omega) hlt2
            have HG' : Hid (∀ p, j ≤ p → p < m → o.lt (f m) (f p)) := HG
            generalize cmpV (o.wo (f m)) (o.wo (f h)) = cv at *
            have hcv : ¬ cv < 0 := of_decide_eq_false hdec
            clear hw hlt2 hlate hnlate hix HL HG
            go_wp2_with fail
            go_quiet (refine Calls.quiet_of (HCM.out _))
            replace HD := Lib.hid (HD.out.drewN nq)
            replace HK := Lib.hid (HK.out.drewN nq)
            clear HCM hdec c1 c0
            generalize wr.drewN nq = w5 at *
            go_wp2_with fail
            go_roundw
            case rel => exact ⟨h + 1, j, by omega, by omega, hj, by go_num, rfl, HN.out, HG'.out, HD.out, HK.out⟩
            case measure => (simp [intOf] <;> omega)
        · obtain rfl : i = j := by omega
          have HUP : Hid (Up o a b (shR f m i)) := by
            have h9 := HM1.out
            subst h9
            exact shR_up hi hj HU1.out HL.out HG.out
          clear HL HG hij hlt
          generalize wr = w1 at *
          go_wp2_with fail
          go_loopw [17] (fun vk wr => ∃ (k : Nat), i ≤ k ∧ k ≤ m ∧ vk = .int .i64 (k : Nat) ∧ Hid (RowF o wr g cap n (shR f m k)) ∧ Hid (Turn n a b f (shR f m k)) ∧ Hid (Keeps (fun k => k = g) w wr)) (fun vk _ => (intOf vk).toNat)
          case atStart => exact ⟨m, hj, Nat.le_refl _, rfl, by show RowF _ _ _ _ _ _; rw [shR_start]; exact HD.out, by show Turn _ _ _ _ _; rw [shR_start]; exact Turn.refl _ _ _ _, HK.out⟩
          case round =>
            clear HD HK
            obtain ⟨k, hak, hkt, rfl, HD, HT, HK⟩ := hrel
            by_cases hlt : i < k
            · have hlti : (i : Int) < (k : Int) := by omega
              obtain ⟨u, hu⟩ : ∃ u, k = u + 1 := ⟨k - 1, by omega⟩
              have hk1 : (k : Int) - 1 = (u : Int) := by omega
              have hun : (u : Int) < (n : Int) := by omega
              have hkn : (k : Int) < (n : Int) := by omega
              have hut : u ≤ m := by omega
              have hau : i ≤ u := by omega
              have huk : u < k := by omega
              have HDd := Lib.hid HD.out.drew
              have HKd := Lib.hid HK.out.drew
              have c1 := HDd.out.cell (j := k) (by omega)
              have c0 := HDd.out.cell (j := u) (by omega)
              have HS : Hid (swapF (shR f m k) k u = shR f m u) := by
                show _ = _
                rw [hu]
                exact shR_succ f (by omega)
              clear hu
              have HSW := Lib.hid (HDd.out.swap (i := k) (j := u) (by omega) (by omega))
              have HT2 := Lib.hid (Turn.trans HT.out (Turn.swap (shR f m k) (n := n) (a := a) (b := b) (i := k) (j := u) (by omega) (by omega) hbn))
              rw [HS.out] at HSW HT2
              generalize shR f m k k = p1 at *
              generalize shR f m k u = p2 at *
              clear HD HT HK HS
              go_upto_region 23 with fail
              refine wp_region_seq (by kernel_rfl) (by kernel_rfl) ?_
              generalize wr.drew = w6 at *
              have f1 := HDd.out.frz k
              have f0 := HDd.out.frz u
              have HKS := Lib.hid (Keeps.trans HKd.out (keeps_swap w6 g k u (.pointer (some ⟨p2, 0, none⟩)) (.pointer (some ⟨p1, 0, none⟩))) fun _ _ h => h)
              go_wp2_with fail
              refine ⟨by kernel_rfl, ?_⟩
              go_wp2_with fail
              go_roundw
              case rel => exact ⟨u, hau, hut, by go_num, HSW.out, HT2.out, HKS.out⟩
              case measure => (simp [intOf] <;> omega)
            · obtain rfl : k = i := by omega
              go_wp2_with fail
              refine bodyPost_ret (results_none rfl _ _ _) rfl ⟨rfl, _, HD.out, HT.out, HUP.out, HK.out⟩
    have hmc : ¬ (b : Int) - (m : Int) = 1 := by omega
    have hmc1 : ((b : Int) - (m : Int) == 1) = false := by simpa using hmc
    obtain ⟨md, hmd⟩ : ∃ md, md = (a + b) / 2 := ⟨_, rfl⟩
    have HMD := Lib.hid hmd
    have hmdi : ((a : Int) + (b : Int)) / 2 = (md : Int) := by omega
    have hmd2 : a + b ≤ 2 * md + 1 := by omega
    have hmd3 : 2 * md ≤ a + b := by omega
    have hamd : a < md := by omega
    have hmdb : md < b := by omega
    have hmdbi : (md : Int) < (b : Int) := by omega
    clear hmd hm1 hm2
    go_upto_if 140 with fail
    clear hma hmb1 hmc hmc1 hmdi
    obtain ⟨zb, hzb⟩ : ∃ zb, zb = decide (md < m) := ⟨_, rfl⟩
    simp only [← hzb]
    have HZB := Lib.hid hzb
    clear hzb
    go_cut [20, 21] from 141 to 146 (fun vl vh wx => ∃ (lo hi : Nat), vl = .int .i64 (lo : Nat) ∧ vh = .int .i64 (hi : Nat) ∧ Hid ((m ≤ md ∧ lo = a ∧ hi = m) ∨ (md < m ∧ lo = md + m - b ∧ hi = md)) ∧ w = wx)
    case first =>
      cases zb
      rotate_left
      · have hmm : md < m := by have h9 := of_decide_eq_true HZB.out.symm; omega
        have e1 : (md : Int) + (m : Int) - (b : Int) = ((md + m - b : Nat) : Int) := by omega
        go_wp2_with fail
        go_meet
        exact ⟨md + m - b, md, by go_num, rfl, .inr ⟨hmm, rfl, rfl⟩, rfl⟩
      · have hmm : ¬ md < m := by have h9 := of_decide_eq_false HZB.out.symm; omega
        go_wp2_with fail
        go_meet
        exact ⟨a, m, rfl, rfl, .inl ⟨by omega, rfl, rfl⟩, rfl⟩
    case rest =>
      obtain ⟨lo, hi, rfl, rfl, HLM, rfl⟩ := hcut
      have hlo : lo ≤ hi := by have := HLM.out; omega
      have halo : a ≤ lo := by have := HLM.out; omega
      have hhim : hi ≤ m := by have := HLM.out; omega
      have hhimd : hi ≤ md := by have := HLM.out; omega
      have hloh : md + m ≤ lo + b := by have := HLM.out; omega
      have hmmn : (md : Int) + (m : Int) ≤ 2199023255552 := by omega
      go_wp2_with fail
      go_loopw [20, 21, 23] (fun vi vj _ wr => ∃ (i j : Nat), lo ≤ i ∧ i ≤ j ∧ j ≤ hi ∧ vi = .int .i64 (i : Nat) ∧ vj = .int .i64 (j : Nat) ∧ Hid (∀ c, lo ≤ c → c < i → o.lt (f c) (f (md + m - 1 - c))) ∧ Hid (∀ c, j ≤ c → c < hi → o.lt (f (md + m - 1 - c)) (f c)) ∧ Hid (RowF o wr g cap n f) ∧ Hid (Keeps (fun k => k = g) w wr)) (fun vi vj _ _ => (intOf vj).toNat - (intOf vi).toNat)
      case atStart => exact ⟨lo, hi, Nat.le_refl _, hlo, Nat.le_refl _, rfl, rfl, fun p h1 h2 => by omega, fun p h1 h2 => by omega, H.out, Keeps.refl _ _⟩
      case round =>
        obtain ⟨i, j, hi1, hij, hj, rfl, rfl, HL, HG, HD, HK⟩ := hrel
        by_cases hlt : i < j
        · have hlti : (i : Int) < (j : Int) := by omega
          have hjn : (j : Int) ≤ (n : Int) := by omega
          obtain ⟨h1, h2⟩ := half_in hlt
          obtain ⟨h, hh⟩ : ∃ h, h = (i + j) / 2 := ⟨_, rfl⟩
          rw [← hh] at h1 h2
          have hhi : ((i : Int) + (j : Int)) / 2 = (h : Int) := by omega
          have hhn : (h : Int) < (n : Int) := by omega
          obtain ⟨u, hu⟩ : ∃ u, u = md + m - 1 - h := ⟨_, rfl⟩
          have hui : (md : Int) + (m : Int) - 1 - (h : Int) = (u : Int) := by omega
          have hum : m ≤ u := by omega
          have hub : u < b := by omega
          have hubi : (u : Int) < (n : Int) := by omega
          have HUE := Lib.hid hu
          clear hh hu
          have hix : o.ix (f h) < o.ix (f u) := HA.out h u (by omega) (by omega) hum hub
          have hlate := Ord.late hix
          have hnlate := Ord.not_late hix
          have c1 := HD.out.cell (j := u) (by omega)
          have c0 := HD.out.cell (j := h) (by omega)
          have HCM : Hid (∀ q, Calls Try.prog 13 #[.pointer (some ⟨f u, 0, none⟩), .pointer (some ⟨f h, 0, none⟩)] (wr.drewN q) fun e w' => e = .returned (.int .i64 (cmpV (o.wo (f u)) (o.wo (f h)))) ∧ ∃ n, w' = (wr.drewN q).drewN n) := fun q => cmp_is (wr.drewN q) (f u) (f h) _ _ (HD.out.coin u (by omega)).1 (HD.out.coin h (by omega)).1
          have hdec := cmpV_dec (o.wo (f u)) (o.wo (f h))
          by_cases hw : o.wo (f u) < o.wo (f h)
          · have hlt2 : o.lt (f u) (f h) := hlate.2 hw
            rw [decide_eq_true hw] at hdec
            have HN : Hid (∀ c, h ≤ c → c < hi → o.lt (f (md + m - 1 - c)) (f c)) := fun c q1 q2 => Cut.up_ge HU1.out (show a ≤ h by omega) q1 (by omega) (Cut.up_le HU2.out (show m ≤ md + m - 1 - c by omega) (show md + m - 1 - c ≤ u by have := HUE.out; omega) hub hlt2)
            have HL' : Hid (∀ c, lo ≤ c → c < i → o.lt (f c) (f (md + m - 1 - c))) := HL
            generalize cmpV (o.wo (f u)) (o.wo (f h)) = cv at *
            have hcv : cv < 0 := of_decide_eq_true hdec
            clear hw hlt2 hlate hnlate hix HL HG
            go_wp2_with fail
            go_quiet (refine Calls.quiet_of (HCM.out _))
            replace HD := Lib.hid (HD.out.drewN nq)
            replace HK := Lib.hid (HK.out.drewN nq)
            clear HCM hdec c1 c0
            generalize wr.drewN nq = w5 at *
            go_wp2_with fail
            go_roundw
            case rel => exact ⟨i, h, hi1, h1, by omega, rfl, rfl, HL'.out, HN.out, HD.out, HK.out⟩
            case measure => (simp [intOf] <;> omega)
          · have hlt2 : o.lt (f h) (f u) := hnlate.1 (fun h => hw (hlate.1 h))
            rw [decide_eq_false hw] at hdec
            have HN : Hid (∀ c, lo ≤ c → c < h + 1 → o.lt (f c) (f (md + m - 1 - c))) := fun c q1 q2 => Cut.up_ge HU2.out hum (show u ≤ md + m - 1 - c by have := HUE.out; omega) (by omega) (Cut.up_le HU1.out (show a ≤ c by omega) (show c ≤ h by omega) (by omega) hlt2)
            have HG' : Hid (∀ c, j ≤ c → c < hi → o.lt (f (md + m - 1 - c)) (f c)) := HG
            generalize cmpV (o.wo (f u)) (o.wo (f h)) = cv at *
            have hcv : ¬ cv < 0 := of_decide_eq_false hdec
            clear hw hlt2 hlate hnlate hix HL HG
            go_wp2_with fail
            go_quiet (refine Calls.quiet_of (HCM.out _))
            replace HD := Lib.hid (HD.out.drewN nq)
            replace HK := Lib.hid (HK.out.drewN nq)
            clear HCM hdec c1 c0
            generalize wr.drewN nq = w5 at *
            go_wp2_with fail
            go_roundw
            case rel => exact ⟨h + 1, j, by omega, by omega, hj, by go_num, rfl, HN.out, HG'.out, HD.out, HK.out⟩
            case measure => (simp [intOf] <;> omega)
        · obtain rfl : i = j := by omega
          have hcut : Cut o a m b lo hi i f := by
            have e := HMD.out
            refine ⟨ham, hmb, by rw [← e]; exact HLM.out, hi1, hj, by rw [← e]; exact HL.out, by rw [← e]; exact HG.out⟩
          have hn := hcut.nums
          have F1 := Lib.hid (hcut.up1 HU1.out)
          have F2 := Lib.hid (hcut.up2 HU2.out)
          have F3 := Lib.hid (hcut.up3 HU1.out)
          have F4 := Lib.hid (hcut.up4 HU2.out)
          have A1 := Lib.hid (hcut.ahead1 HA.out)
          have A2 := Lib.hid (hcut.ahead2 HA.out)
          have XC := Lib.hid (hcut.cross HU1.out HU2.out)
          rw [← HMD.out] at hn F1 F2 F3 F4 A1 A2 XC
          obtain ⟨e, he⟩ : ∃ e, e = md + m - i := ⟨_, rfl⟩
          rw [← he] at hn F1 F2 F3 F4 A1 A2 XC
          have hei : (md : Int) + (m : Int) - (i : Int) = (e : Int) := by omega
          obtain ⟨n1, n2, n3, n4, n5, n6⟩ := hn
          have RS : Hid (i = m ∨ e = m → rotG f i m e = f) := fun h => rotG_same f h n2 n4
          have RT : Hid (i < m → m < e → ∀ w' : World, RowF o w' g cap n f → Calls Try.prog 30 #[.slice (some ⟨g, 0, none⟩) n cap, .int .i64 (i : Nat), .int .i64 (m : Nat), .int .i64 (e : Nat), .func (.func 13) #[] #[]] w' fun x w'' => x = .returned (.tuple #[]) ∧ RowF o w'' g cap n (rotG f i m e) ∧ Turn n i e f (rotG f i m e) ∧ Keeps (fun k => k = g) w' w'') := fun h1 h2 w' h3 => rot_is o w' g n cap i m e f h3 h1 h2 (by omega) hnb
          generalize rotG f i m e = f1 at *
          clear hcut HL HG hi1 hij hj hlt he
          generalize wr = w1 at *
          go_upto_region 39 with fail
          clear hei
          go_cut [185] from 178 to 185 (fun s wx => ∃ c : Bool, s = .bool c ∧ (c = true → i < m ∧ m < e) ∧ (c = false → i = m ∨ e = m) ∧ wx = w1)
          case first =>
            by_cases q1 : i < m
            · have q1i : decide ((i : Int) < (m : Int)) = true := decide_eq_true (by omega)
              by_cases q2 : m < e
              · have q2i : decide ((m : Int) < (e : Int)) = true := decide_eq_true (by omega)
                go_wp2_with fail
                go_meet
                exact ⟨true, rfl, fun _ => ⟨q1, q2⟩, (fun h => nomatch h), rfl⟩
              · have q2i : decide ((m : Int) < (e : Int)) = false := decide_eq_false (by omega)
                go_wp2_with fail
                go_meet
                exact ⟨false, rfl, (fun h => nomatch h), fun _ => by omega, rfl⟩
            · have q1i : decide ((i : Int) < (m : Int)) = false := decide_eq_false (by omega)
              go_wp2_with fail
              go_meet
              exact ⟨false, rfl, (fun h => nomatch h), fun _ => by omega, rfl⟩
          case rest =>
            obtain ⟨cb, rfl, hc1, hc2, rfl⟩ := hcut
            go_upto_if 185 with fail
            go_cut [18] from 186 to 191 (fun s wx => s = .int .i64 (md : Nat) ∧ Hid (RowF o wx g cap n f1) ∧ Hid (Turn n a b f f1) ∧ Hid (Keeps (fun k => k = g) w wx))
            case first =>
              cases cb
              · have hsm := RS.out (hc2 rfl)
                go_wp2_with fail
                go_meet
                refine ⟨rfl, ?_, ?_, HK.out⟩
                · rw [hsm]; exact HD.out
                · rw [hsm]; exact Turn.refl _ _ _ _
              · obtain ⟨q1, q2⟩ := hc1 rfl
                have HRT := Lib.hid (RT.out q1 q2 _ HD.out)
                go_wp2_with fail
                refine HRT.out.mono ?_
                rintro x w2 ⟨rfl, hr, ht, hk⟩
                have X1 := Lib.hid hr
                have X2 := Lib.hid (ht.mono (a' := a) (b' := b) (by omega) (by omega))
                have X3 := Lib.hid (Keeps.trans HK.out hk fun _ _ h => h)
                clear hr ht hk
                go_wp2_with fail
                go_meet
                exact ⟨rfl, X1.out, X2.out, X3.out⟩
            case rest =>
              clear HD HK RS RT hc1 hc2
              obtain ⟨hs18, HD, HT, HK⟩ := hcut
              subst hs18
              generalize wc = w2 at *
              go_upto_region 41 with fail
              go_cut [199] from 192 to 199 (fun s wx => ∃ c : Bool, s = .bool c ∧ (c = true → a < i ∧ i < md) ∧ (c = false → i = a ∨ i = md) ∧ wx = w2)
              case first =>
                by_cases q1 : a < i
                · have q1i : decide ((a : Int) < (i : Int)) = true := decide_eq_true (by omega)
                  by_cases q2 : i < md
                  · have q2i : decide ((i : Int) < (md : Int)) = true := decide_eq_true (by omega)
                    go_wp2_with fail
                    go_meet
                    exact ⟨true, rfl, fun _ => ⟨q1, q2⟩, (fun h => nomatch h), rfl⟩
                  · have q2i : decide ((i : Int) < (md : Int)) = false := decide_eq_false (by omega)
                    go_wp2_with fail
                    go_meet
                    exact ⟨false, rfl, (fun h => nomatch h), fun _ => by omega, rfl⟩
                · have q1i : decide ((a : Int) < (i : Int)) = false := decide_eq_false (by omega)
                  go_wp2_with fail
                  go_meet
                  exact ⟨false, rfl, (fun h => nomatch h), fun _ => by omega, rfl⟩
              case rest =>
                obtain ⟨cb, rfl, hc1, hc2, rfl⟩ := hcut
                go_upto_if 199 with fail
                go_cut [18] from 200 to 205 (fun s wx => s = .int .i64 (md : Nat) ∧ ∃ f2, Hid (RowF o wx g cap n f2) ∧ Hid (Turn n a md f1 f2) ∧ Hid (Up o a md f2) ∧ Hid (Keeps (fun k => k = g) w wx))
                case first =>
                  cases cb
                  · have hup : Up o a md f1 := by
                      rcases hc2 rfl with h9 | h9
                      · rw [← h9]; exact F2.out
                      · rw [← h9]; exact F1.out
                    have HUP := Lib.hid hup
                    clear hup
                    go_wp2_with fail
                    go_meet
                    exact ⟨rfl, f1, HD.out, Turn.refl _ _ _ _, HUP.out, HK.out⟩
                  · obtain ⟨q1, q2⟩ := hc1 rfl
                    have HRT := Lib.hid (IH.out a i md _ f1 (by omega) HD.out q1 q2 (by omega) F1.out F2.out A1.out)
                    go_wp2_with fail
                    refine HRT.out.mono ?_
                    rintro x w3 ⟨rfl, f2, hr, ht, hu, hk⟩
                    have X1 := Lib.hid hr
                    have X2 := Lib.hid ht
                    have X4 := Lib.hid hu
                    have X3 := Lib.hid (Keeps.trans HK.out hk fun _ _ h => h)
                    clear hr ht hk hu
                    go_wp2_with fail
                    go_meet
                    exact ⟨rfl, f2, X1.out, X2.out, X4.out, X3.out⟩
                case rest =>
                  clear HD HK hc1 hc2 F1 F2 A1
                  obtain ⟨hs18, f2, HD, HT2, HU, HK⟩ := hcut
                  subst hs18
                  generalize wc = w3 at *
                  have G3 : Hid (Up o md e f2) := fun p q h1 h2 h3 => by
                    rw [HT2.out.loc.out p (.inr h1), HT2.out.loc.out q (.inr (by omega))]; exact F3.out p q h1 h2 h3
                  have G4 : Hid (Up o e b f2) := fun p q h1 h2 h3 => by
                    rw [HT2.out.loc.out p (.inr (by omega)), HT2.out.loc.out q (.inr (by omega))]; exact F4.out p q h1 h2 h3
                  have B2 : Hid (Ahead o md e b f2) := fun p q h1 h2 h3 h4 => by
                    rw [HT2.out.loc.out p (.inr h1), HT2.out.loc.out q (.inr (by omega))]; exact A2.out p q h1 h2 h3 h4
                  clear F3 F4 A2
                  go_upto_region 43 with fail
                  go_cut [213] from 206 to 213 (fun s wx => ∃ c : Bool, s = .bool c ∧ (c = true → md < e ∧ e < b) ∧ (c = false → e = md ∨ e = b) ∧ wx = w3)
                  case first =>
                    by_cases q1 : md < e
                    · have q1i : decide ((md : Int) < (e : Int)) = true := decide_eq_true (by omega)
                      by_cases q2 : e < b
                      · have q2i : decide ((e : Int) < (b : Int)) = true := decide_eq_true (by omega)
                        go_wp2_with fail
                        go_meet
                        exact ⟨true, rfl, fun _ => ⟨q1, q2⟩, (fun h => nomatch h), rfl⟩
                      · have q2i : decide ((e : Int) < (b : Int)) = false := decide_eq_false (by omega)
                        go_wp2_with fail
                        go_meet
                        exact ⟨false, rfl, (fun h => nomatch h), fun _ => by omega, rfl⟩
                    · have q1i : decide ((md : Int) < (e : Int)) = false := decide_eq_false (by omega)
                      go_wp2_with fail
                      go_meet
                      exact ⟨false, rfl, (fun h => nomatch h), fun _ => by omega, rfl⟩
                  case rest =>
                    obtain ⟨cb, rfl, hc1, hc2, rfl⟩ := hcut
                    cases cb
                    · have hup : Up o md b f2 := by
                        rcases hc2 rfl with h9 | h9
                        · rw [← h9]; exact G4.out
                        · rw [← h9]; exact G3.out
                      have HJ := Lib.hid (up_join (by omega) (by omega) HT2.out HU.out (Turn.refl n md b f2) hup XC.out)
                      have HTT := Lib.hid (Turn.trans HT.out (HT2.out.mono (a' := a) (b' := b) (Nat.le_refl _) (by omega)))
                      clear hup
                      go_wp2_with fail
                      go_end0
                      exact ⟨rfl, f2, HD.out, HTT.out, HJ.out, HK.out⟩
                    · obtain ⟨q1, q2⟩ := hc1 rfl
                      have HRT := Lib.hid (IH.out md e b _ f2 (by omega) HD.out q1 q2 hbn G3.out G4.out B2.out)
                      go_wp2_with fail
                      refine HRT.out.mono ?_
                      rintro x w4 ⟨rfl, f3, hr, ht, hu, hk⟩
                      have HJ := Lib.hid (up_join (by omega) (by omega) HT2.out HU.out ht hu XC.out)
                      have HTT := Lib.hid (Turn.trans (Turn.trans HT.out (HT2.out.mono (a' := a) (b' := b) (Nat.le_refl _) (by omega))) (ht.mono (a' := a) (b' := b) (by omega) (Nat.le_refl _)))
                      have X1 := Lib.hid hr
                      have X3 := Lib.hid (Keeps.trans HK.out hk fun _ _ h => h)
                      clear hr ht hu hk
                      go_wp2_with fail
                      go_end0
                      exact ⟨rfl, f3, X1.out, HTT.out, HJ.out, X3.out⟩
end Go.Proofs.Ytfegjdabjdahgaa
