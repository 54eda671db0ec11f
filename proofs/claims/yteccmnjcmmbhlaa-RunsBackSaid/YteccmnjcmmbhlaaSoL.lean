/- Bytes sorted: pdqsortOrdered sorts. -/
import Derived.Test.YteccmnjcmmbhlaaSoJ
import Derived.Test.YteccmnjcmmbhlaaSoK
namespace Go.Proofs.Yteccmnjcmmbhlaa
open Go.RowKit
open Go.Sort (swp ltInt)
set_option linter.unusedVariables false
set_option linter.unusedSimpArgs false
open Go.Sort (PermIn SortedIn Below)

theorem rev_perm {d : Array Int} {a b : Nat} (hab : a ≤ b) (hb : b ≤ d.size) : PermIn a b d (Go.Sort.reverseRange d a b) := Go.Sort.reverseRange_holds d a b hab hb
set_option maxRecDepth 8000 in
set_option maxHeartbeats 12000000 in
theorem pdq_is : ∀ (m : Nat) (w : World) {g n cap a b l : Nat} {d : Array Int}, RowD w g cap d → d.size = n → a ≤ b → b ≤ n → b - a < m → n ≤ 1099511627776 → Below ltInt a b d → l ≤ 64 →
    Calls Try.prog 51 #[.slice (some ⟨g, 0, none⟩) n cap, .int .i64 (a : Nat), .int .i64 (b : Nat), .int .i64 (l : Nat)] w fun e w' => e = .returned (.tuple #[]) ∧ ∃ d', PermIn a b d d' ∧ SortedIn ltInt a b d' ∧ RowD w' g cap d' ∧ Keeps (fun k => k = g) w w' := by
  intro m
  induction m with
  | zero => intro w g n cap a b l d _ _ _ _ h; omega
  | succ m ih =>
  intro w g n cap a0 b0 l0 d0 h hn hab0 hbn0 hm hnb hbel hl0
  have HIH := Lib.hid (fun w {g n cap a b l} {d} => @ih w g n cap a b l d)
  have H := Lib.hid h
  have HN := Lib.hid hn
  have HBL := Lib.hid hbel
  have hni : (n : Int) ≤ 1099511627776 := by omega
  clear h hn hbel ih
  go_enter Try.func51, Try.ntmps51
  go_wp2_with fail
  go_loopw [1, 2, 3, 8, 9, 10, 11, 12, 13, 14, 15, 16, 17, 18] (fun va vb vl v8 v9 _ _ _ _ _ _ _ _ _ wr => ∃ (a b l : Nat) (wb wp : Bool) (dk : Array Int), a ≤ b ∧ b ≤ n ∧ b - a < m + 1 ∧ l ≤ 64 ∧ va = .int .i64 (a : Nat) ∧ vb = .int .i64 (b : Nat) ∧ vl = .int .i64 (l : Nat) ∧ v8 = .bool wb ∧ v9 = .bool wp ∧ Hid (dk.size = n) ∧ Hid (RowD wr g cap dk) ∧ Hid (Below ltInt a b dk) ∧ Hid (∀ R, PermIn a b dk R → SortedIn ltInt a b R → PermIn a0 b0 d0 R ∧ SortedIn ltInt a0 b0 R) ∧ Hid (Keeps (fun k => k = g) w wr)) (fun va vb _ _ _ _ _ _ _ _ _ _ _ _ _ => (intOf vb - intOf va).toNat)
  case atStart => exact ⟨a0, b0, l0, true, true, d0, hab0, hbn0, hm, hl0, rfl, rfl, rfl, rfl, rfl, HN.out, H.out, HBL.out, fun R h1 h2 => ⟨h1, h2⟩, Keeps.refl _ _⟩
  case round =>
    clear H HN HBL hab0 hbn0 hm hl0
    obtain ⟨a, b, l, wb, wp, dk, hab, hbn, hm, hl, rfl, rfl, rfl, rfl, rfl, HS, HD, HB, HI, HK⟩ := hrel
    have hbni : (b : Int) ≤ (n : Int) := by omega
    obtain ⟨len, hlen⟩ : ∃ len, len = b - a := ⟨_, rfl⟩
    have hlei : (b : Int) - (a : Int) = (len : Int) := by omega
    have hlenA : a + len ≤ b := by omega
    have hlenB : b ≤ a + len := by omega
    clear hlen
    by_cases h12 : len ≤ 12
    · have h12i : ((len : Int) ≤ 12) = True := eq_true (by omega)
      have hfin := Go.Sort.insertionSort_holds Go.Sort.swo_ltInt dk a b hab (by rw [HS.out]; omega)
      have HFN := Lib.hid (HI.out _ hfin.1 hfin.2)
      clear hfin
      go_wp2_with fail
      refine (ins_is wr g n cap a b dk HD.out HS.out hab hbn hnb).mono ?_
      rintro e w8 ⟨rfl, hd8, hk8⟩
      have HD8 := Lib.hid hd8
      have HK8 := Lib.hid (Keeps.trans HK.out hk8 fun _ _ h => h)
      clear hd8 hk8
      go_wp2_with fail
      refine bodyPost_ret (results_none rfl _ _ _) rfl ⟨rfl, _, HFN.out.1, HFN.out.2, HD8.out, HK8.out⟩
    have h12i : ((len : Int) ≤ 12) = False := eq_false (by omega)
    by_cases hlz : l = 0
    · subst hlz
      have hz0 : ((0 : Nat) : Int) = 0 := rfl
      have hfin := Go.Sort.heapSort_holds Go.Sort.swo_ltInt dk a b hab (by rw [HS.out]; omega)
      have HFN := Lib.hid (HI.out _ hfin.1 hfin.2)
      clear hfin
      go_wp2_with fail
      refine (heap_is wr g n cap a b dk HD.out HS.out (by omega) hbn hnb).mono ?_
      rintro e w8 ⟨rfl, hd8, hk8⟩
      have HD8 := Lib.hid hd8
      have HK8 := Lib.hid (Keeps.trans HK.out hk8 fun _ _ h => h)
      clear hd8 hk8
      go_wp2_with fail
      refine bodyPost_ret (results_none rfl _ _ _) rfl ⟨rfl, _, HFN.out.1, HFN.out.2, HD8.out, HK8.out⟩
    have hlzi : ((l : Int) = 0) = False := eq_false (by omega)
    have hlzd : decide ((l : Int) = 0) = false := decide_eq_false (by omega)
    have hlzb : ((l : Int) == 0) = false := by simp; omega
    go_upto_if 35 with fail
    try simp only [hlzb]
    generalize (!wb) = nb
    go_cut [3] from 36 to 41 (fun vl wx => ∃ (l : Nat) (d2 : Array Int), vl = .int .i64 (l : Nat) ∧ l ≤ 64 ∧ Hid (d2.size = n) ∧ Hid (PermIn a b dk d2) ∧ Hid (RowD wx g cap d2) ∧ Hid (Keeps (fun k => k = g) w wx))
    case first =>
      cases nb
      · go_wp2_with fail
        go_meet
        exact ⟨l, dk, rfl, hl, HS.out, Go.Sort.permIn_refl _ _ _, HD.out, HK.out⟩
      · obtain ⟨l1, hl1⟩ : ∃ l1, l1 = l - 1 := ⟨_, rfl⟩
        have hl1i : (l : Int) - 1 = (l1 : Int) := by omega
        have hl1b : l1 ≤ 64 := by omega
        clear hl1
        go_wp2_with fail
        refine (break_is wr (a := a) (b := b) HD.out HS.out (by omega) hbn hnb).mono ?_
        rintro e w3 ⟨rfl, d3, hp3, hd8, hk8⟩
        have HPM := Lib.hid hp3
        have HS1 : Hid (d3.size = n) := by
          show _ = _
          rw [hp3.1]; exact HS.out
        have HK1 := Lib.hid (Keeps.trans HK.out hk8 fun _ _ h => h)
        have HD1 := Lib.hid hd8
        clear hd8 hk8 hp3
        go_wp2_with fail
        go_meet
        exact ⟨l1, d3, rfl, hl1b, HS1.out, HPM.out, HD1.out, HK1.out⟩
    case rest =>
      have HS0 := HS
      clear hl hlzi hlzd HS HD HK hlz
      obtain ⟨l, d1, rfl, hl, HS, HPM, HD, HK⟩ := hcut
      go_wp2_with fail
      refine (choose_is wc (a := a) (b := b) HD.out HS.out (by omega) hbn hnb).mono ?_
      rintro e w4 ⟨p, z, rfl, hpa, hpb, hd8, hk8⟩
      have HD1 := Lib.hid hd8
      have HK1 := Lib.hid (Keeps.trans HK.out hk8 fun _ _ h => h.elim)
      clear hd8 hk8 HD HK
      have HD := HD1
      have HK := HK1
      clear HD1 HK1
      go_upto_if 50 with fail
      generalize (z == 2) = zb
      go_cut [11, 12] from 51 to 60 (fun vp vz wx => ∃ (p : Nat) (z : Int) (d2 : Array Int), vp = .int .i64 (p : Nat) ∧ vz = .int .i64 z ∧ a ≤ p ∧ p < b ∧ Hid (d2.size = n) ∧ Hid (PermIn a b d1 d2) ∧ Hid (RowD wx g cap d2) ∧ Hid (Keeps (fun k => k = g) w wx))
      case first =>
        cases zb
        · go_wp2_with fail
          go_meet
          exact ⟨p, z, d1, rfl, rfl, hpa, hpb, HS.out, Go.Sort.permIn_refl _ _ _, HD.out, HK.out⟩
        · go_wp2_with fail
          refine (rev_is w4 g n cap a b d1 HD.out HS.out (by omega) (by omega) (by omega)).mono ?_
          rintro e w5 ⟨rfl, hd8, hk8⟩
          have HD1 := Lib.hid hd8
          have HK1 := Lib.hid (Keeps.trans HK.out hk8 fun _ _ h => h)
          have HP1 := Lib.hid (rev_perm (d := d1) (a := a) (b := b) (by omega) (by rw [HS.out]; omega))
          clear hd8 hk8
          obtain ⟨p2, hp2⟩ : ∃ p2, p2 = (b - 1) - (p - a) := ⟨_, rfl⟩
          have hp2i : (b : Int) - 1 - ((p : Int) - (a : Int)) = (p2 : Int) := by omega
          have hp2b : a ≤ p2 ∧ p2 < b := by omega
          clear hp2
          go_wp2_with fail
          go_meet
          exact ⟨p2, 1, _, rfl, rfl, hp2b.1, hp2b.2, show _ = _ by rw [HP1.out.1]; exact HS.out, HP1.out, HD1.out, HK1.out⟩
      case rest =>
        clear HS HD HK hpa hpb
        obtain ⟨p, z, d2, rfl, rfl, hpa, hpb, HS, HP2, HD, HK⟩ := hcut
        have HPD := Lib.hid (Go.Sort.permIn_trans _ _ _ a b HPM.out HP2.out)
        have HBn := Lib.hid (HB.out.perm (by rw [HS0.out]; omega) HPD.out)
        have HIn : Hid (∀ R, PermIn a b d2 R → SortedIn ltInt a b R → PermIn a0 b0 d0 R ∧ SortedIn ltInt a0 b0 R) := fun R h1 h2 => HI.out R (Go.Sort.permIn_trans _ _ _ a b HPD.out h1) h2
        clear HB HI HPM HP2 HPD HS0
        have HB := HBn
        have HI := HIn
        clear HBn HIn
        go_upto_region 15 with fail
        go_cut [68] from 61 to 68 (fun s wx => ∃ c, s = .bool c ∧ Hid (RowD wx g cap d2) ∧ Hid (Keeps (fun k => k = g) w wx))
        case first =>
          cases wb
          · go_wp2_with fail
            go_meet
            exact ⟨false, rfl, HD.out, HK.out⟩
          · cases wp
            · go_wp2_with fail
              go_meet
              exact ⟨false, rfl, HD.out, HK.out⟩
            · by_cases hz1 : z = 1
              · subst hz1
                go_wp2_with fail
                go_meet
                exact ⟨true, rfl, HD.out, HK.out⟩
              · have hz1i : (z = 1) = False := eq_false hz1
                have hz1d : decide (z = 1) = false := decide_eq_false hz1
                go_wp2_with fail
                go_meet
                exact ⟨_, rfl, HD.out, HK.out⟩
        case rest =>
          clear HD HK
          obtain ⟨c, rfl, HD, HK⟩ := hcut
          cases c
          · obtain ⟨dk, hdk⟩ : ∃ x, x = d2 := ⟨_, rfl⟩
            rw [← hdk] at HS HB HI HD
            clear hdk
            by_cases ha0 : 0 < a
            · obtain ⟨t, ht⟩ : ∃ t, t = a - 1 := ⟨_, rfl⟩
              have hat : (a : Int) - 1 = (t : Int) := by omega
              have hdd1 : decide ((0 : Int) < (a : Int)) = true := decide_eq_true (by omega)
              have hdd2 : decide (0 < a) = true := decide_eq_true ha0
              have hu1 : t < dk.size := by rw [HS.out]; omega
              have hu0 : p < dk.size := by rw [HS.out]; omega
              have hti : (t : Int) < (n : Int) := by omega
              have hpi : (p : Int) < (n : Int) := by omega
              have c1 := HD.out.cell hu1
              have c0 := HD.out.cell hu0
              have r1 := HD.out.rng hu1
              have r0 := HD.out.rng hu0
              obtain ⟨x, hx⟩ : ∃ x, x = dk[t]! := ⟨_, rfl⟩
              obtain ⟨y, hy⟩ : ∃ y, y = dk[p]! := ⟨_, rfl⟩
              rw [← hx] at c1 r1
              rw [← hy] at c0 r0
              obtain ⟨bv, hbv⟩ : ∃ bv, bv = ltInt x y := ⟨_, rfl⟩
              have HLS := Lib.hid (fun w => less_is w x y r1.1 r1.2 r0.1 r0.2)
              rw [← hbv] at HLS
              have HBV : Hid (ltInt dk[a - 1]! dk[p]! = bv) := by
                show _ = _
                rw [← ht, hbv, hx, hy]
              clear hx hy hbv r1 r0 hu1 hu0 ht
              go_wp2_with fail
              go_quiet (refine Calls.quiet_of (HLS.out _))
              replace HD := Lib.hid (HD.out.drewN nq)
              replace HK := Lib.hid (HK.out.drewN nq)
              clear c1 c0 HLS
              generalize wc.drewN nq = w5 at *
              cases bv
              · have HNL := HBV
                clear HBV
                obtain ⟨mid, d4, hx⟩ : ∃ mid d4, Go.Sort.partitionEqual ltInt dk a b p = (mid, d4) := ⟨_, _, rfl⟩
                have hre := Go.Sort.round_eq Go.Sort.swo_ltInt (Go.Sort.partitionEqual_holds ltInt) (by omega) hpa hpb (by rw [HS.out]; omega) HB.out HNL.out hx
                have HCP := Lib.hid (parteq_is w5 HD.out HS.out hpa hpb hbn hnb)
                rw [hx] at HCP
                have hm1 := hre.1
                have hm2 := hre.2.1
                have HRP := Lib.hid hre
                clear hre hx
                go_wp2_with fail
                refine HCP.out.mono ?_
                rintro e w6 ⟨rfl, hd8, hk8⟩
                have HD9 := Lib.hid (show RowD w6 g cap d4 from hd8)
                have HK9 := Lib.hid (Keeps.trans HK.out hk8 fun _ _ h => h)
                have HS9 : Hid (d4.size = n) := by
                  show _ = _
                  rw [HRP.out.2.2.1]; exact HS.out
                have HB9 := Lib.hid HRP.out.2.2.2.1
                have HI9 : Hid (∀ R, PermIn mid b d4 R → SortedIn ltInt mid b R → PermIn a0 b0 d0 R ∧ SortedIn ltInt a0 b0 R) := fun R h1 h2 => HI.out R (HRP.out.2.2.2.2 R h1 h2).1 (HRP.out.2.2.2.2 R h1 h2).2
                clear hd8 hk8 HCP HD HK
                go_wp2_with fail
                go_roundw
                case rel => exact ⟨mid, b, l, _, _, _, by omega, by omega, by omega, by omega, by go_num, by go_num, rfl, rfl, rfl, HS9.out, HD9.out, HB9.out, HI9.out, HK9.out⟩
                case measure => (simp [intOf] <;> omega)
              · clear HBV
                obtain ⟨mid, ap, d4, hx⟩ : ∃ mid ap d4, Go.Sort.partition ltInt dk a b p = (mid, ap, d4) := ⟨_, _, _, rfl⟩
                have hrp := Go.Sort.round_part Go.Sort.swo_ltInt (Go.Sort.partition_holds ltInt) hpa hpb (by rw [HS.out]; omega) HB.out hx
                have HCP := Lib.hid (part_is w5 HD.out HS.out hpa hpb hbn hnb)
                rw [hx] at HCP
                have hm1 := hrp.1
                have hm2 := hrp.2.1
                have HRP := Lib.hid hrp
                clear hrp
                obtain ⟨l8, hl8⟩ : ∃ l8, l8 = len / 8 := ⟨_, rfl⟩
                have hl8i : (len : Int) / 8 = (l8 : Int) := by omega
                have hl8t : (len : Int).tdiv 8 = (l8 : Int) := by rw [Int.tdiv_eq_ediv_of_nonneg (by omega)]; exact hl8i
                obtain ⟨ln, hln⟩ : ∃ ln, ln = mid - a := ⟨_, rfl⟩
                have hlni : (mid : Int) - (a : Int) = (ln : Int) := by omega
                obtain ⟨rn, hrn⟩ : ∃ rn, rn = b - mid := ⟨_, rfl⟩
                have hrni : (b : Int) - (mid : Int) = (rn : Int) := by omega
                have HX := Lib.hid hx
                have hmn : (mid : Int) < (n : Int) := by omega
                clear hl8 hx hlei
                go_wp2_with fail
                refine HCP.out.mono ?_
                rintro e w6 ⟨rfl, hd8, hk8⟩
                have HD4 := Lib.hid (show RowD w6 g cap d4 from hd8)
                have HK4 := Lib.hid (Keeps.trans HK.out hk8 fun _ _ h => h)
                have HS4 : Hid (d4.size = n) := by
                  show _ = _
                  rw [HRP.out.2.2.1]; exact HS.out
                clear hd8 hk8 HCP HD HK
                by_cases hlr : ln < rn
                · have hlri : (ln : Int) < (rn : Int) := by omega
                  go_wp2_with fail
                  refine (HIH.out w6 (l := l) HD4.out HS4.out hm1 (by omega) (by omega) hnb HRP.out.2.2.2.1 hl).mono ?_
                  rintro e w7 ⟨rfl, dl, hp7, hs7, hd7, hk7⟩
                  have hnx := HRP.out.2.2.2.2.2.1 dl hp7 hs7
                  have HS9 : Hid (dl.size = n) := by
                    show _ = _
                    rw [hp7.1]; exact HS4.out
                  have HD9 := Lib.hid hd7
                  have HB9 := Lib.hid hnx.1
                  have HI9 : Hid (∀ R, PermIn (mid + 1) b dl R → SortedIn ltInt (mid + 1) b R → PermIn a0 b0 d0 R ∧ SortedIn ltInt a0 b0 R) := fun R h1 h2 => HI.out R (hnx.2 R h1 h2).1 (hnx.2 R h1 h2).2
                  have HK9 := Lib.hid (Keeps.trans HK4.out hk7 fun _ _ h => h)
                  clear hp7 hs7 hd7 hk7 hnx
                  go_wp2_with fail
                  go_roundw
                  case rel => exact ⟨mid + 1, b, l, _, ap, _, by omega, by omega, by omega, by omega, by go_num, by go_num, rfl, rfl, rfl, HS9.out, HD9.out, HB9.out, HI9.out, HK9.out⟩
                  case measure => (simp [intOf] <;> omega)
                · have hlri : ¬ (ln : Int) < (rn : Int) := by omega
                  go_wp2_with fail
                  have hic := HIH.out w6 (a := mid + 1) (b := b) (l := l) HD4.out HS4.out (by omega) hbn (by omega) hnb HRP.out.2.2.2.2.1 hl
                  have hm1c : ((mid + 1 : Nat) : Int) = (mid : Int) + 1 := by omega
                  rw [hm1c] at hic
                  refine hic.mono ?_
                  rintro e w7 ⟨rfl, dl, hp7, hs7, hd7, hk7⟩
                  have hnx := HRP.out.2.2.2.2.2.2 dl hp7 hs7
                  have HS9 : Hid (dl.size = n) := by
                    show _ = _
                    rw [hp7.1]; exact HS4.out
                  have HD9 := Lib.hid hd7
                  have HB9 := Lib.hid hnx.1
                  have HI9 : Hid (∀ R, PermIn a mid dl R → SortedIn ltInt a mid R → PermIn a0 b0 d0 R ∧ SortedIn ltInt a0 b0 R) := fun R h1 h2 => HI.out R (hnx.2 R h1 h2).1 (hnx.2 R h1 h2).2
                  have HK9 := Lib.hid (Keeps.trans HK4.out hk7 fun _ _ h => h)
                  clear hp7 hs7 hd7 hk7 hnx hic hm1c
                  go_wp2_with fail
                  go_roundw
                  case rel => exact ⟨a, mid, l, _, ap, _, by omega, by omega, by omega, by omega, by go_num, by go_num, rfl, rfl, rfl, HS9.out, HD9.out, HB9.out, HI9.out, HK9.out⟩
                  case measure => (simp [intOf] <;> omega)
            · have hdd1 : decide ((0 : Int) < (a : Int)) = false := decide_eq_false (by omega)
              have hdd2 : decide (0 < a) = false := decide_eq_false ha0
              go_wp2_with fail
              go_quiet (fail)
              replace HD := Lib.hid (HD.out.drewN nq)
              replace HK := Lib.hid (HK.out.drewN nq)
              generalize wc.drewN nq = w5 at *
              obtain ⟨mid, ap, d4, hx⟩ : ∃ mid ap d4, Go.Sort.partition ltInt dk a b p = (mid, ap, d4) := ⟨_, _, _, rfl⟩
              have hrp := Go.Sort.round_part Go.Sort.swo_ltInt (Go.Sort.partition_holds ltInt) hpa hpb (by rw [HS.out]; omega) HB.out hx
              have HCP := Lib.hid (part_is w5 HD.out HS.out hpa hpb hbn hnb)
              rw [hx] at HCP
              have hm1 := hrp.1
              have hm2 := hrp.2.1
              have HRP := Lib.hid hrp
              clear hrp
              obtain ⟨l8, hl8⟩ : ∃ l8, l8 = len / 8 := ⟨_, rfl⟩
              have hl8i : (len : Int) / 8 = (l8 : Int) := by omega
              have hl8t : (len : Int).tdiv 8 = (l8 : Int) := by rw [Int.tdiv_eq_ediv_of_nonneg (by omega)]; exact hl8i
              obtain ⟨ln, hln⟩ : ∃ ln, ln = mid - a := ⟨_, rfl⟩
              have hlni : (mid : Int) - (a : Int) = (ln : Int) := by omega
              obtain ⟨rn, hrn⟩ : ∃ rn, rn = b - mid := ⟨_, rfl⟩
              have hrni : (b : Int) - (mid : Int) = (rn : Int) := by omega
              have HX := Lib.hid hx
              have hmn : (mid : Int) < (n : Int) := by omega
              clear hl8 hx hlei
              go_wp2_with fail
              refine HCP.out.mono ?_
              rintro e w6 ⟨rfl, hd8, hk8⟩
              have HD4 := Lib.hid (show RowD w6 g cap d4 from hd8)
              have HK4 := Lib.hid (Keeps.trans HK.out hk8 fun _ _ h => h)
              have HS4 : Hid (d4.size = n) := by
                show _ = _
                rw [HRP.out.2.2.1]; exact HS.out
              clear hd8 hk8 HCP HD HK
              by_cases hlr : ln < rn
              · have hlri : (ln : Int) < (rn : Int) := by omega
                go_wp2_with fail
                refine (HIH.out w6 (l := l) HD4.out HS4.out hm1 (by omega) (by omega) hnb HRP.out.2.2.2.1 hl).mono ?_
                rintro e w7 ⟨rfl, dl, hp7, hs7, hd7, hk7⟩
                have hnx := HRP.out.2.2.2.2.2.1 dl hp7 hs7
                have HS9 : Hid (dl.size = n) := by
                  show _ = _
                  rw [hp7.1]; exact HS4.out
                have HD9 := Lib.hid hd7
                have HB9 := Lib.hid hnx.1
                have HI9 : Hid (∀ R, PermIn (mid + 1) b dl R → SortedIn ltInt (mid + 1) b R → PermIn a0 b0 d0 R ∧ SortedIn ltInt a0 b0 R) := fun R h1 h2 => HI.out R (hnx.2 R h1 h2).1 (hnx.2 R h1 h2).2
                have HK9 := Lib.hid (Keeps.trans HK4.out hk7 fun _ _ h => h)
                clear hp7 hs7 hd7 hk7 hnx
                go_wp2_with fail
                go_roundw
                case rel => exact ⟨mid + 1, b, l, _, ap, _, by omega, by omega, by omega, by omega, by go_num, by go_num, rfl, rfl, rfl, HS9.out, HD9.out, HB9.out, HI9.out, HK9.out⟩
                case measure => (simp [intOf] <;> omega)
              · have hlri : ¬ (ln : Int) < (rn : Int) := by omega
                go_wp2_with fail
                have hic := HIH.out w6 (a := mid + 1) (b := b) (l := l) HD4.out HS4.out (by omega) hbn (by omega) hnb HRP.out.2.2.2.2.1 hl
                have hm1c : ((mid + 1 : Nat) : Int) = (mid : Int) + 1 := by omega
                rw [hm1c] at hic
                refine hic.mono ?_
                rintro e w7 ⟨rfl, dl, hp7, hs7, hd7, hk7⟩
                have hnx := HRP.out.2.2.2.2.2.2 dl hp7 hs7
                have HS9 : Hid (dl.size = n) := by
                  show _ = _
                  rw [hp7.1]; exact HS4.out
                have HD9 := Lib.hid hd7
                have HB9 := Lib.hid hnx.1
                have HI9 : Hid (∀ R, PermIn a mid dl R → SortedIn ltInt a mid R → PermIn a0 b0 d0 R ∧ SortedIn ltInt a0 b0 R) := fun R h1 h2 => HI.out R (hnx.2 R h1 h2).1 (hnx.2 R h1 h2).2
                have HK9 := Lib.hid (Keeps.trans HK4.out hk7 fun _ _ h => h)
                clear hp7 hs7 hd7 hk7 hnx hic hm1c
                go_wp2_with fail
                go_roundw
                case rel => exact ⟨a, mid, l, _, ap, _, by omega, by omega, by omega, by omega, by go_num, by go_num, rfl, rfl, rfl, HS9.out, HD9.out, HB9.out, HI9.out, HK9.out⟩
                case measure => (simp [intOf] <;> omega)
          · obtain ⟨d5, pb, hpr⟩ : ∃ d5 pb, Go.Sort.partialInsertionSort ltInt d2 a b = (d5, pb) := ⟨_, _, rfl⟩
            have hsp := Go.Sort.partialInsertionSort_holds Go.Sort.swo_ltInt d2 a b (by omega) (by rw [HS.out]; omega) HB.out
            have HCP := Lib.hid (partial_is wc (a := a) (b := b) HD.out HS.out (by omega) hbn hnb)
            rw [hpr] at HCP hsp
            have HSP := Lib.hid hsp
            clear hsp hpr
            go_wp2_with fail
            refine HCP.out.mono ?_
            rintro e w8 ⟨rfl, hd8, hk8⟩
            have HD8 := Lib.hid (show RowD w8 g cap d5 from hd8)
            have HK8 := Lib.hid (Keeps.trans HK.out hk8 fun _ _ h => h)
            clear hd8 hk8 HCP
            cases pb
            · have HS5 : Hid (d5.size = n) := by
                show _ = _
                rw [HSP.out.1.1]; exact HS.out
              have HB5 := Lib.hid (HB.out.perm (by rw [HS.out]; omega) HSP.out.1)
              have HI5 : Hid (∀ R, PermIn a b d5 R → SortedIn ltInt a b R → PermIn a0 b0 d0 R ∧ SortedIn ltInt a0 b0 R) := fun R h1 h2 => HI.out R (Go.Sort.permIn_trans _ _ _ a b HSP.out.1 h1) h2
              clear HS HB HI HD HK HSP
              have HS := HS5
              have HB := HB5
              have HI := HI5
              have HD := HD8
              have HK := HK8
              clear HS5 HB5 HI5 HD8 HK8
              obtain ⟨dk, hdk⟩ : ∃ x, x = d5 := ⟨_, rfl⟩
              rw [← hdk] at HS HB HI HD
              clear hdk
              by_cases ha0 : 0 < a
              · obtain ⟨t, ht⟩ : ∃ t, t = a - 1 := ⟨_, rfl⟩
                have hat : (a : Int) - 1 = (t : Int) := by omega
                have hdd1 : decide ((0 : Int) < (a : Int)) = true := decide_eq_true (by omega)
                have hdd2 : decide (0 < a) = true := decide_eq_true ha0
                have hu1 : t < dk.size := by rw [HS.out]; omega
                have hu0 : p < dk.size := by rw [HS.out]; omega
                have hti : (t : Int) < (n : Int) := by omega
                have hpi : (p : Int) < (n : Int) := by omega
                have c1 := HD.out.cell hu1
                have c0 := HD.out.cell hu0
                have r1 := HD.out.rng hu1
                have r0 := HD.out.rng hu0
                obtain ⟨x, hx⟩ : ∃ x, x = dk[t]! := ⟨_, rfl⟩
                obtain ⟨y, hy⟩ : ∃ y, y = dk[p]! := ⟨_, rfl⟩
                rw [← hx] at c1 r1
                rw [← hy] at c0 r0
                obtain ⟨bv, hbv⟩ : ∃ bv, bv = ltInt x y := ⟨_, rfl⟩
                have HLS := Lib.hid (fun w => less_is w x y r1.1 r1.2 r0.1 r0.2)
                rw [← hbv] at HLS
                have HBV : Hid (ltInt dk[a - 1]! dk[p]! = bv) := by
                  show _ = _
                  rw [← ht, hbv, hx, hy]
                clear hx hy hbv r1 r0 hu1 hu0 ht
                go_wp2_with fail
                go_quiet (refine Calls.quiet_of (HLS.out _))
                replace HD := Lib.hid (HD.out.drewN nq)
                replace HK := Lib.hid (HK.out.drewN nq)
                clear c1 c0 HLS
                generalize w8.drewN nq = w5 at *
                cases bv
                · have HNL := HBV
                  clear HBV
                  obtain ⟨mid, d4, hx⟩ : ∃ mid d4, Go.Sort.partitionEqual ltInt dk a b p = (mid, d4) := ⟨_, _, rfl⟩
                  have hre := Go.Sort.round_eq Go.Sort.swo_ltInt (Go.Sort.partitionEqual_holds ltInt) (by omega) hpa hpb (by rw [HS.out]; omega) HB.out HNL.out hx
                  have HCP := Lib.hid (parteq_is w5 HD.out HS.out hpa hpb hbn hnb)
                  rw [hx] at HCP
                  have hm1 := hre.1
                  have hm2 := hre.2.1
                  have HRP := Lib.hid hre
                  clear hre hx
                  go_wp2_with fail
                  refine HCP.out.mono ?_
                  rintro e w6 ⟨rfl, hd8, hk8⟩
                  have HD9 := Lib.hid (show RowD w6 g cap d4 from hd8)
                  have HK9 := Lib.hid (Keeps.trans HK.out hk8 fun _ _ h => h)
                  have HS9 : Hid (d4.size = n) := by
                    show _ = _
                    rw [HRP.out.2.2.1]; exact HS.out
                  have HB9 := Lib.hid HRP.out.2.2.2.1
                  have HI9 : Hid (∀ R, PermIn mid b d4 R → SortedIn ltInt mid b R → PermIn a0 b0 d0 R ∧ SortedIn ltInt a0 b0 R) := fun R h1 h2 => HI.out R (HRP.out.2.2.2.2 R h1 h2).1 (HRP.out.2.2.2.2 R h1 h2).2
                  clear hd8 hk8 HCP HD HK
                  go_wp2_with fail
                  go_roundw
                  case rel => exact ⟨mid, b, l, _, _, _, by omega, by omega, by omega, by omega, by go_num, by go_num, rfl, rfl, rfl, HS9.out, HD9.out, HB9.out, HI9.out, HK9.out⟩
                  case measure => (simp [intOf] <;> omega)
                · clear HBV
                  obtain ⟨mid, ap, d4, hx⟩ : ∃ mid ap d4, Go.Sort.partition ltInt dk a b p = (mid, ap, d4) := ⟨_, _, _, rfl⟩
                  have hrp := Go.Sort.round_part Go.Sort.swo_ltInt (Go.Sort.partition_holds ltInt) hpa hpb (by rw [HS.out]; omega) HB.out hx
                  have HCP := Lib.hid (part_is w5 HD.out HS.out hpa hpb hbn hnb)
                  rw [hx] at HCP
                  have hm1 := hrp.1
                  have hm2 := hrp.2.1
                  have HRP := Lib.hid hrp
                  clear hrp
                  obtain ⟨l8, hl8⟩ : ∃ l8, l8 = len / 8 := ⟨_, rfl⟩
                  have hl8i : (len : Int) / 8 = (l8 : Int) := by omega
                  have hl8t : (len : Int).tdiv 8 = (l8 : Int) := by rw [Int.tdiv_eq_ediv_of_nonneg (by omega)]; exact hl8i
                  obtain ⟨ln, hln⟩ : ∃ ln, ln = mid - a := ⟨_, rfl⟩
                  have hlni : (mid : Int) - (a : Int) = (ln : Int) := by omega
                  obtain ⟨rn, hrn⟩ : ∃ rn, rn = b - mid := ⟨_, rfl⟩
                  have hrni : (b : Int) - (mid : Int) = (rn : Int) := by omega
                  have HX := Lib.hid hx
                  have hmn : (mid : Int) < (n : Int) := by omega
                  clear hl8 hx hlei
                  go_wp2_with fail
                  refine HCP.out.mono ?_
                  rintro e w6 ⟨rfl, hd8, hk8⟩
                  have HD4 := Lib.hid (show RowD w6 g cap d4 from hd8)
                  have HK4 := Lib.hid (Keeps.trans HK.out hk8 fun _ _ h => h)
                  have HS4 : Hid (d4.size = n) := by
                    show _ = _
                    rw [HRP.out.2.2.1]; exact HS.out
                  clear hd8 hk8 HCP HD HK
                  by_cases hlr : ln < rn
                  · have hlri : (ln : Int) < (rn : Int) := by omega
                    go_wp2_with fail
                    refine (HIH.out w6 (l := l) HD4.out HS4.out hm1 (by omega) (by omega) hnb HRP.out.2.2.2.1 hl).mono ?_
                    rintro e w7 ⟨rfl, dl, hp7, hs7, hd7, hk7⟩
                    have hnx := HRP.out.2.2.2.2.2.1 dl hp7 hs7
                    have HS9 : Hid (dl.size = n) := by
                      show _ = _
                      rw [hp7.1]; exact HS4.out
                    have HD9 := Lib.hid hd7
                    have HB9 := Lib.hid hnx.1
                    have HI9 : Hid (∀ R, PermIn (mid + 1) b dl R → SortedIn ltInt (mid + 1) b R → PermIn a0 b0 d0 R ∧ SortedIn ltInt a0 b0 R) := fun R h1 h2 => HI.out R (hnx.2 R h1 h2).1 (hnx.2 R h1 h2).2
                    have HK9 := Lib.hid (Keeps.trans HK4.out hk7 fun _ _ h => h)
                    clear hp7 hs7 hd7 hk7 hnx
                    go_wp2_with fail
                    go_roundw
                    case rel => exact ⟨mid + 1, b, l, _, ap, _, by omega, by omega, by omega, by omega, by go_num, by go_num, rfl, rfl, rfl, HS9.out, HD9.out, HB9.out, HI9.out, HK9.out⟩
                    case measure => (simp [intOf] <;> omega)
                  · have hlri : ¬ (ln : Int) < (rn : Int) := by omega
                    go_wp2_with fail
                    have hic := HIH.out w6 (a := mid + 1) (b := b) (l := l) HD4.out HS4.out (by omega) hbn (by omega) hnb HRP.out.2.2.2.2.1 hl
                    have hm1c : ((mid + 1 : Nat) : Int) = (mid : Int) + 1 := by omega
                    rw [hm1c] at hic
                    refine hic.mono ?_
                    rintro e w7 ⟨rfl, dl, hp7, hs7, hd7, hk7⟩
                    have hnx := HRP.out.2.2.2.2.2.2 dl hp7 hs7
                    have HS9 : Hid (dl.size = n) := by
                      show _ = _
                      rw [hp7.1]; exact HS4.out
                    have HD9 := Lib.hid hd7
                    have HB9 := Lib.hid hnx.1
                    have HI9 : Hid (∀ R, PermIn a mid dl R → SortedIn ltInt a mid R → PermIn a0 b0 d0 R ∧ SortedIn ltInt a0 b0 R) := fun R h1 h2 => HI.out R (hnx.2 R h1 h2).1 (hnx.2 R h1 h2).2
                    have HK9 := Lib.hid (Keeps.trans HK4.out hk7 fun _ _ h => h)
                    clear hp7 hs7 hd7 hk7 hnx hic hm1c
                    go_wp2_with fail
                    go_roundw
                    case rel => exact ⟨a, mid, l, _, ap, _, by omega, by omega, by omega, by omega, by go_num, by go_num, rfl, rfl, rfl, HS9.out, HD9.out, HB9.out, HI9.out, HK9.out⟩
                    case measure => (simp [intOf] <;> omega)
              · have hdd1 : decide ((0 : Int) < (a : Int)) = false := decide_eq_false (by omega)
                have hdd2 : decide (0 < a) = false := decide_eq_false ha0
                go_wp2_with fail
                go_quiet (fail)
                replace HD := Lib.hid (HD.out.drewN nq)
                replace HK := Lib.hid (HK.out.drewN nq)
                generalize w8.drewN nq = w5 at *
                obtain ⟨mid, ap, d4, hx⟩ : ∃ mid ap d4, Go.Sort.partition ltInt dk a b p = (mid, ap, d4) := ⟨_, _, _, rfl⟩
                have hrp := Go.Sort.round_part Go.Sort.swo_ltInt (Go.Sort.partition_holds ltInt) hpa hpb (by rw [HS.out]; omega) HB.out hx
                have HCP := Lib.hid (part_is w5 HD.out HS.out hpa hpb hbn hnb)
                rw [hx] at HCP
                have hm1 := hrp.1
                have hm2 := hrp.2.1
                have HRP := Lib.hid hrp
                clear hrp
                obtain ⟨l8, hl8⟩ : ∃ l8, l8 = len / 8 := ⟨_, rfl⟩
                have hl8i : (len : Int) / 8 = (l8 : Int) := by omega
                have hl8t : (len : Int).tdiv 8 = (l8 : Int) := by rw [Int.tdiv_eq_ediv_of_nonneg (by omega)]; exact hl8i
                obtain ⟨ln, hln⟩ : ∃ ln, ln = mid - a := ⟨_, rfl⟩
                have hlni : (mid : Int) - (a : Int) = (ln : Int) := by omega
                obtain ⟨rn, hrn⟩ : ∃ rn, rn = b - mid := ⟨_, rfl⟩
                have hrni : (b : Int) - (mid : Int) = (rn : Int) := by omega
                have HX := Lib.hid hx
                have hmn : (mid : Int) < (n : Int) := by omega
                clear hl8 hx hlei
                go_wp2_with fail
                refine HCP.out.mono ?_
                rintro e w6 ⟨rfl, hd8, hk8⟩
                have HD4 := Lib.hid (show RowD w6 g cap d4 from hd8)
                have HK4 := Lib.hid (Keeps.trans HK.out hk8 fun _ _ h => h)
                have HS4 : Hid (d4.size = n) := by
                  show _ = _
                  rw [HRP.out.2.2.1]; exact HS.out
                clear hd8 hk8 HCP HD HK
                by_cases hlr : ln < rn
                · have hlri : (ln : Int) < (rn : Int) := by omega
                  go_wp2_with fail
                  refine (HIH.out w6 (l := l) HD4.out HS4.out hm1 (by omega) (by omega) hnb HRP.out.2.2.2.1 hl).mono ?_
                  rintro e w7 ⟨rfl, dl, hp7, hs7, hd7, hk7⟩
                  have hnx := HRP.out.2.2.2.2.2.1 dl hp7 hs7
                  have HS9 : Hid (dl.size = n) := by
                    show _ = _
                    rw [hp7.1]; exact HS4.out
                  have HD9 := Lib.hid hd7
                  have HB9 := Lib.hid hnx.1
                  have HI9 : Hid (∀ R, PermIn (mid + 1) b dl R → SortedIn ltInt (mid + 1) b R → PermIn a0 b0 d0 R ∧ SortedIn ltInt a0 b0 R) := fun R h1 h2 => HI.out R (hnx.2 R h1 h2).1 (hnx.2 R h1 h2).2
                  have HK9 := Lib.hid (Keeps.trans HK4.out hk7 fun _ _ h => h)
                  clear hp7 hs7 hd7 hk7 hnx
                  go_wp2_with fail
                  go_roundw
                  case rel => exact ⟨mid + 1, b, l, _, ap, _, by omega, by omega, by omega, by omega, by go_num, by go_num, rfl, rfl, rfl, HS9.out, HD9.out, HB9.out, HI9.out, HK9.out⟩
                  case measure => (simp [intOf] <;> omega)
                · have hlri : ¬ (ln : Int) < (rn : Int) := by omega
                  go_wp2_with fail
                  have hic := HIH.out w6 (a := mid + 1) (b := b) (l := l) HD4.out HS4.out (by omega) hbn (by omega) hnb HRP.out.2.2.2.2.1 hl
                  have hm1c : ((mid + 1 : Nat) : Int) = (mid : Int) + 1 := by omega
                  rw [hm1c] at hic
                  refine hic.mono ?_
                  rintro e w7 ⟨rfl, dl, hp7, hs7, hd7, hk7⟩
                  have hnx := HRP.out.2.2.2.2.2.2 dl hp7 hs7
                  have HS9 : Hid (dl.size = n) := by
                    show _ = _
                    rw [hp7.1]; exact HS4.out
                  have HD9 := Lib.hid hd7
                  have HB9 := Lib.hid hnx.1
                  have HI9 : Hid (∀ R, PermIn a mid dl R → SortedIn ltInt a mid R → PermIn a0 b0 d0 R ∧ SortedIn ltInt a0 b0 R) := fun R h1 h2 => HI.out R (hnx.2 R h1 h2).1 (hnx.2 R h1 h2).2
                  have HK9 := Lib.hid (Keeps.trans HK4.out hk7 fun _ _ h => h)
                  clear hp7 hs7 hd7 hk7 hnx hic hm1c
                  go_wp2_with fail
                  go_roundw
                  case rel => exact ⟨a, mid, l, _, ap, _, by omega, by omega, by omega, by omega, by go_num, by go_num, rfl, rfl, rfl, HS9.out, HD9.out, HB9.out, HI9.out, HK9.out⟩
                  case measure => (simp [intOf] <;> omega)
            · have HFN := Lib.hid (HI.out d5 HSP.out.1 (HSP.out.2 rfl))
              go_wp2_with fail
              refine bodyPost_ret (results_none rfl _ _ _) rfl ⟨rfl, _, HFN.out.1, HFN.out.2, HD8.out, HK8.out⟩
end Go.Proofs.Yteccmnjcmmbhlaa
