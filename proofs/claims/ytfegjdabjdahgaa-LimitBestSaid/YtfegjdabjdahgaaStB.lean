/- Pointers sorted: insertionSortCmpFunc. -/
import Derived.Test.YtfegjdabjdahgaaStA
namespace Go.Proofs.Ytfegjdabjdahgaa
open Go.RowKit
set_option linter.unusedVariables false
set_option linter.unusedSimpArgs false

theorem swapF_l (f : Nat → Nat) (i j : Nat) (h : i ≠ j) : swapF f i j i = f j := by unfold swapF; rw [if_neg h, if_pos rfl]
theorem swapF_r (f : Nat → Nat) (i j : Nat) : swapF f i j j = f i := by unfold swapF; rw [if_pos rfl]
theorem swapF_o (f : Nat → Nat) {i j p : Nat} (h1 : p ≠ i) (h2 : p ≠ j) : swapF f i j p = f p := by unfold swapF; rw [if_neg h2, if_neg h1]
/-- One is on its way down. -/
structure InsSt (o : Ord) (n a i : Nat) (f fj : Nat → Nat) (j : Nat) : Prop where
  turn : Turn n a (i + 1) f fj
  at_ : fj j = f i
  oth : ∀ p, a ≤ p → p ≤ i → p ≠ j → ∃ q, a ≤ q ∧ q < i ∧ fj p = f q
  ord : ∀ p q, a ≤ p → p < q → q ≤ i → p ≠ j → q ≠ j → o.lt (fj p) (fj q)
  gt : ∀ q, j < q → q ≤ i → o.lt (fj j) (fj q)
theorem InsSt.step {o : Ord} {n a i : Nat} {f fj : Nat → Nat} {j : Nat} (h : InsSt o n a i f fj (j + 1)) (ha : a ≤ j) (hj : j + 1 ≤ i) (hn : i < n) (hlt : o.lt (fj (j + 1)) (fj j)) : InsSt o n a i f (swapF fj (j + 1) j) j := by
  have e1 : swapF fj (j + 1) j j = fj (j + 1) := swapF_r _ _ _
  have e2 : swapF fj (j + 1) j (j + 1) = fj j := swapF_l _ _ _ (by omega)
  have e3 : ∀ p, p ≠ j → p ≠ j + 1 → swapF fj (j + 1) j p = fj p := fun p h1 h2 => swapF_o _ h2 h1
  refine ⟨h.turn.trans (Turn.swap fj ⟨by omega, by omega⟩ ⟨by omega, by omega⟩ (by omega)), e1.trans h.at_, fun p h1 h2 h3 => ?_, fun p q h1 h2 h3 h4 h5 => ?_, fun q h1 h2 => ?_⟩
  · by_cases hp : p = j + 1
    · subst hp; rw [e2]; exact h.oth j ha (by omega) (by omega)
    · rw [e3 p h3 hp]; exact h.oth p h1 h2 hp
  · by_cases hp : p = j + 1
    · subst hp; rw [e2, e3 q (by omega) (by omega)]; exact h.ord j q ha (by omega) h3 (by omega) (by omega)
    · by_cases hq : q = j + 1
      · subst hq; rw [e2, e3 p h4 hp]; exact h.ord p j h1 (by omega) (by omega) (by omega) (by omega)
      · rw [e3 p h4 hp, e3 q h5 hq]; exact h.ord p q h1 h2 h3 hp hq
  · rw [e1]
    by_cases hq : q = j + 1
    · subst hq; rw [e2]; exact hlt
    · rw [e3 q (by omega) hq]; exact h.gt q (by omega) h2
theorem InsSt.stop {o : Ord} {n a i : Nat} {f fj : Nat → Nat} {j : Nat} (h : InsSt o n a i f fj j) (hj : a ≤ j) (hji : j ≤ i) (hst : j = a ∨ ∃ q, j = q + 1 ∧ o.lt (fj q) (fj j)) : Up o a (i + 1) fj := by
  intro p q h1 h2 h3
  by_cases hp : p = j
  · subst hp; exact h.gt q h2 (by omega)
  · by_cases hq : q = j
    · subst hq
      rcases hst with e | ⟨r, e, hl⟩
      · omega
      · by_cases hr : p = r
        · rw [hr]; exact hl
        · exact Ord.trans (h.ord p r h1 (by omega) (by omega) hp (by omega)) hl
    · exact h.ord p q h1 h2 (by omega) hp hq
theorem InsSt.start {o : Ord} {n a i : Nat} {f fk : Nat → Nat} (hu : Up o a i fk) (ht : Turn n a i f fk) : InsSt o n a i f fk i :=
  ⟨ht.mono (Nat.le_refl _) (by omega), ht.loc.out i (.inr (Nat.le_refl _)), fun p h1 h2 h3 => ht.loc.in_ p h1 (by omega), fun p q h1 h2 h3 h4 h5 => hu p q h1 h2 (by omega), fun q h1 h2 => by omega⟩
/-- The closure. -/
def cmpFn : Value := .func (.func 13) #[] #[]
theorem cmpV_neg (x y : Int) : (cmpV x y < 0) = (x < y) := by
  unfold cmpV
  split
  · rename_i h; simp [h]
  · rename_i h
    split <;> simp [h]
theorem cmpV_dec (x y : Int) : decide (cmpV x y < 0) = decide (x < y) := by simp only [cmpV_neg]
set_option maxRecDepth 4000 in
set_option maxHeartbeats 2000000 in
theorem ins_is (o : Ord) (w : World) (g n cap a b : Nat) (f : Nat → Nat) (h : RowF o w g cap n f) (hab : a ≤ b) (hbn : b ≤ n) (hnb : n ≤ 1099511627776) (hasc : ∀ p q, a ≤ p → p < q → q < b → o.ix (f p) < o.ix (f q)) :
    Calls Try.prog 27 #[.slice (some ⟨g, 0, none⟩) n cap, .int .i64 (a : Nat), .int .i64 (b : Nat), cmpFn] w fun e w' => e = .returned (.tuple #[]) ∧ ∃ f', RowF o w' g cap n f' ∧ Turn n a b f f' ∧ Up o a b f' ∧ Keeps (fun k => k = g) w w' := by
  unfold cmpFn
  have H := Lib.hid h
  have HA := Lib.hid hasc
  have hni : (n : Int) ≤ 1099511627776 := by omega
  have hai : (a : Int) ≤ (b : Int) := by omega
  have hbi : (b : Int) ≤ (n : Int) := by omega
  clear h hasc
  go_enter Try.func27, Try.ntmps27
  go_wp2_with fail
  go_loopw [8, 9] (fun vi _ wr => ∃ (i : Nat) (fk : Nat → Nat), i ≤ b + 1 ∧ a + 1 ≤ i ∧ vi = .int .i64 (i : Nat) ∧ Hid (RowF o wr g cap n fk) ∧ Hid (i ≤ b → Turn n a i f fk ∧ Up o a i fk) ∧ Hid (b < i → fk = f ∧ a = b) ∧ Hid (Keeps (fun k => k = g) w wr)) (fun vi _ _ => b + 1 - (intOf vi).toNat)
  case atStart => exact ⟨a + 1, f, by omega, Nat.le_refl _, by simp, H.out, fun _ => ⟨Turn.refl _ _ _ _, fun p q h1 h2 h3 => by omega⟩, fun _ => ⟨rfl, by omega⟩, Keeps.refl _ _⟩
  case round =>
    obtain ⟨i, fk, hi, hai1, rfl, HD, HT, HE, HK⟩ := hrel
    by_cases hib : i < b
    · have hib' : (i : Int) < (b : Int) := by omega
      have HS0 : Hid (InsSt o n a i f fk i) := InsSt.start (HT.out (by omega)).2 (HT.out (by omega)).1
      go_wp2_with fail
      go_loopw [9] (fun vj wr => ∃ (j : Nat) (fj : Nat → Nat), j ≤ i ∧ a ≤ j ∧ vj = .int .i64 (j : Nat) ∧ Hid (RowF o wr g cap n fj) ∧ Hid (InsSt o n a i f fj j) ∧ Hid (Keeps (fun k => k = g) w wr)) (fun vj _ => (intOf vj).toNat)
      case atStart => exact ⟨i, fk, Nat.le_refl _, by omega, rfl, HD.out, HS0.out, HK.out⟩
      case round =>
        clear HD HT HE HK HS0
        obtain ⟨j, fj, hj, haj, rfl, HD, HS, HK⟩ := hrel
        by_cases hja : a < j
        · obtain ⟨q, hq⟩ : ∃ q, j = q + 1 := ⟨j - 1, by omega⟩
          have c1 := HD.out.cell (j := j) (by omega)
          have c0 := HD.out.cell (j := q) (by omega)
          have hix : o.ix (fj q) < o.ix (fj j) := by
            obtain ⟨r, r1, r2, e⟩ := HS.out.oth q (by omega) (by omega) (by omega)
            rw [e, HS.out.at_]
            exact HA.out r i r1 r2 hib
          have hlate := Ord.late hix
          have hnlate := Ord.not_late hix
          have HCM : Hid (∀ m, Calls Try.prog 13 #[.pointer (some ⟨fj j, 0, none⟩), .pointer (some ⟨fj q, 0, none⟩)] (wr.drewN m) fun e w' => e = .returned (.int .i64 (cmpV (o.wo (fj j)) (o.wo (fj q)))) ∧ ∃ n, w' = (wr.drewN m).drewN n) := fun m => cmp_is (wr.drewN m) (fj j) (fj q) _ _ (HD.out.coin j (by omega)).1 (HD.out.coin q (by omega)).1
          have hdec := cmpV_dec (o.wo (fj j)) (o.wo (fj q))
          have hjq : (j : Int) - 1 = (q : Int) := by omega
          have hja1 : decide ((a : Int) < (j : Int)) = true := decide_eq_true (by omega)
          have hja2 : decide (a < j) = true := decide_eq_true hja
          have hqi : (q : Int) < (n : Int) := by omega
          have hji : (j : Int) < (n : Int) := by omega
          by_cases hw : o.wo (fj j) < o.wo (fj q)
          · have hlt : o.lt (fj j) (fj q) := hlate.2 hw
            rw [decide_eq_true hw] at hdec
            have HN : Hid (InsSt o n a i f (swapF fj j q) q) := by
              show InsSt _ _ _ _ _ _ _
              subst hq
              exact HS.out.step (by omega) (by omega) (by omega) hlt
            generalize cmpV (o.wo (fj j)) (o.wo (fj q)) = cv at *
            have hcv : cv < 0 := of_decide_eq_true hdec
            clear hw hlt hlate hnlate hix hq
            go_wp2_with fail
            go_quiet (refine Calls.quiet_of (HCM.out _))
            replace HD := Lib.hid (HD.out.drewN nq)
            replace HK := Lib.hid (HK.out.drewN nq)
            have c1 : (wr.drewN nq).cell? ⟨g, j, none⟩ = _ := c1
            have c0 : (wr.drewN nq).cell? ⟨g, q, none⟩ = _ := c0
            generalize wr.drewN nq = w5 at *
            have HDd := Lib.hid HD.out.drew
            have HKd := Lib.hid HK.out.drew
            have c1 : w5.drew.cell? ⟨g, j, none⟩ = _ := c1
            have c0 : w5.drew.cell? ⟨g, q, none⟩ = _ := c0
            clear HCM hdec hcv
            go_upto_region 6 with fail
            refine wp_region_seq (by kernel_rfl) (by kernel_rfl) ?_
            generalize w5.drew = w6 at *
            have f1 := HDd.out.frz j
            have f0 := HDd.out.frz q
            have HSW := Lib.hid (HDd.out.swap (i := j) (j := q) (by omega) (by omega))
            have HKS := Lib.hid (Keeps.trans HKd.out (keeps_swap w6 g j q (.pointer (some ⟨fj q, 0, none⟩)) (.pointer (some ⟨fj j, 0, none⟩))) fun _ _ h => h)
            go_wp2_with fail
            refine ⟨by kernel_rfl, ?_⟩
            go_wp2_with fail
            go_roundw
            case rel => exact ⟨q, _, by omega, by omega, by go_num, HSW.out, HN.out, HKS.out⟩
            case measure => (simp [intOf] <;> omega)
          · have hlt : o.lt (fj q) (fj j) := hnlate.1 (fun h => hw (hlate.1 h))
            rw [decide_eq_false hw] at hdec
            have HN : Hid (Turn n a (i + 1) f fj ∧ Up o a (i + 1) fj) := ⟨HS.out.turn, HS.out.stop haj hj (.inr ⟨q, hq, hlt⟩)⟩
            generalize cmpV (o.wo (fj j)) (o.wo (fj q)) = cv at *
            have hcv : ¬ cv < 0 := of_decide_eq_false hdec
            clear hw hlt hlate hnlate hix hq
            go_wp2_with fail
            go_quiet (refine Calls.quiet_of (HCM.out _))
            replace HD := Lib.hid (HD.out.drewN nq)
            replace HK := Lib.hid (HK.out.drewN nq)
            clear HCM c1 c0 hdec
            generalize wr.drewN nq = w5 at *
            go_wp2_with fail
            go_roundw
            case rel => exact ⟨i + 1, fj, by omega, by omega, by go_num, HD.out, fun _ => HN.out, fun h => by omega, HK.out⟩
            case measure => simp [intOf]; omega
        · have HN : Hid (Turn n a (i + 1) f fj ∧ Up o a (i + 1) fj) := ⟨HS.out.turn, HS.out.stop haj hj (.inl (by omega))⟩
          have hja1 : decide ((a : Int) < (j : Int)) = false := decide_eq_false (by omega)
          have hja2 : decide (a < j) = false := decide_eq_false hja
          go_wp2_with fail
          go_quiet (fail)
          go_wp2_with fail
          have HDn := Lib.hid (HD.out.drewN nq)
          have HKn := Lib.hid (HK.out.drewN nq)
          go_roundw
          case rel => exact ⟨i + 1, fj, by omega, by omega, by go_num, HDn.out, fun _ => HN.out, fun h => by omega, HKn.out⟩
          case measure => simp [intOf]; omega
    · have HN : Hid (Turn n a b f fk ∧ Up o a b fk) := by
        show _ ∧ _
        by_cases h9 : i = b
        · subst h9; exact HT.out (Nat.le_refl _)
        · obtain ⟨e1, e2⟩ := HE.out (by omega)
          subst e1 e2
          exact ⟨Turn.refl _ _ _ _, fun p q h1 h2 h3 => by omega⟩
      go_wp2_with fail
      go_end0
      exact ⟨rfl, fk, HD.out, HN.out.1, HN.out.2, HK.out⟩
end Go.Proofs.Ytfegjdabjdahgaa
