/- Pointers sorted: stableCmpFunc, SortStableFunc. -/
import Derived.Test.YtfegjdabjdahgaaStE
namespace Go.Proofs.Ytfegjdabjdahgaa
open Go.RowKit
set_option linter.unusedVariables false
set_option linter.unusedSimpArgs false

/-- Blocks of so many are sorted; what stands in an earlier block came earlier. -/
structure Blk (o : Ord) (S n : Nat) (f : Nat → Nat) : Prop where
  inn : ∀ p q, p < q → q < n → p / S = q / S → o.lt (f p) (f q)
  ext : ∀ p q, p < q → q < n → p / S ≠ q / S → o.ix (f p) < o.ix (f q)
/-- Below A blocks of S, from A on blocks of s. -/
structure Mix (o : Ord) (S s A n : Nat) (f : Nat → Nat) : Prop where
  p1 : ∀ p q, p < q → q < n → q < A → p / S = q / S → o.lt (f p) (f q)
  p2 : ∀ p q, p < q → q < n → A ≤ p → p / s = q / s → o.lt (f p) (f q)
  p3 : ∀ p q, p < q → q < n → p / S ≠ q / S → o.ix (f p) < o.ix (f q)
  p4 : ∀ p q, p < q → q < n → A ≤ p → p / s ≠ q / s → o.ix (f p) < o.ix (f q)
theorem div_in {S k p : Nat} (h1 : S * k ≤ p) (h2 : p < S * k + S) : p / S = k := Nat.div_eq_of_lt_le (by rw [Nat.mul_comm]; exact h1) (by rw [Nat.mul_comm, Nat.mul_succ]; exact h2)
theorem div_lo {S k p : Nat} (hS : 0 < S) (h1 : p < S * k) : p / S ≠ k := by
  have := (Nat.div_lt_iff_lt_mul hS).2 (show p < k * S by rw [Nat.mul_comm]; exact h1)
  omega
theorem div_hi {S k p : Nat} (hS : 0 < S) (h1 : S * k + S ≤ p) : p / S ≠ k := by
  have := (Nat.le_div_iff_mul_le hS).2 (show (k + 1) * S ≤ p by rw [Nat.mul_comm, Nat.mul_succ]; exact h1)
  omega
theorem Mix.step {o : Ord} {S s a b n k : Nat} {f f' : Nat → Nat} (h : Mix o S s a n f) (hS : 0 < S) (ha : a = S * k) (hb : (b = a + S ∧ b ≤ n) ∨ (b = n ∧ n ≤ a + S)) (ht : Turn n a b f f') (hu : Up o a b f') : Mix o S s (a + S) n f' := by
  have hin : ∀ p, a ≤ p → p < b → p / S = k := fun p h1 h2 => div_in (by omega) (by omega)
  refine ⟨fun p q h1 h2 h3 h4 => ?_, fun p q h1 h2 h3 h4 => ?_, fun p q h1 h2 h3 => ?_, fun p q h1 h2 h3 h4 => ?_⟩
  · by_cases c : q < a
    · rw [ht.loc.out p (.inl (by omega)), ht.loc.out q (.inl c)]; exact h.p1 p q h1 h2 c h4
    · have hq := hin q (by omega) (by omega)
      have hp : a ≤ p := by
        rcases Nat.lt_or_ge p a with h9 | h9
        · have := div_lo hS (show p < S * k by omega); omega
        · exact h9
      exact hu p q hp h1 (by omega)
  · rw [ht.loc.out p (.inr (by omega)), ht.loc.out q (.inr (by omega))]; exact h.p2 p q h1 h2 (by omega) h4
  · by_cases cp : a ≤ p ∧ p < b
    · by_cases cq : q < b
      · have := hin p cp.1 cp.2; have := hin q (by omega) cq; omega
      · obtain ⟨r, r1, r2, e⟩ := ht.loc.in_ p cp.1 cp.2
        rw [e, ht.loc.out q (.inr (by omega))]
        exact h.p3 r q (by omega) h2 (by rw [hin r r1 r2, ← hin p cp.1 cp.2]; exact h3)
    · by_cases cq : a ≤ q ∧ q < b
      · obtain ⟨r, r1, r2, e⟩ := ht.loc.in_ q cq.1 cq.2
        rw [e, ht.loc.out p (by omega)]
        exact h.p3 p r (by omega) (by omega) (by rw [hin r r1 r2, ← hin q cq.1 cq.2]; exact h3)
      · rw [ht.loc.out p (by omega), ht.loc.out q (by omega)]; exact h.p3 p q h1 h2 h3
  · rw [ht.loc.out p (.inr (by omega)), ht.loc.out q (.inr (by omega))]; exact h.p4 p q h1 h2 (by omega) h4
theorem Mix.done {o : Ord} {S s A n : Nat} {f : Nat → Nat} (h : Mix o S s A n f) (hA : n ≤ A) : Blk o S n f := ⟨fun p q h1 h2 h3 => h.p1 p q h1 h2 (by omega) h3, h.p3⟩
theorem Blk.start {o : Ord} {s n : Nat} {f : Nat → Nat} (h : Blk o s n f) (k : Nat) : Mix o (s * k) s 0 n f :=
  ⟨fun p q _ _ h3 => by omega, fun p q h1 h2 _ h4 => h.inn p q h1 h2 h4, fun p q h1 h2 h3 => h.ext p q h1 h2 fun e => h3 (by rw [← Nat.div_div_eq_div_mul, ← Nat.div_div_eq_div_mul, e]), fun p q h1 h2 _ h4 => h.ext p q h1 h2 h4⟩
theorem Blk.one {o : Ord} {n : Nat} {f : Nat → Nat} (h : ∀ p q, p < q → q < n → o.ix (f p) < o.ix (f q)) : Blk o 1 n f := ⟨fun p q h1 _ h3 => by rw [Nat.div_one, Nat.div_one] at h3; omega, fun p q h1 h2 _ => h p q h1 h2⟩
theorem Blk.all {o : Ord} {s n : Nat} {f : Nat → Nat} (h : Blk o s n f) (hs : n ≤ s) : Up o 0 n f := fun p q _ h1 h2 => h.inn p q h1 h2 (by rw [Nat.div_eq_of_lt (by omega), Nat.div_eq_of_lt (by omega)])
/-- What symMerge wants of two blocks. -/
theorem Mix.pre {o : Ord} {s a b n k : Nat} {f : Nat → Nat} (h : Mix o (s * 2) s a n f) (hs : 0 < s) (ha : a = s * 2 * k) (hb : b ≤ a + s * 2) (hbn : b ≤ n) (hm : a + s < b) : Up o a (a + s) f ∧ Up o (a + s) b f ∧ Ahead o a (a + s) b f := by
  have e : a = s * (2 * k) := by rw [ha, Nat.mul_assoc]
  have d1 : ∀ p, a ≤ p → p < a + s → p / s = 2 * k := fun p h1 h2 => div_in (by omega) (by omega)
  have e2 : a + s = s * (2 * k + 1) := by rw [Nat.mul_succ, ← e]
  have d2 : ∀ p, a + s ≤ p → p < b → p / s = 2 * k + 1 := fun p h1 h2 => div_in (by omega) (by omega)
  refine ⟨fun p q h1 h2 h3 => h.p2 p q h2 (by omega) h1 (by rw [d1 p h1 (by omega), d1 q (by omega) h3]), fun p q h1 h2 h3 => h.p2 p q h2 (by omega) (by omega) (by rw [d2 p h1 (by omega), d2 q (by omega) h3]), fun p q h1 h2 h3 h4 => h.p4 p q (by omega) (by omega) h1 (by rw [d1 p h1 h2, d2 q h3 h4]; omega)⟩
/-- One block alone is sorted. -/
theorem Mix.lone {o : Ord} {s a n k : Nat} {f : Nat → Nat} (h : Mix o (s * 2) s a n f) (ha : a = s * 2 * k) (hn : n ≤ a + s) : Up o a n f := fun p q h1 h2 h3 => by
  have e : a = s * (2 * k) := by rw [ha, Nat.mul_assoc]
  exact h.p2 p q h2 h3 h1 (by rw [div_in (S := s) (k := 2 * k) (by omega) (by omega), div_in (S := s) (k := 2 * k) (by omega) (by omega)])
set_option maxRecDepth 8000 in
set_option maxHeartbeats 4000000 in
theorem stable_is (o : Ord) (w : World) (g n cap : Nat) (f : Nat → Nat) (h : RowF o w g cap n f) (hnb : n ≤ 1048576) (hasc : ∀ p q, p < q → q < n → o.ix (f p) < o.ix (f q)) :
    Calls Try.prog 23 #[.slice (some ⟨g, 0, none⟩) n cap, .int .i64 (n : Nat), cmpFn] w fun e w' => e = .returned (.tuple #[]) ∧ ∃ f', RowF o w' g cap n f' ∧ Pm n f f' ∧ Up o 0 n f' ∧ Keeps (fun k => k = g) w w' := by
  have hF : cmpFn = .func (.func 13) #[] #[] := rfl
  have H := Lib.hid h
  have HB := Lib.hid (Blk.one hasc)
  have HI := Lib.hid (fun a b w f => ins_is o w g n cap a b f)
  have HY := Lib.hid (fun a m b w f => sym_is o g n cap (by omega) (b - a) a m b w f (Nat.le_refl _))
  rw [hF] at HI HY ⊢
  have hni : (n : Int) ≤ 1048576 := by omega
  clear h hasc hF
  go_enter Try.func23, Try.ntmps23
  go_wp2_with fail
  go_loopw [7, 8] (fun va vb wr => ∃ (a b k : Nat) (fk : Nat → Nat), a ≤ n ∧ va = .int .i64 (a : Nat) ∧ vb = .int .i64 (b : Nat) ∧ b = a + 20 ∧ Hid (a = 20 * k) ∧ Hid (Mix o 20 1 a n fk) ∧ Hid (Turn n 0 n f fk) ∧ Hid (RowF o wr g cap n fk) ∧ Hid (Keeps (fun k => k = g) w wr)) (fun va _ _ => n - (intOf va).toNat)
  case atStart => exact ⟨0, 20, 0, f, Nat.zero_le _, rfl, rfl, rfl, rfl, HB.out.start 20, Turn.refl _ _ _ _, H.out, Keeps.refl _ _⟩
  case round =>
    clear HB
    obtain ⟨a, b, k, fk, han, rfl, rfl, hba, HA, HM, HT, HD, HK⟩ := hrel
    have HBA := Lib.hid hba
    have hbi : (b : Int) ≤ 1048596 := by omega
    have hbs : (b : Int) + 20 = ((b + 20 : Nat) : Int) := by omega
    have hasc : ∀ p q, a ≤ p → p < q → q < n → o.ix (fk p) < o.ix (fk q) := fun p q h1 h2 h3 => HM.out.p4 p q h2 h3 h1 (by rw [Nat.div_one, Nat.div_one]; omega)
    by_cases hbn : b ≤ n
    · have hbni : (b : Int) ≤ (n : Int) := by omega
      have HIN := Lib.hid (HI.out a b wr fk HD.out (by omega) hbn (by omega) (fun p q h1 h2 h3 => hasc p q h1 h2 (by omega)))
      clear hasc hba
      go_wp2_with fail
      refine HIN.out.mono ?_
      rintro e w2 ⟨rfl, f2, hr, ht, hu, hk⟩
      have X1 := Lib.hid hr
      have X2 := Lib.hid (HM.out.step (by omega) HA.out (.inl ⟨HBA.out, hbn⟩) ht hu)
      rw [← HBA.out] at X2
      have X3 := Lib.hid (HT.out.trans (ht.mono (a' := 0) (b' := n) (by omega) hbn))
      have X4 := Lib.hid (Keeps.trans HK.out hk fun _ _ h => h)
      have X5 : Hid (b = 20 * (k + 1)) := by
        show _ = _
        have h1 := HA.out; have h2 := HBA.out; omega
      have hab : a < b := by have h2 := HBA.out; omega
      obtain ⟨b2, hb2⟩ : ∃ b2, b2 = b + 20 := ⟨_, rfl⟩
      rw [← hb2] at hbs
      have HB2 := Lib.hid hb2
      clear hb2
      clear hr ht hu hk HIN HM HT HD HK HA HBA
      go_wp2_with fail
      go_roundw
      case rel => exact ⟨b, b2, k + 1, f2, hbn, rfl, by go_num, HB2.out, X5.out, X2.out, X3.out, X1.out, X4.out⟩
      case measure => simp [intOf]; omega
    · have hbni : ¬ (b : Int) ≤ (n : Int) := by omega
      have HIN := Lib.hid (HI.out a n wr fk HD.out han (Nat.le_refl _) (by omega) hasc)
      clear hasc hba
      go_wp2_with fail
      refine HIN.out.mono ?_
      rintro e w2 ⟨rfl, f2, hr, ht, hu, hk⟩
      have X1 := Lib.hid hr
      have X2 := Lib.hid ((HM.out.step (by omega) HA.out (.inr ⟨rfl, by have := HBA.out; omega⟩) ht hu).done (by have := HBA.out; omega))
      have X3 := Lib.hid (HT.out.trans (ht.mono (a' := 0) (b' := n) (by omega) (Nat.le_refl _)))
      have X4 := Lib.hid (Keeps.trans HK.out hk fun _ _ h => h)
      clear hr ht hu hk HIN HM HT HD HK HA HBA hbn hbni hbs hbi
      go_wp2_with fail
      go_loopw [6, 7, 8, 9] (fun vs _ _ _ wr => ∃ (s : Nat) (fk : Nat → Nat), 1 ≤ s ∧ s ≤ 2097172 ∧ vs = .int .i64 (s : Nat) ∧ Hid (Blk o s n fk) ∧ Hid (Turn n 0 n f fk) ∧ Hid (RowF o wr g cap n fk) ∧ Hid (Keeps (fun k => k = g) w wr)) (fun vs _ _ _ _ => n - (intOf vs).toNat)
      case atStart => exact ⟨20, f2, by omega, by omega, rfl, X2.out, X3.out, X1.out, X4.out⟩
      case round =>
        clear X1 X2 X3 X4
        obtain ⟨s, fk, hs1, hs2, rfl, HM, HT, HD, HK⟩ := hrel
        by_cases hsn : s < n
        · have hsni : (s : Int) < (n : Int) := by omega
          have hs1i : (1 : Int) ≤ (s : Int) := by omega
          have HMX := Lib.hid (HM.out.start 2)
          obtain ⟨S, hS⟩ : ∃ S, S = s * 2 := ⟨_, rfl⟩
          have hSi : (2 : Int) * (s : Int) = (S : Int) := by omega
          have hSi2 : (s : Int) * 2 = (S : Int) := by omega
          have hS3 : (S : Int) ≤ 2097152 := by omega
          have HS := Lib.hid hS
          have hSs : s < S := by omega
          rw [← hS] at HMX
          clear hS HM
          generalize wr = w3 at *
          go_wp2_with fail
          go_loopw [7, 8] (fun va vb wr => ∃ (a b k : Nat) (fk : Nat → Nat), a ≤ n ∧ va = .int .i64 (a : Nat) ∧ vb = .int .i64 (b : Nat) ∧ b = a + S ∧ Hid (a = s * 2 * k) ∧ Hid (Mix o S s a n fk) ∧ Hid (Turn n 0 n f fk) ∧ Hid (RowF o wr g cap n fk) ∧ Hid (Keeps (fun k => k = g) w wr)) (fun va _ _ => n - (intOf va).toNat)
          case atStart => exact ⟨0, S, 0, fk, Nat.zero_le _, rfl, rfl, by omega, by show _ = _; omega, HMX.out, HT.out, HD.out, HK.out⟩
          case round =>
            clear HMX HT HD HK
            obtain ⟨a, b, k, fk, han, rfl, rfl, hba, HA, HM, HT, HD, HK⟩ := hrel
            have HBA := Lib.hid hba
            have hbi : (b : Int) ≤ 3145728 := by omega
            have hms : (a : Int) + (s : Int) = ((a + s : Nat) : Int) := by omega
            have hbs : (b : Int) + (S : Int) = ((b + S : Nat) : Int) := by omega
            by_cases hbn : b ≤ n
            · have hbni : (b : Int) ≤ (n : Int) := by omega
              have hpre := (HS.out ▸ HM.out : Mix o (s * 2) s a n fk).pre (b := b) (by omega) HA.out (by have := HS.out; omega) hbn (by omega)
              have HIN := Lib.hid (HY.out a (a + s) b wr fk HD.out (by omega) (by omega) hbn hpre.1 hpre.2.1 hpre.2.2)
              obtain ⟨m, hm⟩ : ∃ m, m = a + s := ⟨_, rfl⟩
              rw [← hm] at hms HIN
              clear hba hpre hm
              go_wp2_with fail
              refine HIN.out.mono ?_
              rintro e w2 ⟨rfl, f2, hr, ht, hu, hk⟩
              have X1 := Lib.hid hr
              have X2 := Lib.hid (HM.out.step (k := k) (by omega) (by rw [HS.out]; exact HA.out) (.inl ⟨HBA.out, hbn⟩) ht hu)
              rw [← HBA.out] at X2
              have X3 := Lib.hid (HT.out.trans (ht.mono (a' := 0) (b' := n) (by omega) hbn))
              have X4 := Lib.hid (Keeps.trans HK.out hk fun _ _ h => h)
              have X5 : Hid (b = s * 2 * (k + 1)) := by
                show _ = _
                rw [Nat.mul_succ, ← HA.out, ← HS.out]; exact HBA.out
              have hab : a < b := by have h2 := HBA.out; omega
              obtain ⟨b2, hb2⟩ : ∃ b2, b2 = b + S := ⟨_, rfl⟩
              rw [← hb2] at hbs
              have HB2 := Lib.hid hb2
              clear hb2
              clear hr ht hu hk HIN HM HT HD HK HA HBA
              go_wp2_with fail
              go_roundw
              case rel => exact ⟨b, b2, k + 1, f2, hbn, rfl, by go_num, HB2.out, X5.out, X2.out, X3.out, X1.out, X4.out⟩
              case measure => simp [intOf]; omega
            · have hbni : ¬ (b : Int) ≤ (n : Int) := by omega
              have HMM : Hid (Mix o (s * 2) s a n fk) := by
                show Mix _ _ _ _ _ _
                rw [← HS.out]; exact HM.out
              by_cases hmn : a + s < n
              · have hpre := HMM.out.pre (b := n) (by omega) HA.out (by have := HS.out; omega) (Nat.le_refl _) hmn
                have HIN := Lib.hid (HY.out a (a + s) n wr fk HD.out (by omega) hmn (Nat.le_refl _) hpre.1 hpre.2.1 hpre.2.2)
                obtain ⟨m, hm⟩ : ∃ m, m = a + s := ⟨_, rfl⟩
                rw [← hm] at hms HIN
                have hmni : (m : Int) < (n : Int) := by omega
                clear hba hpre hm
                go_wp2_with fail
                refine HIN.out.mono ?_
                rintro e w2 ⟨rfl, f2, hr, ht, hu, hk⟩
                have X1 := Lib.hid hr
                have X2 := Lib.hid ((HM.out.step (k := k) (by omega) (by rw [HS.out]; exact HA.out) (.inr ⟨rfl, by have := HBA.out; omega⟩) ht hu).done (by have := HBA.out; omega))
                have X3 := Lib.hid (HT.out.trans (ht.mono (a' := 0) (b' := n) (by omega) (Nat.le_refl _)))
                have X4 := Lib.hid (Keeps.trans HK.out hk fun _ _ h => h)
                clear hr ht hu hk HIN HM HT HD HK HA HBA HMM
                go_wp2_with fail
                go_roundw
                case rel => exact ⟨S, f2, by omega, by omega, by go_num, X2.out, X3.out, X1.out, X4.out⟩
                case measure => simp [intOf]; omega
              · have hms2 : ¬ (a : Int) + (s : Int) < (n : Int) := by omega
                have hlone := HMM.out.lone HA.out (by omega)
                have X2 := Lib.hid ((HM.out.step (k := k) (by omega) (by rw [HS.out]; exact HA.out) (.inr ⟨rfl, by have := HBA.out; omega⟩) (Turn.refl n a n fk) hlone).done (by have := HBA.out; omega))
                obtain ⟨m, hm⟩ : ∃ m, m = a + s := ⟨_, rfl⟩
                rw [← hm] at hms
                have hmni : ¬ (m : Int) < (n : Int) := by omega
                clear hba hlone hm hms2
                go_wp2_with fail
                go_roundw
                case rel => exact ⟨S, fk, by omega, by omega, by go_num, X2.out, HT.out, HD.out, HK.out⟩
                case measure => simp [intOf]; omega
        · have hsni : ¬ (s : Int) < (n : Int) := by omega
          have HUP := Lib.hid (HM.out.all (by omega))
          go_wp2_with fail
          go_end0
          exact ⟨rfl, fk, HD.out, HT.out.pm, HUP.out, HK.out⟩
theorem sortStable_is (o : Ord) (w : World) (g n cap : Nat) (f : Nat → Nat) (h : RowF o w g cap n f) (hnb : n ≤ 1048576) (hasc : ∀ p q, p < q → q < n → o.ix (f p) < o.ix (f q)) :
    Calls Try.prog 12 #[.slice (some ⟨g, 0, none⟩) n cap, cmpFn] w fun e w' => e = .returned (.tuple #[]) ∧ ∃ f', RowF o w' g cap n f' ∧ Pm n f f' ∧ Up o 0 n f' ∧ Keeps (fun k => k = g) w w' := by
  have HS := Lib.hid (stable_is o w g n cap f h hnb hasc)
  have hF : cmpFn = .func (.func 13) #[] #[] := rfl
  rw [hF] at HS ⊢
  clear h hasc hF
  have hni : (n : Int) ≤ 1048576 := by omega
  go_enter Try.func12, Try.ntmps12
  go_wp2_with fail
  refine HS.out.mono ?_
  rintro e w2 ⟨rfl, f2, hr⟩
  go_wp2_with fail
  go_end0
  exact ⟨rfl, f2, hr⟩
end Go.Proofs.Ytfegjdabjdahgaa
