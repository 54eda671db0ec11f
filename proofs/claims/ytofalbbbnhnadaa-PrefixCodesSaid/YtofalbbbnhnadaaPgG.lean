/- Prefix: the document's Get. -/
import Derived.Test.YtofalbbbnhnadaaPgP
import Derived.Test.YtofalbbbnhnadaaPfQ

namespace Go.Proofs.Ytofalbbbnhnadaa
open Go.RowKit
set_option linter.unusedVariables false
set_option linter.unusedSimpArgs false

/-- What was seen of the words ahead of i. -/
def Seen (ws : List (Nat × Nat)) (n v i : Nat) (b : Bool) : Prop := (∀ (j : Nat) (p : Nat × Nat), j < i → ws[j]? = some p → ¬ hitI n v p) ∧ (b = true ↔ ∃ (j : Nat) (p : Nat × Nat), j < i ∧ ws[j]? = some p ∧ begI n v p)
theorem Seen.zero (ws : List (Nat × Nat)) (n v : Nat) : Seen ws n v 0 false := ⟨fun j p h => by omega, by simp⟩
theorem Seen.step {ws : List (Nat × Nat)} {n v i : Nat} {b : Bool} (h : Seen ws n v i b) {p : Nat × Nat} (hp : ws[i]? = some p) (hn : ¬ hitI n v p) : (¬ begI n v p → Seen ws n v (i + 1) b) ∧ (begI n v p → Seen ws n v (i + 1) true) := by
  have h1 : ∀ (j : Nat) (q : Nat × Nat), j < i + 1 → ws[j]? = some q → ¬ hitI n v q := fun j q hj hq => by
    by_cases h9 : j = i
    · subst h9; rw [hp] at hq; injection hq with hq; subst hq; exact hn
    · exact h.1 j q (by omega) hq
  refine ⟨fun hb => ⟨h1, ?_⟩, fun hb => ⟨h1, ⟨fun _ => ⟨i, p, by omega, hp, hb⟩, fun _ => rfl⟩⟩⟩
  rw [h.2]
  constructor
  · rintro ⟨j, q, hj, hq, hg⟩
    exact ⟨j, q, by omega, hq, hg⟩
  · rintro ⟨j, q, hj, hq, hg⟩
    by_cases h9 : j = i
    · subst h9; rw [hp] at hq; injection hq with hq; subst hq; exact absurd hg hb
    · exact ⟨j, q, by omega, hq, hg⟩
theorem Seen.all {ws : List (Nat × Nat)} {n v i : Nat} {b : Bool} (h : Seen ws n v i b) (hl : ws.length = i) : (∀ (j : Nat) (p : Nat × Nat), ws[j]? = some p → ¬ hitI n v p) ∧ (b = false → ∀ (j : Nat) (p : Nat × Nat), ws[j]? = some p → ¬ begI n v p) ∧ (b = true → ∃ (j : Nat) (p : Nat × Nat), ws[j]? = some p ∧ begI n v p) := by
  have hlt : ∀ (j : Nat) (p : Nat × Nat), ws[j]? = some p → j < i := fun j p hp => by
    rcases Nat.lt_or_ge j i with h9 | h9
    · exact h9
    · rw [List.getElem?_eq_none (by omega)] at hp; cases hp
  refine ⟨fun j p hp => h.1 j p (hlt j p hp) hp, fun hb j p hp hg => ?_, fun hb => ?_⟩
  · have := h.2.2 ⟨j, p, hlt j p hp, hp, hg⟩
    rw [hb] at this; cases this
  · obtain ⟨j, p, _, hp, hg⟩ := h.2.1 hb
    exact ⟨j, p, hp, hg⟩
set_option maxRecDepth 8000 in
set_option maxHeartbeats 8000000 in
theorem rGet_is (w : World) (gw m : Nat) (ws : List (Nat × Nat)) (h : RefW w gw m ws) (hm65 : m ≤ 65536) (A : Option Addr) (n c : Nat) (L : List Int) (hL : Nums .i64 w A n c L) (hnb : n ≤ 100000000000000) (v : Nat → Nat) (s er t : Nat) (R : RoadG ws v n s er t)
    (hv0 : v 0 = 0) (hvs : ∀ j, j < n → ∃ b : Nat, b ≤ 1 ∧ L.getD j 0 = (b : Nat) ∧ v (j + 1) = 2 * v j + b) (hvb : ∀ j, j ≤ 20 → v j < 1048576) :
    Calls Try.prog 26 #[.slice (some ⟨gw, 0, none⟩) m m, .slice A n c] w fun e w' => e = .returned (.tuple #[.int .i64 s, .int .i64 t, .int .i64 er]) ∧ Grow w w' := by
  obtain ⟨hwd, hwl⟩ := h
  have HWD := Lib.hid hwd
  have HL := Lib.hid hL
  have HWL := Lib.hid hwl
  have HR := Lib.hid R
  have HV := Lib.hid (And.intro hv0 (And.intro hvs hvb))
  have hmi : (m : Int) ≤ 65536 := by omega
  have hni : (n : Int) ≤ 100000000000000 := by omega
  obtain ⟨POST, hPOST⟩ : ∃ POST : Ending → World → Prop, POST = fun e w' => e = .returned (.tuple #[.int .i64 s, .int .i64 t, .int .i64 er]) ∧ Grow w w' := ⟨_, rfl⟩
  have HPO : Hid (∀ (s' t' er' : Nat) (w' : World), s = s' ∧ er = er' ∧ t = t' → Grow w w' → POST (.returned (.tuple #[.int .i64 (s' : Nat), .int .i64 (t' : Nat), .int .i64 (er' : Nat)])) w') := by
    rintro s' t' er' w' ⟨rfl, rfl, rfl⟩ hg
    rw [hPOST]
    exact ⟨rfl, hg⟩
  show Calls _ _ _ _ fun e w' => (fun e w' => e = .returned (.tuple #[.int .i64 s, .int .i64 t, .int .i64 er]) ∧ Grow w w') e w'
  rw [← hPOST]
  clear hwd hL hwl R hv0 hvs hvb hPOST hm65 hnb
  go_enter Try.func26, Try.ntmps26
  go_wp2_with fail
  go_loopw [7, 8, 9, 10] (fun vv vn _ _ wr => ∃ (k : Nat), k ≤ t ∧ vv = .int .u32 (v k : Nat) ∧ vn = .int .i64 k ∧ Hid (Grow w wr)) (fun _ vn _ _ _ => 21 - (intOf vn).toNat)
  case atStart => exact ⟨0, by omega, by rw [HV.out.1]; rfl, rfl, Keeps.refl _ _⟩
  case round =>
    obtain ⟨k, hkt, rfl, rfl, HG⟩ := hrel
    have hk20 : k ≤ 20 := Nat.le_trans hkt HR.out.t20
    have hvk := HV.out.2.2 k hk20
    obtain ⟨V, hV⟩ : ∃ V, V = v k := ⟨_, rfl⟩
    rw [← hV] at hvk ⊢
    have hVi : (V : Int) < 1048576 := by omega
    have hki : (k : Int) ≤ 20 := by omega
    have HKT := Lib.hid (And.intro hkt (And.intro hk20 (And.intro hV trivial)))
    clear hkt hk20 hvk hV
    go_wp2_with fail
    go_loopw [9, 10] (fun vb vi wr => ∃ (i : Nat) (b : Bool), i ≤ m ∧ vb = .bool b ∧ vi = .int .i64 i ∧ Hid (Seen ws k V i b) ∧ Hid (Grow w wr)) (fun _ vi _ => m - (intOf vi).toNat)
    case atStart => exact ⟨0, false, by omega, rfl, rfl, Seen.zero _ _ _, HG.out⟩
    case round =>
      clear HG
      obtain ⟨i, b, hi, rfl, rfl, HS, HG⟩ := hrel
      by_cases hin : i < m
      · obtain ⟨pr, hpr⟩ : ∃ pr, ws[i]? = some pr := ⟨ws[i]'(by rw [HWL.out]; omega), List.getElem?_eq_getElem _⟩
        obtain ⟨z0, z1⟩ := (HWD.out.keep HG.out (fun h => h)).cell0 i pr hpr
        have hsm := HR.out.small i pr hpr
        have HPR := Lib.hid hpr
        obtain ⟨x, l⟩ := pr
        simp only at z0 z1 hsm
        have hini : (i : Int) < (m : Int) := by omega
        have hxi : (x : Int) < 1048576 := by omega
        have hli : (l : Int) ≤ 20 := by omega
        have HSM := Lib.hid hsm
        have HSM0 := Lib.hid hsm
        clear hpr hsm
        by_cases hhit : hitI k V (x, l)
        · obtain ⟨h1, h2, h3⟩ := hhit
          simp only at h2 h3
          subst h2 h3
          have h0i : (0 : Int) < (l : Int) := by omega
          have HRES := Lib.hid (HR.out.hit l i (x, l) HKT.out.1 HPR.out ⟨h1, rfl, HKT.out.2.2.1⟩)
          go_upto_region 8 with fail
          have hd0 : decide ((0 : Int) < (l : Int)) = true := decide_eq_true h0i
          have hd1 : decide (0 < l) = true := decide_eq_true (by omega)
          clear hni hmi hVi hki hli hxi HSM hi
          go_wp2_with fail
          go_ret3
          exact HPO.out i l 0 wr ⟨HRES.out.1, HRES.out.2.1, HRES.out.2.2⟩ HG.out
        · have HST := Lib.hid (HS.out.step HPR.out hhit)
          have HNH : Hid (k = 0 ∨ (0 < k ∧ (¬ l = k ∨ (l = k ∧ ¬ x = V)))) := by
            show _ ∨ _
            by_cases h1 : k = 0
            · exact .inl h1
            · refine .inr ⟨by omega, ?_⟩
              by_cases h2 : l = k
              · exact .inr ⟨h2, fun h3 => hhit ⟨by omega, h2, h3⟩⟩
              · exact .inl h2
          clear hhit
          have HB : Hid (begI k V (x, l) ↔ k < l ∧ x / 2 ^ (l - k) = V) := Iff.rfl
          have hkd : ∀ z : Bool, decide (k < l) = z → decide ((k : Int) < (l : Int)) = z := fun z hz => by rw [← hz]; exact decide_eq_decide.2 (by omega)
          have HKD := Lib.hid hkd
          have HI := Lib.hid hi
          clear hi hkd
          rcases HNH.out with h1 | ⟨h1, h2 | ⟨h2, h3⟩⟩
          · have hd0 : decide ((0 : Int) < (k : Int)) = false := decide_eq_false (by omega)
            have hd1 : decide (0 < k) = false := decide_eq_false (by omega)
            have HX1 := Lib.hid (And.intro h1 trivial)
            clear h1 hni hVi hki hli hxi HSM
            go_upto_region 10 with fail
            cases hkl : decide (k < l)
            · have hkle := HKD.out _ hkl
              have HS2 := Lib.hid (HST.out.1 (fun h9 => of_decide_eq_false hkl (HB.out.1 h9).1))
              go_wp2_with fail
              go_quiet (fail)
              go_wp2_with fail
              go_roundw
              case rel => exact ⟨i + 1, b, by have := HI.out; omega, rfl, by go_num, HS2.out, HG.out.drewN _⟩
              case measure => simp [intOf]; omega
            · have hkle := HKD.out _ hkl
              have hkl3 : k < l := of_decide_eq_true hkl
              obtain ⟨d, hd⟩ : ∃ d, d = l - k := ⟨_, rfl⟩
              have hdi : (l : Int) - (k : Int) = (d : Int) := by omega
              have hl20 := HSM0.out.2
              have hd64 : d < 64 := by omega
              have hdp : (d : Int) ≤ 20 := by omega
              obtain ⟨z, hz⟩ : ∃ z, z = x / 2 ^ d := ⟨_, rfl⟩
              have ez : (x : Int) / 2 ^ d = (z : Int) := by rw [powI4, ← Int.natCast_ediv, hz]
              have hzx : z ≤ x := by rw [hz]; exact Nat.div_le_self _ _
              have hzi : (z : Int) < 1048576 := by have := HSM0.out.1; omega
              rw [← hd, ← hz] at HB
              have HZ := Lib.hid hkl3
              clear hd hz hkl3 hl20 hzx
              by_cases hzV : z = V
              · subst hzV
                have HS2 := Lib.hid (HST.out.2 (HB.out.2 ⟨HZ.out, rfl⟩))
                go_wp2_with fail
                go_quiet (fail)
                go_wp2_with fail
                go_roundw
                case rel => exact ⟨i + 1, true, by have := HI.out; omega, rfl, by go_num, HS2.out, HG.out.drewN _⟩
                case measure => simp [intOf]; omega
              · have hzb : ((z : Int) == (V : Int)) = false := by rw [beq_eq_false_iff_ne]; omega
                have HS2 := Lib.hid (HST.out.1 (fun h9 => hzV (HB.out.1 h9).2))
                clear hzV
                go_wp2_with fail
                go_quiet (fail)
                go_wp2_with fail
                go_roundw
                case rel => exact ⟨i + 1, b, by have := HI.out; omega, rfl, by go_num, HS2.out, HG.out.drewN _⟩
                case measure => simp [intOf]; omega
          · have hd0 : decide ((0 : Int) < (k : Int)) = true := decide_eq_true (by omega)
            have hd1 : decide (0 < k) = true := decide_eq_true (by omega)
            have hd2 : ((l : Int) == (k : Int)) = false := by rw [beq_eq_false_iff_ne]; omega
            have HX1 := Lib.hid (And.intro h1 trivial)
            clear h1 h2 hni hVi hki hli hxi HSM
            go_upto_region 10 with fail
            cases hkl : decide (k < l)
            · have hkle := HKD.out _ hkl
              have HS2 := Lib.hid (HST.out.1 (fun h9 => of_decide_eq_false hkl (HB.out.1 h9).1))
              go_wp2_with fail
              go_quiet (fail)
              go_wp2_with fail
              go_roundw
              case rel => exact ⟨i + 1, b, by have := HI.out; omega, rfl, by go_num, HS2.out, HG.out.drewN _⟩
              case measure => simp [intOf]; omega
            · have hkle := HKD.out _ hkl
              have hkl3 : k < l := of_decide_eq_true hkl
              obtain ⟨d, hd⟩ : ∃ d, d = l - k := ⟨_, rfl⟩
              have hdi : (l : Int) - (k : Int) = (d : Int) := by omega
              have hl20 := HSM0.out.2
              have hd64 : d < 64 := by omega
              have hdp : (d : Int) ≤ 20 := by omega
              obtain ⟨z, hz⟩ : ∃ z, z = x / 2 ^ d := ⟨_, rfl⟩
              have ez : (x : Int) / 2 ^ d = (z : Int) := by rw [powI4, ← Int.natCast_ediv, hz]
              have hzx : z ≤ x := by rw [hz]; exact Nat.div_le_self _ _
              have hzi : (z : Int) < 1048576 := by have := HSM0.out.1; omega
              rw [← hd, ← hz] at HB
              have HZ := Lib.hid hkl3
              clear hd hz hkl3 hl20 hzx
              by_cases hzV : z = V
              · subst hzV
                have HS2 := Lib.hid (HST.out.2 (HB.out.2 ⟨HZ.out, rfl⟩))
                go_wp2_with fail
                go_quiet (fail)
                go_wp2_with fail
                go_roundw
                case rel => exact ⟨i + 1, true, by have := HI.out; omega, rfl, by go_num, HS2.out, HG.out.drewN _⟩
                case measure => simp [intOf]; omega
              · have hzb : ((z : Int) == (V : Int)) = false := by rw [beq_eq_false_iff_ne]; omega
                have HS2 := Lib.hid (HST.out.1 (fun h9 => hzV (HB.out.1 h9).2))
                clear hzV
                go_wp2_with fail
                go_quiet (fail)
                go_wp2_with fail
                go_roundw
                case rel => exact ⟨i + 1, b, by have := HI.out; omega, rfl, by go_num, HS2.out, HG.out.drewN _⟩
                case measure => simp [intOf]; omega
          · subst h2
            have hd0 : decide ((0 : Int) < (l : Int)) = true := decide_eq_true (by omega)
            have hd1 : decide (0 < l) = true := decide_eq_true (by omega)
            have hd2 : ((x : Int) == (V : Int)) = false := by rw [beq_eq_false_iff_ne]; omega
            have HX1 := Lib.hid (And.intro h1 trivial)
            clear h1 h3 hni hVi hki hli hxi HSM
            go_upto_region 10 with fail
            have hkld := decide_eq_false (show ¬ l < l from Nat.lt_irrefl l)
            have hkle := HKD.out _ hkld
            have HS2 := Lib.hid (HST.out.1 (fun h9 => Nat.lt_irrefl l (HB.out.1 h9).1))
            go_wp2_with fail
            go_quiet (fail)
            go_wp2_with fail
            go_roundw
            case rel => exact ⟨i + 1, b, by omega, rfl, by go_num, HS2.out, HG.out.drewN _⟩
            case measure => simp [intOf]; omega
      · obtain rfl : m = i := by omega
        have HSA := Lib.hid (HS.out.all HWL.out)
        clear hin hi
        have hk0 : (0 : Int) ≤ (k : Int) := by omega
        by_cases hf : b = false ∧ 0 < k
        · have hd0 : decide ((0 : Int) < (k : Int)) = true := decide_eq_true (by omega)
          have hd1 : decide (0 < k) = true := decide_eq_true hf.2
          have HRES := Lib.hid (HR.out.form k HKT.out.1 hf.2 (by rw [← HKT.out.2.2.1]; exact HSA.out.1) (by rw [← HKT.out.2.2.1]; exact HSA.out.2.1 hf.1))
          obtain rfl := hf.1
          clear hf hVi
          go_wp2_with fail
          go_ret3
          exact HPO.out 0 k 11 wr ⟨HRES.out.1, HRES.out.2.1, HRES.out.2.2⟩ HG.out
        · have HOR : Hid (k = 0 ∨ ∃ (j : Nat) (p : Nat × Nat), ws[j]? = some p ∧ begI k (v k) p) := by
            show _ ∨ _
            cases hb : b
            · exact .inl (by rw [hb] at hf; simp at hf; omega)
            · exact .inr (by rw [← HKT.out.2.2.1]; exact HSA.out.2.2 hb)
          by_cases hkn : k = n
          · have HRES := Lib.hid (HR.out.stop k HKT.out.1 hkn (by rw [← HKT.out.2.2.1]; exact HSA.out.1) HOR.out)
            have hkn2 : (n : Int) = (k : Int) := by omega
            obtain ⟨kk, hkk⟩ : ∃ kk, kk = k := ⟨_, rfl⟩
            subst hkn
            cases b
            · obtain rfl : k = 0 := by simp at hf; exact hf
              clear hf hVi hkn2
              go_wp2_with fail
              go_ret3
              exact HPO.out 0 0 10 wr ⟨HRES.out.1, HRES.out.2.1, HRES.out.2.2⟩ HG.out
            · clear hf hVi hkn2
              go_wp2_with fail
              go_ret3
              exact HPO.out 0 k 10 wr ⟨HRES.out.1, HRES.out.2.1, HRES.out.2.2⟩ HG.out
          · have HNX : Hid (k + 1 ≤ t ∧ k + 1 ≤ t) := by
              have h9 := HR.out.next k HKT.out.1 hkn (by rw [← HKT.out.2.2.1]; exact HSA.out.1) HOR.out
              exact ⟨h9, h9⟩
            cases b
            · have hz : k = 0 := by simp at hf; exact hf
              have hd0 : decide ((0 : Int) < (k : Int)) = false := decide_eq_false (by omega)
              have hd1 : decide (0 < k) = false := decide_eq_false (by omega)
              clear hf hz
              obtain ⟨y, hy1, hy2, hy3⟩ := HV.out.2.1 k (by have := HR.out.tlen; have := HNX.out.2; omega)
              obtain ⟨bb, o, rfl, hc⟩ := (HL.out.grow HG.out).at_ (by have := HR.out.tlen; have := HNX.out.2; omega)
              have hcell := hc k (by have := HR.out.tlen; have := HNX.out.2; omega)
              rw [hy2] at hcell
              have hkn3 : (k : Int) < (n : Int) := by have := HR.out.tlen; have := HNX.out.2; omega
              have hknb : ((k : Int) == (n : Int)) = false := by rw [beq_eq_false_iff_ne]; omega
              have hyi : (y : Int) ≤ 1 := by omega
              rw [← HKT.out.2.2.1] at hy3
              have HY3 := Lib.hid hy3
              clear hc hy1 hy2 hy3 hkn
              go_wp2_with fail
              go_roundw
              case rel => exact ⟨k + 1, HNX.out.1, by rw [HY3.out]; go_num, by go_num, HG.out⟩
              case measure => have := HKT.out.2.1; simp [intOf]; omega
            · clear hf
              obtain ⟨y, hy1, hy2, hy3⟩ := HV.out.2.1 k (by have := HR.out.tlen; have := HNX.out.2; omega)
              obtain ⟨bb, o, rfl, hc⟩ := (HL.out.grow HG.out).at_ (by have := HR.out.tlen; have := HNX.out.2; omega)
              have hcell := hc k (by have := HR.out.tlen; have := HNX.out.2; omega)
              rw [hy2] at hcell
              have hkn3 : (k : Int) < (n : Int) := by have := HR.out.tlen; have := HNX.out.2; omega
              have hknb : ((k : Int) == (n : Int)) = false := by rw [beq_eq_false_iff_ne]; omega
              have hyi : (y : Int) ≤ 1 := by omega
              rw [← HKT.out.2.2.1] at hy3
              have HY3 := Lib.hid hy3
              clear hc hy1 hy2 hy3 hkn
              go_wp2_with fail
              go_roundw
              case rel => exact ⟨k + 1, HNX.out.1, by rw [HY3.out]; go_num, by go_num, HG.out⟩
              case measure => have := HKT.out.2.1; simp [intOf]; omega
end Go.Proofs.Ytofalbbbnhnadaa
