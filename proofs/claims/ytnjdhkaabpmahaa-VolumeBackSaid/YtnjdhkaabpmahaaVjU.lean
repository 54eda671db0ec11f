/- volume, the document: Join. -/
import Derived.Test.YtnjdhkaabpmahaaVjT
namespace Go.Proofs.Ytnjdhkaabpmahaa
open Go.RowKit
set_option linter.unusedVariables false
set_option linter.unusedSimpArgs false

/-- A share fits its place. -/
def okAt (S : List (List Int)) (i : Nat) : Prop := S.length = 1 ∨ (0 < (S.getD i []).length ∧ (S.getD i []).length ≤ (S.getD 0 []).length ∧ (i + 1 ≠ S.length → (S.getD i []).length = (S.getD 0 []).length))
theorem cut_all {S : List (List Int)} (hS : 0 < S.length) : cutOK S ↔ ∀ i, i < S.length → okAt S i := by
  unfold cutOK okAt
  constructor
  · rintro (h | ⟨h1, h2, h3, h4⟩) i hi
    · exact .inl h
    · refine .inr ?_
      by_cases hl : i + 1 = S.length
      · have : S.length - 1 = i := by omega
        rw [this] at h3 h4
        exact ⟨h3, h4, fun h => absurd hl h⟩
      · have h5 := h1 i (by omega)
        exact ⟨by omega, by omega, fun _ => h5⟩
  · intro h
    by_cases h1 : S.length = 1
    · exact .inl h1
    · refine .inr ⟨fun i hi => ?_, ?_, ?_, ?_⟩
      · rcases h i (by omega) with h2 | h2
        · exact absurd h2 h1
        · exact h2.2.2 (by omega)
      · rcases h 0 (by omega) with h2 | h2
        · exact absurd h2 h1
        · exact h2.1
      · rcases h (S.length - 1) (by omega) with h2 | h2
        · exact absurd h2 h1
        · exact h2.1
      · rcases h (S.length - 1) (by omega) with h2 | h2
        · exact absurd h2 h1
        · exact h2.2.1
theorem joinP_lack {l : List (List Int)} (hs : scanE l = 0) {k : Nat} (hk : k < cntL l) (hf : hasN l k = false) : joinP l = (31, []) := by
  unfold joinP
  rw [if_neg (by rw [hs]; simp), if_pos ⟨k, hk, hf⟩]
theorem joinP_all {l : List (List Int)} (hs : scanE l = 0) (ha : ∀ k, k < cntL l → hasN l k = true) : joinP l = tellP (l.getD 0 []) ((List.range (cntL l)).map (shareN l)) := by
  unfold joinP
  rw [if_neg (by rw [hs]; simp), if_neg]
  rintro ⟨k, hk, hf⟩
  rw [ha k hk] at hf
  cases hf
theorem shares_le {l : List (List Int)} (hs : scanE l = 0) (ha : ∀ k, k < cntL l → hasN l k = true) : (((List.range (cntL l)).map (shareN l)).flatten).length ≤ (l.map List.length).sum := by
  have G := good_of hs
  obtain ⟨l', ho⟩ := ordered_ex G
  have hc : l.length = cntL l := by
    refine Nat.le_antisymm (ho.le G) (Nat.le_of_not_lt fun h => ?_)
    obtain ⟨k, hk, hf⟩ := (ho.lacks G).2 h
    rw [ha k hk] at hf
    cases hf
  rw [← ho.shares G hc]
  have h1 := flat_le l'
  rw [perm_sum (ho.perm.map List.length)] at h1
  exact h1
theorem part_le : ∀ (S : List (List Int)) (i : Nat), (S.getD i []).length ≤ S.flatten.length
  | [], i => by simp
  | y :: S, 0 => by simp
  | y :: S, i + 1 => by
    have := part_le S i
    rw [List.flatten_cons, List.length_append, List.getD_cons_succ]
    omega
set_option maxRecDepth 8000 in
set_option maxHeartbeats 4000000 in
theorem rjoin_v (w : World) (A : Option Addr) (n c : Nat) (l : List (List Int)) (h : RowsR w A n c l) :
    Calls Try.prog 8 #[.slice A n c] w fun e w' => JoinPost w l e w' := by
  obtain ⟨POST, hPOST⟩ : ∃ POST : Ending → World → Prop, POST = fun e w' => JoinPost w l e w' := ⟨_, rfl⟩
  have HPO := Lib.hid hPOST
  show Calls _ _ _ _ fun x w' => (fun x w' => JoinPost w l x w') x w'
  rw [← hPOST]
  have HP := Lib.hid (shares_is w A n c l h)
  have HN := Lib.hid h
  have HBAD : Hid (∀ (err : Nat) (w' : World), joinP l = (err, []) → Grow w w' → POST (.returned (.tuple #[.slice none 0 0, .int .i64 (err : Nat)])) w') := fun err w' h1 h2 => by
    rw [HPO.out]
    exact ⟨none, 0, 0, by rw [h1], by rw [h1]; rfl, by rw [h1]; exact own_nil _ _ _, h2⟩
  clear h hPOST
  go_enter Try.func8, Try.ntmps8
  go_wp2_with fail
  refine HP.out.mono ?_
  rintro x w1 ⟨hg1, hbad, hgood⟩
  have HK1 := Lib.hid hg1
  by_cases hs : scanE l = 0
  rotate_left
  · have he := hbad hs
    subst he
    obtain ⟨E, hE⟩ : ∃ E, E = scanE l := ⟨_, rfl⟩
    have e1 : ((scanE l : Int) == 0) = false := by simp; omega
    rw [← hE] at e1 ⊢
    have e2 : ¬ (E : Int) = 0 := by rw [hE]; omega
    have e3 : ((E : Int) != 0) = true := by simp; omega
    have HE := Lib.hid (And.intro hE hs)
    clear hE hs hbad hgood hg1
    go_wp2_with fail
    show POST (.returned (.tuple #[.slice none 0 0, .int .i64 (E : Nat)])) _
    exact HBAD.out E _ (by rw [joinP_bad HE.out.2, HE.out.1]) (HK1.out.alloc _)
  · obtain ⟨go, gt, nu, G, rfl, hO, hT, hall⟩ := hgood hs
    have hz0 := (readE_zero ((good_of hs).each 0 (List.length_pos_iff.2 (good_of hs).ne)).1)
    have hCb : cntL l ≤ 1024 := hz0.2.2.2.1
    have hC1 : 1 ≤ cntL l := hz0.2.2.1
    have hAb : allB (l.getD 0 []) ≤ 268435456 := hz0.2.2.2.2.2
    obtain ⟨C, hC⟩ : ∃ C, C = cntL l := ⟨_, rfl⟩
    obtain ⟨al, hal⟩ : ∃ al, al = allB (l.getD 0 []) := ⟨_, rfl⟩
    obtain ⟨su, hsu⟩ : ∃ su, su = sumB (l.getD 0 []) := ⟨_, rfl⟩
    have hSub : su < 4294967296 := by
      have h1 := HN.out.at_ (by have := HN.out.len; have := List.length_pos_iff.2 (good_of hs).ne; omega)
      obtain ⟨_, _, _, hc⟩ := h1
      obtain ⟨_, _, _, hn⟩ := hc 0 (by have := HN.out.len; have := List.length_pos_iff.2 (good_of hs).ne; omega)
      have := leV_sub hn.rng 16 4 (by have := hz0.1; omega)
      rw [hsu]
      unfold sumB
      simpa using this
    rw [← hC, ← hal, ← hsu]
    rw [← hC] at hCb hC1 hO hT
    rw [← hal] at hAb
    have hk2 := (Keeps.refl (fun _ => False) w1).alloc (.cells #[.int .i64 (nu : Nat), .int .i64 (C : Nat), .int .u64 (al : Nat), .int .u64 (su : Nat)] 56)
    have hb2 := heap_alloc_new w1 (.cells #[.int .i64 (nu : Nat), .int .i64 (C : Nat), .int .u64 (al : Nat), .int .u64 (su : Nat)] 56)
    obtain ⟨gh, hgh⟩ : ∃ gh, gh = w1.heap.size := ⟨_, rfl⟩
    rw [← hgh] at hb2
    have HV := Lib.hid (And.intro hC (And.intro hal (And.intro hsu hs)))
    have HALL := Lib.hid hall
    have hCi : (C : Int) ≤ 1024 := by omega
    have hCi1 : (1 : Int) ≤ (C : Int) := by omega
    have hAi : (al : Int) ≤ 268435456 := by omega
    have hSi : (su : Int) < 4294967296 := by omega
    have HC1 := Lib.hid hC1
    clear hbad hgood hg1 hs hC hal hsu hz0 hall hC1 hCb hAb hSub
    go_upto_region 2 with fail
    rw [← hgh]
    clear hgh
    generalize w1.alloc (.cells #[.int .i64 (nu : Nat), .int .i64 (C : Nat), .int .u64 (al : Nat), .int .u64 (su : Nat)] 56) = w2 at *
    have HO := Lib.hid (hO.keep hk2 (fun h => h))
    have HT := Lib.hid (hT.keep hk2 (fun h => h))
    have HB := Lib.hid hb2
    have HK2 : Hid (Grow w w2) := Grow.trans _ _ _ HK1.out hk2
    have HK12 := Lib.hid hk2
    clear hO hT hk2 hb2
    go_wp2_with fail
    go_loopw [8] (fun vi wr => ∃ (k : Nat), k ≤ C ∧ vi = .int .i64 (k : Nat) ∧ w2 = wr ∧ Hid (∀ j, j < k → hasN l j = true)) (fun vi _ => C - (intOf vi).toNat)
    case atStart => exact ⟨0, Nat.zero_le _, rfl, rfl, fun j hj => absurd hj (Nat.not_lt_zero _)⟩
    case round =>
      obtain ⟨k, hk, rfl, rfl, HA⟩ := hrel
      by_cases hkC : k < C
      · have hkC' : (k : Int) < (C : Int) := by omega
        have hcx := (HT.out.cell hkC).1
        obtain ⟨hb, hhb⟩ : ∃ hb, hb = hasN l k := ⟨_, rfl⟩
        rw [← hhb] at hcx
        have HHB := Lib.hid hhb
        clear hhb
        cases hb
        · go_wp2_with fail
          show POST (.returned (.tuple #[.slice none 0 0, .int .i64 ((31 : Nat) : Int)])) _
          exact HBAD.out 31 _ (joinP_lack HV.out.2.2.2 (k := k) (by rw [← HV.out.1]; exact hkC) HHB.out.symm) HK2.out
        · go_wp2_with fail
          go_roundw
          case rel => exact ⟨k + 1, by omega, by go_num, by trivial, fun j hj => by
            rcases Nat.lt_succ_iff_lt_or_eq.1 hj with h | h
            · exact HA.out j h
            · subst h; exact HHB.out.symm⟩
          case measure => simp [intOf]; omega
      · obtain rfl : k = C := by omega
        have hJ := joinP_all HV.out.2.2.2 (fun j hj => HA.out j (by rw [HV.out.1]; exact hj))
        have hsl := shares_le HV.out.2.2.2 (fun j hj => HA.out j (by rw [HV.out.1]; exact hj))
        obtain ⟨S, hS⟩ : ∃ S, S = (List.range (cntL l)).map (shareN l) := ⟨_, rfl⟩
        rw [← hS] at hJ hsl
        have hSb : S.flatten.length ≤ 4194304 := by have := HN.out.tot; omega
        have hSl : S.length = k := by rw [hS, List.length_map, List.length_range, HV.out.1]
        have hSC : ∀ i, i < k → ∃ A' c', G i = .slice A' (S.getD i []).length c' ∧ Nums .u8 w2 A' (S.getD i []).length c' (S.getD i []) := fun i hi => by
          obtain ⟨j, hj, e⟩ := hasN_iff.1 (HA.out i hi)
          obtain ⟨A9, c9, q1, q2⟩ := HALL.out j (by have := HN.out.len; omega)
          have h9 := shareN_at (good_of HV.out.2.2.2) hj
          have h8 : S.getD i [] = (l.getD j []).drop 24 := by
            rw [hS, List.getD_eq_getElem?_getD, List.getElem?_map, List.getElem?_range (by rw [← HV.out.1]; exact hi)]
            show shareN l i = _
            rw [← h9, e]
          rw [e] at q1
          rw [h8, List.length_drop]
          exact ⟨A9, c9, q1, q2.grow HK12.out⟩
        have HJ := Lib.hid hJ
        have HS := Lib.hid (And.intro hSb (And.intro hSl hSC))
        clear hJ hsl hS hSb hSl hSC HALL HA
        go_wp2_with fail
        go_loopw [9, 10, 11] (fun vo vi _ wr => ∃ (i m : Nat) (A2 : Option Addr) (c2 : Nat), i ≤ k ∧ vi = .int .i64 (i : Nat) ∧ m ≤ 4194304 ∧ m = (S.take i).flatten.length ∧ vo = .slice A2 m c2 ∧ Hid (wr.ownsRow w2.heap.size 5 1 (.slice A2 m c2) m ((S.take i).flatten.map (Value.int .u8))) ∧ Hid (Grow w2 wr) ∧ Hid (∀ j, j < i → okAt S j)) (fun _ vi _ _ => k - (intOf vi).toNat)
        case atStart => exact ⟨0, 0, none, 0, Nat.zero_le _, rfl, Nat.zero_le _, rfl, rfl, own_nil _ _ _, Keeps.refl _ _, fun j hj => absurd hj (Nat.not_lt_zero _)⟩
        case round =>
          obtain ⟨i, m, A2, c2, hi, rfl, hm, hml, rfl, HR, HG, HOK⟩ := hrel
          have HML := Lib.hid hml
          clear hml
          by_cases hin : i < k
          · have hin' : (i : Int) < (k : Int) := by omega
            obtain ⟨Ai, ci, g1, g2⟩ := HS.out.2.2 i hin
            obtain ⟨A0, c0, g3, g4⟩ := HS.out.2.2 0 (by omega)
            obtain ⟨L, hL⟩ : ∃ L, L = (S.getD i []).length := ⟨_, rfl⟩
            obtain ⟨F, hF⟩ : ∃ F, F = (S.getD 0 []).length := ⟨_, rfl⟩
            obtain ⟨T, hT⟩ : ∃ T, T = (S.take i).flatten := ⟨_, rfl⟩
            rw [← hT] at HR HML
            rw [← hL] at g1 g2
            rw [← hF] at g3
            have hci := ((HO.out.keep HG.out (fun h => h)).cell hin).1
            have hc0 := ((HO.out.keep HG.out (fun h => h)).cell (k := 0) (by omega)).1
            rw [g1] at hci
            rw [g3] at hc0
            have HSR := Lib.hid (g2.grow HG.out).src
            have hLb : L ≤ 4194304 := by have := part_le S i; have := HS.out.1; omega
            have hFb : F ≤ 4194304 := by have := part_le S 0; have := HS.out.1; omega
            have hfl : (S.take (i + 1)).flatten = T ++ S.getD i [] := by
              have hx : S[i]? = some (S.getD i []) := by rw [List.getD_eq_getElem?_getD, List.getElem?_eq_getElem (by rw [HS.out.2.1]; exact hin)]; rfl
              rw [hT, List.take_add_one, hx, List.flatten_append]
              show _ ++ [S.getD i []].flatten = _
              rw [List.flatten_singleton]
            have hmx : m + L ≤ 4194304 := by
              have h1 := take_flat_le S (i + 1)
              rw [hfl, List.length_append, ← HML.out, ← hL] at h1
              have := HS.out.1
              omega
            have HL : Hid (L = (S.getD i []).length ∧ F = (S.getD 0 []).length ∧ True) := ⟨hL, hF, trivial⟩
            have HFL := Lib.hid hfl
            have hLi : (L : Int) ≤ 4194304 := by omega
            have hFi : (F : Int) ≤ 4194304 := by omega
            obtain ⟨k1, hk1⟩ : ∃ k1, k1 = k - 1 := ⟨_, rfl⟩
            have hk1i : (k : Int) - 1 = (k1 : Int) := by omega
            have hk0i : (0 : Int) < (k : Int) := by omega
            have key : (k = 1) ∨ (1 < k ∧ L = 0) ∨ (1 < k ∧ 0 < L ∧ i ≠ k1 ∧ L ≠ F) ∨ (1 < k ∧ 0 < L ∧ i = k1 ∧ F < L) ∨ (1 < k ∧ 0 < L ∧ i = k1 ∧ L ≤ F) ∨ (1 < k ∧ 0 < L ∧ i ≠ k1 ∧ L = F) := by omega
            clear g1 g2 g3 g4 hL hF hT hfl hLb hFb hk1
            rcases key with q1 | ⟨q1, q2⟩ | ⟨q1, q2, q3, q4⟩ | ⟨q1, q2, q3, q4⟩ | ⟨q1, q2, q3, q4⟩ | ⟨q1, q2, q3, q4⟩
            · have e1 : decide ((1 : Int) < (k : Int)) = false := by first | (exact decide_eq_true (by omega)) | (exact decide_eq_false (by omega)) | (simp; omega)
              have e1n : decide (1 < k) = false := by first | (exact decide_eq_true (by omega)) | (exact decide_eq_false (by omega)) | (simp; omega)
              have HOKI : Hid (okAt S i) := by
                show okAt S i
                unfold okAt
                rw [HS.out.2.1, ← HL.out.1, ← HL.out.2.1]
                omega
              try clear q4
              try clear q3
              try clear q2
              clear q1
              go_wp2_with fail
              go_quiet (fail)
              go_upto_region 16 with fail
              have HRd : Hid ((wr.drewN nq).ownsRow w2.heap.size 5 1 (.slice A2 m c2) m (T.map (Value.int .u8))) := HR.out
              have HGd : Hid (Grow w2 (wr.drewN nq)) := HG.out.drewN _
              have cid : (wr.drewN nq).cell? ⟨go, i, none⟩ = some (.slice Ai L ci) := hci
              have HSRd : Hid (Src (wr.drewN nq) 1 Ai L ci ((S.getD i []).map (Value.int .u8))) := HSR.out
              clear hci hc0
              generalize wr.drewN nq = w5 at *
              have hsz : w2.heap.size ≤ w5.heap.size := HGd.out.size
              go_wp2_with (at_builtin; refine wpList_appS rfl (.tmp 83) (.tmp 87) 24 5 rfl Try.underlying24 Try.infoU8l rfl (by decide) w2.heap.size _ m _ rfl HRd.out hsz Ai L ci _ rfl HSRd.out (by unfold maxLen; omega) (by omega) ?_)
              intro A4 c4 w4 ho4 hk4 _
              have HO4 : Hid (w4.ownsRow w2.heap.size 5 1 (.slice A4 (m + L) c4) (m + L) ((S.take (i + 1)).flatten.map (Value.int .u8))) := by
                show World.ownsRow _ _ _ _ _ _ _
                rw [HFL.out, List.map_append]
                exact ho4
              have HG4 := Lib.hid (grow_own HGd.out HRd.out (Nat.le_refl _) hk4)
              clear ho4 hk4
              go_wp2_with fail
              go_roundw
              case rel => exact ⟨i + 1, m + L, A4, c4, by omega, by go_num, hmx, by rw [HFL.out, List.length_append, ← HL.out.1, ← HML.out], rfl, HO4.out, HG4.out, fun j hj => by
                rcases Nat.lt_succ_iff_lt_or_eq.1 hj with h | h
                · exact HOK.out j h
                · subst h; exact HOKI.out⟩
              case measure => simp [intOf]; omega
            · have e1 : decide ((1 : Int) < (k : Int)) = true := by first | (exact decide_eq_true (by omega)) | (exact decide_eq_false (by omega)) | (simp; omega)
              have e1n : decide (1 < k) = true := by first | (exact decide_eq_true (by omega)) | (exact decide_eq_false (by omega)) | (simp; omega)
              have e2 : ((L : Int) == 0) = true := by first | (exact decide_eq_true (by omega)) | (exact decide_eq_false (by omega)) | (simp; omega)
              have e2n : (L == 0) = true := by first | (exact decide_eq_true (by omega)) | (exact decide_eq_false (by omega)) | (simp; omega)
              have HBJ : Hid (joinP l = (11, [])) := by
                show _ = _
                rw [HJ.out]
                unfold tellP
                rw [if_pos (fun h9 => ?_)]
                have h8 := (cut_all (by rw [HS.out.2.1]; omega)).1 h9 i (by rw [HS.out.2.1]; exact hin)
                unfold okAt at h8
                rw [HS.out.2.1, ← HL.out.1, ← HL.out.2.1] at h8
                omega
              have HK3 : Hid (Grow w wr) := Grow.trans _ _ _ HK2.out HG.out
              try clear q4
              try clear q3
              try clear q2
              clear q1
              go_wp2_with fail
              go_quiet (fail)
              go_wp2_with fail
              show POST (.returned (.tuple #[.slice none 0 0, .int .i64 ((11 : Nat) : Int)])) _
              exact HBAD.out 11 _ HBJ.out (HK3.out.drewN _)
            · have e1 : decide ((1 : Int) < (k : Int)) = true := by first | (exact decide_eq_true (by omega)) | (exact decide_eq_false (by omega)) | (simp; omega)
              have e1n : decide (1 < k) = true := by first | (exact decide_eq_true (by omega)) | (exact decide_eq_false (by omega)) | (simp; omega)
              have e2 : ((L : Int) == 0) = false := by first | (exact decide_eq_true (by omega)) | (exact decide_eq_false (by omega)) | (simp; omega)
              have e2n : (L == 0) = false := by first | (exact decide_eq_true (by omega)) | (exact decide_eq_false (by omega)) | (simp; omega)
              have e3 : ((i : Int) == (k1 : Int)) = false := by first | (exact decide_eq_true (by omega)) | (exact decide_eq_false (by omega)) | (simp; omega)
              have e3n : (i == k1) = false := by first | (exact decide_eq_true (by omega)) | (exact decide_eq_false (by omega)) | (simp; omega)
              have e4 : ((L : Int) != (F : Int)) = true := by first | (exact decide_eq_true (by omega)) | (exact decide_eq_false (by omega)) | (simp; omega)
              have e4b : ((L : Int) == (F : Int)) = false := by first | (exact decide_eq_true (by omega)) | (exact decide_eq_false (by omega)) | (simp; omega)
              have e4bn : (L == F) = false := by first | (exact decide_eq_true (by omega)) | (exact decide_eq_false (by omega)) | (simp; omega)
              have HBJ : Hid (joinP l = (11, [])) := by
                show _ = _
                rw [HJ.out]
                unfold tellP
                rw [if_pos (fun h9 => ?_)]
                have h8 := (cut_all (by rw [HS.out.2.1]; omega)).1 h9 i (by rw [HS.out.2.1]; exact hin)
                unfold okAt at h8
                rw [HS.out.2.1, ← HL.out.1, ← HL.out.2.1] at h8
                omega
              have HK3 : Hid (Grow w wr) := Grow.trans _ _ _ HK2.out HG.out
              try clear q4
              try clear q3
              try clear q2
              clear q1
              go_wp2_with fail
              go_quiet (fail)
              go_wp2_with fail
              show POST (.returned (.tuple #[.slice none 0 0, .int .i64 ((11 : Nat) : Int)])) _
              exact HBAD.out 11 _ HBJ.out (HK3.out.drewN _)
            · have e1 : decide ((1 : Int) < (k : Int)) = true := by first | (exact decide_eq_true (by omega)) | (exact decide_eq_false (by omega)) | (simp; omega)
              have e1n : decide (1 < k) = true := by first | (exact decide_eq_true (by omega)) | (exact decide_eq_false (by omega)) | (simp; omega)
              have e2 : ((L : Int) == 0) = false := by first | (exact decide_eq_true (by omega)) | (exact decide_eq_false (by omega)) | (simp; omega)
              have e2n : (L == 0) = false := by first | (exact decide_eq_true (by omega)) | (exact decide_eq_false (by omega)) | (simp; omega)
              have e3 : ((i : Int) == (k1 : Int)) = true := by first | (exact decide_eq_true (by omega)) | (exact decide_eq_false (by omega)) | (simp; omega)
              have e3n : (i == k1) = true := by first | (exact decide_eq_true (by omega)) | (exact decide_eq_false (by omega)) | (simp; omega)
              have e5 : decide ((F : Int) < (L : Int)) = true := by first | (exact decide_eq_true (by omega)) | (exact decide_eq_false (by omega)) | (simp; omega)
              have e5n : decide (F < L) = true := by first | (exact decide_eq_true (by omega)) | (exact decide_eq_false (by omega)) | (simp; omega)
              have HBJ : Hid (joinP l = (11, [])) := by
                show _ = _
                rw [HJ.out]
                unfold tellP
                rw [if_pos (fun h9 => ?_)]
                have h8 := (cut_all (by rw [HS.out.2.1]; omega)).1 h9 i (by rw [HS.out.2.1]; exact hin)
                unfold okAt at h8
                rw [HS.out.2.1, ← HL.out.1, ← HL.out.2.1] at h8
                omega
              have HK3 : Hid (Grow w wr) := Grow.trans _ _ _ HK2.out HG.out
              try clear q4
              try clear q3
              try clear q2
              clear q1
              go_wp2_with fail
              go_quiet (fail)
              go_wp2_with fail
              show POST (.returned (.tuple #[.slice none 0 0, .int .i64 ((11 : Nat) : Int)])) _
              exact HBAD.out 11 _ HBJ.out (HK3.out.drewN _)
            · have e1 : decide ((1 : Int) < (k : Int)) = true := by first | (exact decide_eq_true (by omega)) | (exact decide_eq_false (by omega)) | (simp; omega)
              have e1n : decide (1 < k) = true := by first | (exact decide_eq_true (by omega)) | (exact decide_eq_false (by omega)) | (simp; omega)
              have e2 : ((L : Int) == 0) = false := by first | (exact decide_eq_true (by omega)) | (exact decide_eq_false (by omega)) | (simp; omega)
              have e2n : (L == 0) = false := by first | (exact decide_eq_true (by omega)) | (exact decide_eq_false (by omega)) | (simp; omega)
              have e3 : ((i : Int) == (k1 : Int)) = true := by first | (exact decide_eq_true (by omega)) | (exact decide_eq_false (by omega)) | (simp; omega)
              have e3n : (i == k1) = true := by first | (exact decide_eq_true (by omega)) | (exact decide_eq_false (by omega)) | (simp; omega)
              have e5 : decide ((F : Int) < (L : Int)) = false := by first | (exact decide_eq_true (by omega)) | (exact decide_eq_false (by omega)) | (simp; omega)
              have e5n : decide (F < L) = false := by first | (exact decide_eq_true (by omega)) | (exact decide_eq_false (by omega)) | (simp; omega)
              have HOKI : Hid (okAt S i) := by
                show okAt S i
                unfold okAt
                rw [HS.out.2.1, ← HL.out.1, ← HL.out.2.1]
                omega
              try clear q4
              try clear q3
              try clear q2
              clear q1
              go_wp2_with fail
              go_quiet (fail)
              go_upto_region 16 with fail
              have HRd : Hid ((wr.drewN nq).ownsRow w2.heap.size 5 1 (.slice A2 m c2) m (T.map (Value.int .u8))) := HR.out
              have HGd : Hid (Grow w2 (wr.drewN nq)) := HG.out.drewN _
              have cid : (wr.drewN nq).cell? ⟨go, i, none⟩ = some (.slice Ai L ci) := hci
              have HSRd : Hid (Src (wr.drewN nq) 1 Ai L ci ((S.getD i []).map (Value.int .u8))) := HSR.out
              clear hci hc0
              generalize wr.drewN nq = w5 at *
              have hsz : w2.heap.size ≤ w5.heap.size := HGd.out.size
              go_wp2_with (at_builtin; refine wpList_appS rfl (.tmp 83) (.tmp 87) 24 5 rfl Try.underlying24 Try.infoU8l rfl (by decide) w2.heap.size _ m _ rfl HRd.out hsz Ai L ci _ rfl HSRd.out (by unfold maxLen; omega) (by omega) ?_)
              intro A4 c4 w4 ho4 hk4 _
              have HO4 : Hid (w4.ownsRow w2.heap.size 5 1 (.slice A4 (m + L) c4) (m + L) ((S.take (i + 1)).flatten.map (Value.int .u8))) := by
                show World.ownsRow _ _ _ _ _ _ _
                rw [HFL.out, List.map_append]
                exact ho4
              have HG4 := Lib.hid (grow_own HGd.out HRd.out (Nat.le_refl _) hk4)
              clear ho4 hk4
              go_wp2_with fail
              go_roundw
              case rel => exact ⟨i + 1, m + L, A4, c4, by omega, by go_num, hmx, by rw [HFL.out, List.length_append, ← HL.out.1, ← HML.out], rfl, HO4.out, HG4.out, fun j hj => by
                rcases Nat.lt_succ_iff_lt_or_eq.1 hj with h | h
                · exact HOK.out j h
                · subst h; exact HOKI.out⟩
              case measure => simp [intOf]; omega
            · have e1 : decide ((1 : Int) < (k : Int)) = true := by first | (exact decide_eq_true (by omega)) | (exact decide_eq_false (by omega)) | (simp; omega)
              have e1n : decide (1 < k) = true := by first | (exact decide_eq_true (by omega)) | (exact decide_eq_false (by omega)) | (simp; omega)
              have e2 : ((L : Int) == 0) = false := by first | (exact decide_eq_true (by omega)) | (exact decide_eq_false (by omega)) | (simp; omega)
              have e2n : (L == 0) = false := by first | (exact decide_eq_true (by omega)) | (exact decide_eq_false (by omega)) | (simp; omega)
              have e3 : ((i : Int) == (k1 : Int)) = false := by first | (exact decide_eq_true (by omega)) | (exact decide_eq_false (by omega)) | (simp; omega)
              have e3n : (i == k1) = false := by first | (exact decide_eq_true (by omega)) | (exact decide_eq_false (by omega)) | (simp; omega)
              have e4 : ((L : Int) != (F : Int)) = false := by first | (exact decide_eq_true (by omega)) | (exact decide_eq_false (by omega)) | (simp; omega)
              have e4b : ((L : Int) == (F : Int)) = true := by first | (exact decide_eq_true (by omega)) | (exact decide_eq_false (by omega)) | (simp; omega)
              have e4bn : (L == F) = true := by first | (exact decide_eq_true (by omega)) | (exact decide_eq_false (by omega)) | (simp; omega)
              have e5 : decide ((F : Int) < (L : Int)) = false := by first | (exact decide_eq_true (by omega)) | (exact decide_eq_false (by omega)) | (simp; omega)
              have e5n : decide (F < L) = false := by first | (exact decide_eq_true (by omega)) | (exact decide_eq_false (by omega)) | (simp; omega)
              have HOKI : Hid (okAt S i) := by
                show okAt S i
                unfold okAt
                rw [HS.out.2.1, ← HL.out.1, ← HL.out.2.1]
                omega
              try clear q4
              try clear q3
              try clear q2
              clear q1
              go_wp2_with fail
              go_quiet (fail)
              go_upto_region 16 with fail
              have HRd : Hid ((wr.drewN nq).ownsRow w2.heap.size 5 1 (.slice A2 m c2) m (T.map (Value.int .u8))) := HR.out
              have HGd : Hid (Grow w2 (wr.drewN nq)) := HG.out.drewN _
              have cid : (wr.drewN nq).cell? ⟨go, i, none⟩ = some (.slice Ai L ci) := hci
              have HSRd : Hid (Src (wr.drewN nq) 1 Ai L ci ((S.getD i []).map (Value.int .u8))) := HSR.out
              clear hci hc0
              generalize wr.drewN nq = w5 at *
              have hsz : w2.heap.size ≤ w5.heap.size := HGd.out.size
              go_wp2_with (at_builtin; refine wpList_appS rfl (.tmp 83) (.tmp 87) 24 5 rfl Try.underlying24 Try.infoU8l rfl (by decide) w2.heap.size _ m _ rfl HRd.out hsz Ai L ci _ rfl HSRd.out (by unfold maxLen; omega) (by omega) ?_)
              intro A4 c4 w4 ho4 hk4 _
              have HO4 : Hid (w4.ownsRow w2.heap.size 5 1 (.slice A4 (m + L) c4) (m + L) ((S.take (i + 1)).flatten.map (Value.int .u8))) := by
                show World.ownsRow _ _ _ _ _ _ _
                rw [HFL.out, List.map_append]
                exact ho4
              have HG4 := Lib.hid (grow_own HGd.out HRd.out (Nat.le_refl _) hk4)
              clear ho4 hk4
              go_wp2_with fail
              go_roundw
              case rel => exact ⟨i + 1, m + L, A4, c4, by omega, by go_num, hmx, by rw [HFL.out, List.length_append, ← HL.out.1, ← HML.out], rfl, HO4.out, HG4.out, fun j hj => by
                rcases Nat.lt_succ_iff_lt_or_eq.1 hj with h | h
                · exact HOK.out j h
                · subst h; exact HOKI.out⟩
              case measure => simp [intOf]; omega
          · obtain rfl : i = k := by omega
            have hti : S.take i = S := List.take_of_length_le (by rw [HS.out.2.1]; exact Nat.le_refl _)
            rw [hti] at HR HML
            have hcut : cutOK S := (cut_all (by rw [HS.out.2.1]; have := HC1.out; omega)).2 (by rw [HS.out.2.1]; exact HOK.out)
            have HJ1 := HJ.out
            unfold tellP at HJ1
            rw [if_neg (fun h9 => h9 hcut), ← HML.out, ← HV.out.2.1, ← HV.out.2.2.1] at HJ1
            have HHB := Lib.hid (block_keep HB.out HG.out (fun h => h))
            have HK3 : Hid (Grow w wr) := Grow.trans _ _ _ HK2.out HG.out
            have d2 := blk_cell HHB.out 2
            simp at d2
            have hmi : (m : Int) ≤ 4194304 := by omega
            by_cases hka : m = al
            rotate_left
            · rw [if_pos hka] at HJ1
              have HJ2 := Lib.hid HJ1
              have e1 : ((m : Int) == (al : Int)) = false := by simp; omega
              have e2 : ¬ (m : Int) = (al : Int) := by omega
              have e3 : ((m : Int) != (al : Int)) = true := by simp; omega
              clear hka HJ1 hti hcut
              go_wp2_with fail
              show POST (.returned (.tuple #[.slice none 0 0, .int .i64 ((11 : Nat) : Int)])) _
              exact HBAD.out 11 _ HJ2.out HK3.out
            · subst hka
              rw [if_neg (by simp)] at HJ1
              have HJ2 := Lib.hid HJ1
              obtain ⟨T, hT⟩ : ∃ T, T = S.flatten := ⟨_, rfl⟩
              rw [← hT] at HR HML HJ2
              have hTr : ∀ x ∈ T, inKind .u8 x := fun x hx => by
                rw [hT] at hx
                obtain ⟨ys, hy, hxy⟩ := List.mem_flatten.1 hx
                obtain ⟨j, hj, e⟩ := mem_at.1 hy
                obtain ⟨_, _, _, hn9⟩ := HS.out.2.2 j (by have := HS.out.2.1; omega)
                rw [e] at hn9
                exact hn9.rng x hxy
              have HNT := Lib.hid (Nums.of_own (xs := T) HR.out hTr)
              clear hT hTr HJ1 hti hcut
              go_upto_region 19 with fail
              clear d2
              refine wp_region_hold Grow Grow.refl Grow.trans [4] [(0, [0, 3]), (1, [4]), (2, [1]), (0, [2, 5])] [(0, [?o0, ?o3]), (1, [?o4]), (2, [?o1]), (0, [?o2, ?o5])] [?o0, ?o1, ?o2, ?o3, ?o4, ?o5] (by kernel_rfl) (by kernel_rfl) (by kernel_rfl) ?_
              have HKd : Hid (Grow wr wr.drew) := (Keeps.refl _ wr).drew
              generalize wr.drew = wd at *
              have HOd := Lib.hid (owns_keep HR.out HKd.out (fun _ _ h => h))
              have HNd := Lib.hid (HNT.out.grow HKd.out)
              have HBd := Lib.hid (block_keep HHB.out HKd.out (fun h => h))
              have HG3 : Hid (Grow w wd) := Grow.trans _ _ _ HK3.out HKd.out
              have HC := Lib.hid (refCrc_is wd 0 A2 m c2 _ (by decide) (bs_of_nums HNd.out) (by omega))
              obtain ⟨V, hV⟩ : ∃ V, V = not32 (crcAll 3988292384 (not32 0) (T.map Int.toNat)) := ⟨_, rfl⟩
              have hVb : V < 4294967296 := by
                rw [hV]
                exact not32_lt _ (crcAll_lt _ (by decide) _ (bs_of_nums HNd.out).2.1 _ (not32_lt 0 (by decide)))
              rw [← hV] at HC
              have HVV : Hid (V = crcP T) := hV
              have hVi : (V : Int) < 4294967296 := by omega
              clear HKd HR HNT HHB hV hVb
              refine seg_calm ?_
              go_wp2_with fail
              refine seg_held (by kernel_rfl) (.int .u64 (su : Nat)) (fun w7 hk7 => ?_) ?_
              · have c7 := blk_cell (block_keep HBd.out hk7 (fun h => h)) 3
                simp at c7
                go_simp
              refine seg_call ?_
              go_wp2_with fail
              refine HC.out.mono ?_
              rintro x w3 ⟨rfl, hw3⟩
              rw [← hw3]
              clear hw3 HC
              go_wp2_with fail
              refine ⟨Keeps.refl _ _, ?_⟩
              refine seg_calm ?_
              have HJ3 := HJ2.out
              rw [← HVV.out] at HJ3
              by_cases hvs : V = su
              · rw [if_neg (by simp [hvs])] at HJ3
                have HJ4 := Lib.hid HJ3
                subst hvs
                clear HJ3
                go_wp2_with fail
                refine seg_end ⟨by kernel_rfl, ?_⟩
                go_wp2_with fail
                show POST (.returned (.tuple #[.slice A2 m c2, .int .i64 0])) _
                rw [HPO.out]
                exact ⟨A2, m, c2, by rw [HJ4.out]; rfl, by rw [HJ4.out]; exact HML.out, by rw [HJ4.out]; exact owns_any_base HOd.out HK2.out.size, HG3.out⟩
              · rw [if_pos hvs] at HJ3
                have HJ4 := Lib.hid HJ3
                have e1 : ((V : Int) == (su : Int)) = false := by simp; omega
                have e2 : ¬ (V : Int) = (su : Int) := by omega
                have e3 : ((V : Int) != (su : Int)) = true := by simp; omega
                clear HJ3 hvs
                go_wp2_with fail
                refine seg_end ⟨by kernel_rfl, ?_⟩
                go_wp2_with fail
                show POST (.returned (.tuple #[.slice none 0 0, .int .i64 ((12 : Nat) : Int)])) _
                exact HBAD.out 12 _ HJ4.out HG3.out
end Go.Proofs.Ytnjdhkaabpmahaa
