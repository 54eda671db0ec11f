/- volume: Join. -/
import Derived.Test.YtnjdhkaabpmahaaVjG
namespace Go.Proofs.Ytnjdhkaabpmahaa
open Go.RowKit
set_option linter.unusedVariables false
set_option linter.unusedSimpArgs false

theorem flat_le : ∀ S : List (List Int), ((S.map (·.drop 24)).flatten).length ≤ (S.map List.length).sum
  | [] => Nat.le_refl _
  | y :: S => by
    have := flat_le S
    simp only [List.map_cons, List.flatten_cons, List.length_append, List.sum_cons, List.length_drop] at this ⊢
    omega
theorem perm_sum {a b : List Nat} (h : a.Perm b) : a.sum = b.sum := by
  induction h with
  | nil => rfl
  | cons x _ ih => simp [ih]
  | swap x y r => simp; omega
  | trans _ _ h1 h2 => exact h1.trans h2
theorem take_flat_le (S : List (List Int)) (i : Nat) : (S.take i).flatten.length ≤ S.flatten.length := by
  conv => rhs; rw [← List.take_append_drop i S]
  rw [List.flatten_append, List.length_append]
  omega
def JoinPost (w : World) (l : List (List Int)) (e : Ending) (w' : World) : Prop :=
  ∃ A' m' c', e = .returned (.tuple #[.slice A' m' c', .int .i64 ((joinP l).1 : Nat)]) ∧ m' = (joinP l).2.length ∧ w'.ownsRow w.heap.size 5 1 (.slice A' m' c') m' ((joinP l).2.map (Value.int .u8)) ∧ Grow w w'
set_option maxRecDepth 8000 in
set_option maxHeartbeats 4000000 in
theorem join_v (w : World) (A : Option Addr) (n c : Nat) (l : List (List Int)) (h : RowsR w A n c l) :
    Calls Try.prog 7 #[.slice A n c] w fun e w' => JoinPost w l e w' := by
  obtain ⟨POST, hPOST⟩ : ∃ POST : Ending → World → Prop, POST = fun e w' => JoinPost w l e w' := ⟨_, rfl⟩
  have HPO := Lib.hid hPOST
  show Calls _ _ _ _ fun x w' => (fun x w' => JoinPost w l x w') x w'
  rw [← hPOST]
  have HP := Lib.hid (parts_is w A n c l h)
  have HN := Lib.hid h
  have HBAD : Hid (∀ (err : Nat) (w' : World), joinP l = (err, []) → Grow w w' → POST (.returned (.tuple #[.slice none 0 0, .int .i64 (err : Nat)])) w') := fun err w' h1 h2 => by
    rw [HPO.out]
    exact ⟨none, 0, 0, by rw [h1], by rw [h1]; rfl, by rw [h1]; exact own_nil _ _ _, h2⟩
  clear h hPOST
  go_enter Try.func7, Try.ntmps7
  go_wp2_with fail
  refine HP.out.mono ?_
  rintro x w1 ⟨hg1, hbad, hgood⟩
  have HK1 := Lib.hid hg1
  by_cases hs : scanE l = 0
  rotate_left
  · have he := hbad hs
    subst he
    obtain ⟨E, hE⟩ : ∃ E, E = scanE l := ⟨_, rfl⟩
    have e1 : ((scanE l : Int) == 0) = false := by simp; omega
    rw [← hE] at e1 ⊢
    have e2 : ¬ (E : Int) = 0 := by rw [hE]; omega
    have e3 : ((E : Int) != 0) = true := by simp; omega
    have HE := Lib.hid (And.intro hE hs)
    clear hE hs hbad hgood hg1
    go_wp2_with fail
    show POST (.returned (.tuple #[.slice none 0 0, .int .i64 (E : Nat)])) _
    exact HBAD.out E _ (by rw [joinP_bad HE.out.2, HE.out.1]) HK1.out
  · obtain ⟨g, c1, Z, rfl, hr, hfit, hord⟩ := hgood hs
    have HRP := Lib.hid (hr.rowP HN.out.few)
    have HZ := Lib.hid (And.intro hfit (And.intro hord hs))
    obtain ⟨hn, hnl, hh1, hh2, hh3⟩ := headZ HRP.out hfit hord hs
    have hz0 := (readE_zero ((good_of hs).each 0 (by rw [← hnl]; exact hn)).1)
    have hCb : cntL l ≤ 1024 := hz0.2.2.2.1
    have hAb : allB (l.getD 0 []) ≤ 268435456 := hz0.2.2.2.2.2
    obtain ⟨C, hC⟩ : ∃ C, C = cntL l := ⟨_, rfl⟩
    obtain ⟨al, hal⟩ : ∃ al, al = allB (l.getD 0 []) := ⟨_, rfl⟩
    obtain ⟨su, hsu⟩ : ∃ su, su = sumB (l.getD 0 []) := ⟨_, rfl⟩
    rw [← hC] at hh1 hCb
    rw [← hal] at hh2 hAb
    rw [← hsu] at hh3
    have HJ := hord.join hs
    rw [← hnl, ← hC] at HJ
    have HJ0 := Lib.hid HJ
    have HV := Lib.hid (And.intro hC (And.intro hal (And.intro hsu hnl)))
    have hCi : (C : Int) ≤ 1024 := by omega
    have hAi : (al : Int) ≤ 268435456 := by omega
    have hni0 : (0 : Int) < (n : Int) := by omega
    have hni : (n : Int) ≤ 1048576 := by have := HN.out.few; omega
    clear hbad hgood hg1 hr hfit hord hs hnl hC hal hsu hz0 HJ
    by_cases hlt : n < C
    · have f1 : decide ((n : Int) < (C : Int)) = true := decide_eq_true (by omega)
      have f2 : decide (n < C) = true := decide_eq_true hlt
      have HJ1 := HJ0.out
      rw [if_pos hlt] at HJ1
      have HJ := Lib.hid HJ1
      clear HJ1 hlt
      go_wp2_with fail
      show POST (.returned (.tuple #[.slice none 0 0, .int .i64 ((31 : Nat) : Int)])) _
      exact HBAD.out 31 _ HJ.out HK1.out
    · have f1 : decide ((n : Int) < (C : Int)) = false := decide_eq_false (by omega)
      have f2 : decide (n < C) = false := decide_eq_false hlt
      have HJ1 := HJ0.out
      rw [if_neg hlt] at HJ1
      have HJ := Lib.hid HJ1
      have HLB : Hid (∀ x ∈ Z.map Prod.fst, x.2.2.1 ≤ 140737488355328) := fun x hx => by
        obtain ⟨z, hz, rfl⟩ := List.mem_map.1 hx
        have h2 := (HZ.out.1 z hz).2.1
        obtain ⟨j, hj, e⟩ := mem_at.1 (HZ.out.2.1.perm.mem_iff.1 (List.mem_map_of_mem (f := Prod.snd) hz))
        have h3 := HN.out.sm j (by have := HN.out.len; omega)
        rw [e] at h3
        omega
      have HCT := Lib.hid (cut_is w1 (some ⟨g, 0, none⟩) n c1 (Z.map Prod.fst) HRP.out hn HLB.out)
      have HLE : Hid ((Z.map Prod.fst).map (fun x => x.2.2.1) = ((Z.map Prod.snd).map (·.drop 24)).map List.length) := by
        show _ = _
        rw [List.map_map, List.map_map, List.map_map]
        refine List.map_congr_left fun z hz => ?_
        have h2 := (HZ.out.1 z hz).2.1
        simp only [Function.comp, List.length_drop]
        exact h2
      clear HJ1 hlt HJ0
      go_wp2_with fail
      refine HCT.out.mono ?_
      rintro x w2 ⟨r, rfl, hr, hg2⟩
      rw [HLE.out, ← cutN_iff] at hr
      have HK2 : Hid (Grow w w2) := Grow.trans _ _ _ HK1.out hg2
      have HG12 := Lib.hid hg2
      have hh2' := ckp hh2 hg2 (fun h => h)
      have hh3' := ckp hh3 hg2 (fun h => h)
      clear hh1 hh2 hh3 hg2 HCT
      cases hrb : r
      · subst hrb
        have HJ1 := HJ.out
        unfold tellP at HJ1
        rw [if_pos (fun h9 => by have := hr.2 h9; cases this)] at HJ1
        replace HJ := Lib.hid HJ1
        clear HJ1 hr
        go_wp2_with fail
        show POST (.returned (.tuple #[.slice none 0 0, .int .i64 ((11 : Nat) : Int)])) _
        exact HBAD.out 11 _ HJ.out HK2.out
      · subst hrb
        have HJ1 := HJ.out
        unfold tellP at HJ1
        rw [if_neg (fun h9 => h9 (hr.1 rfl))] at HJ1
        obtain ⟨S, hS⟩ : ∃ S, S = (Z.map Prod.snd).map (·.drop 24) := ⟨_, rfl⟩
        rw [← hS, ← HV.out.2.1, ← HV.out.2.2.1] at HJ1
        have hSb : S.flatten.length ≤ 4194304 := by
          have h1 := flat_le (Z.map Prod.snd)
          rw [perm_sum (HZ.out.2.1.perm.map List.length), ← hS] at h1
          have := HN.out.tot
          omega
        have hSl : S.length = n := by
          have := HRP.out.len
          rw [List.length_map] at this
          rw [hS, List.length_map, List.length_map]; exact this
        replace HJ := Lib.hid HJ1
        have HS := Lib.hid (And.intro hS (And.intro hSb hSl))
        clear HJ1 hr hS hSb hSl HLE HLB
        go_wp2_with fail
        go_loopw [6, 8, 33] (fun vo _ vi wr => ∃ (i k : Nat) (A2 : Option Addr) (c2 : Nat), i ≤ n ∧ vi = .int .i64 (i : Nat) ∧ k ≤ 4194304 ∧ k = (S.take i).flatten.length ∧ vo = .slice A2 k c2 ∧ Hid (wr.ownsRow w2.heap.size 5 1 (.slice A2 k c2) k ((S.take i).flatten.map (Value.int .u8))) ∧ Hid (Grow w2 wr)) (fun _ _ vi _ => n - (intOf vi).toNat)
        case atStart => exact ⟨0, 0, none, 0, Nat.zero_le _, rfl, Nat.zero_le _, rfl, rfl, own_nil _ _ _, Keeps.refl _ _⟩
        case round =>
          obtain ⟨i, k, A2, c2, hi, rfl, hk, hkl, rfl, HO, HG⟩ := hrel
          have HKL := Lib.hid hkl
          clear hkl
          by_cases hin : i < n
          · obtain ⟨T, hT⟩ : ∃ T, T = (S.take i).flatten := ⟨_, rfl⟩
            rw [← hT] at HO HKL
            have hin' : (i : Int) < (n : Int) := by omega
            have HG1 : Hid (Grow w1 wr) := Grow.trans _ _ _ HG12.out HG.out
            obtain ⟨g', e9, hc⟩ := (HRP.out.grow HG1.out).at_ hn
            injection e9 with e9
            injection e9 with e9 _
            subst e9
            obtain ⟨z, hz⟩ : ∃ z, Z[i]? = some z := ⟨_, List.getElem?_eq_getElem (by have := HRP.out.len; rw [List.length_map] at this; omega)⟩
            have hcx := hc i z.1 (by rw [List.getElem?_map, hz]; rfl)
            have hfz := (HZ.out.1 z (List.mem_of_getElem? hz)).grow HG1.out
            have hSi : S[i]? = some (z.2.drop 24) := by rw [HS.out.1, List.getElem?_map, List.getElem?_map, hz]; rfl
            obtain ⟨⟨⟨x1, x2, x3, x4⟩, xA, xn, xc⟩, y⟩ := z
            have c0 := hcx 0 _ rfl
            have c1' := hcx 1 _ rfl
            have c2' := hcx 2 _ rfl
            have c3 := hcx 3 _ rfl
            have c4 := hcx 4 _ rfl
            simp only [Nat.add_zero] at c0
            have hNs : Nums .u8 wr xA xn xc (y.drop 24) := hfz.2.2
            obtain ⟨ys, hys⟩ : ∃ ys, ys = y.drop 24 := ⟨_, rfl⟩
            simp only at hSi
            rw [← hys] at hSi hNs
            have hfl : (S.take (i + 1)).flatten = T ++ ys := by
              rw [hT]
              rw [List.take_add_one, hSi, List.flatten_append]; simp
            have hkx : k + xn ≤ 4194304 := by
              have h1 := take_flat_le S (i + 1)
              rw [hfl, List.length_append, ← HKL.out, hNs.len] at h1
              have := HS.out.2.1
              omega
            have HFL := Lib.hid (And.intro hfl hNs.len)
            have hkA := (Keeps.refl (fun _ => False) wr).alloc (.cells #[.int .i64 (x1 : Nat), .int .i64 (x2 : Nat), .int .i64 (x3 : Nat), .int .u32 (x4 : Nat), .slice xA xn xc] 51)
            have hba := heap_alloc_new wr (.cells #[.int .i64 (x1 : Nat), .int .i64 (x2 : Nat), .int .i64 (x3 : Nat), .int .u32 (x4 : Nat), .slice xA xn xc] 51)
            have HSR := Lib.hid (hNs.grow hkA).src
            have HO2 := Lib.hid (owns_keep HO.out hkA (fun _ _ h => h))
            have HG2 : Hid (Grow w2 _) := Grow.trans _ _ _ HG.out hkA
            obtain ⟨gb, hgb⟩ : ∃ gb, gb = wr.heap.size := ⟨_, rfl⟩
            rw [← hgb] at hba
            clear hc hz hcx hfz hSi hNs hys hfl hkA hT
            go_upto_region 12 with fail
            rw [← hgb]
            clear hgb c0 c1' c2' c3 c4
            generalize wr.alloc (.cells #[.int .i64 (x1 : Nat), .int .i64 (x2 : Nat), .int .i64 (x3 : Nat), .int .u32 (x4 : Nat), .slice xA xn xc] 51) = w3 at *
            have b4 := blk_cell hba 4
            simp at b4
            have hsz : w2.heap.size ≤ w3.heap.size := HG2.out.size
            go_wp2_with (at_builtin; refine wpList_appS rfl (.tmp 37) (.tmp 39) 24 5 rfl Try.underlying24 Try.infoU8l rfl (by decide) w2.heap.size _ k _ rfl HO2.out hsz xA xn xc _ rfl HSR.out (by unfold maxLen; omega) (by omega) ?_)
            intro A4 c4 w4 ho4 hk4 _
            have HO4 : Hid (w4.ownsRow w2.heap.size 5 1 (.slice A4 (k + xn) c4) (k + xn) ((S.take (i + 1)).flatten.map (Value.int .u8))) := by
              show World.ownsRow _ _ _ _ _ _ _
              rw [HFL.out.1, List.map_append]
              exact ho4
            have HG4 := Lib.hid (grow_own HG2.out HO2.out (Nat.le_refl _) hk4)
            clear ho4 hk4
            go_wp2_with fail
            go_roundw
            case rel => exact ⟨i + 1, k + xn, A4, c4, by omega, by go_num, hkx, by rw [HFL.out.1, List.length_append, HFL.out.2, ← HKL.out], rfl, HO4.out, HG4.out⟩
            case measure => simp [intOf]; omega
          · obtain rfl : i = n := by omega
            have hti : S.take i = S := List.take_of_length_le (by rw [HS.out.2.2]; exact Nat.le_refl _)
            rw [hti] at HO HKL
            have h2 := ckp hh2' HG.out (fun h => h)
            have h3 := ckp hh3' HG.out (fun h => h)
            have HK3 : Hid (Grow w wr) := Grow.trans _ _ _ HK2.out HG.out
            have hki : (k : Int) ≤ 4194304 := by omega
            have HJ1 := HJ.out
            rw [← HKL.out] at HJ1
            by_cases hka : k = al
            rotate_left
            · rw [if_pos hka] at HJ1
              have HJ2 := Lib.hid HJ1
              have e1 : ((k : Int) == (al : Int)) = false := by simp; omega
              have e2 : ¬ (k : Int) = (al : Int) := by omega
              have e3 : ((k : Int) != (al : Int)) = true := by simp; omega
              clear hka HJ1 hti
              go_wp2_with fail
              show POST (.returned (.tuple #[.slice none 0 0, .int .i64 ((11 : Nat) : Int)])) _
              exact HBAD.out 11 _ HJ2.out HK3.out
            · subst hka
              rw [if_neg (by simp)] at HJ1
              have HJ2 := Lib.hid HJ1
              clear HJ1 hti hh2' hh3'
              go_wp2_with fail
              obtain ⟨T, hT⟩ : ∃ T, T = S.flatten := ⟨_, rfl⟩
              rw [← hT] at HO HKL HJ2
              have hTr : ∀ x ∈ T, inKind .u8 x := fun x hx => by
                rw [hT, HS.out.1] at hx
                obtain ⟨ys, hy, hxy⟩ := List.mem_flatten.1 hx
                obtain ⟨y, hy2, rfl⟩ := List.mem_map.1 hy
                obtain ⟨z, hz, rfl⟩ := List.mem_map.1 hy2
                exact (HZ.out.1 z hz).2.2.rng x hxy
              have HNT := Lib.hid (Nums.of_own (xs := T) HO.out hTr)
              clear hT hTr
              refine wp_region_hold Grow Grow.refl Grow.trans [6] [(0, [0, 2, 3, 4, 5]), (1, [6]), (2, [1]), (0, [7, 8])] [(0, [?o0, ?o2, ?o3, ?o4, ?o5]), (1, [?o6]), (2, [?o1]), (0, [?o7, ?o8])] [?o0, ?o1, ?o2, ?o3, ?o4, ?o5, ?o6, ?o7, ?o8] (by kernel_rfl) (by kernel_rfl) (by kernel_rfl) ?_
              have HKd : Hid (Grow wr wr.drew) := (Keeps.refl _ wr).drew
              generalize wr.drew = wd at *
              have HOd := Lib.hid (owns_keep HO.out HKd.out (fun _ _ h => h))
              have HNd := Lib.hid (HNT.out.grow HKd.out)
              have h3d := ckp h3 HKd.out (fun h => h)
              have HG3 : Hid (Grow w wd) := Grow.trans _ _ _ HK3.out HKd.out
              have HC := Lib.hid (crc32_is wd 0 A2 k c2 _ (by decide) (bs_of_nums HNd.out) (by omega))
              obtain ⟨V, hV⟩ : ∃ V, V = not32 (crcAll 3988292384 (not32 0) (T.map Int.toNat)) := ⟨_, rfl⟩
              rw [← hV] at HC
              have HVV : Hid (V = crcP T) := hV
              clear HKd HO HNT h2 h3 hV
              refine seg_calm ?_
              go_wp2_with fail
              refine seg_held (by kernel_rfl) (.int .u32 (su : Nat)) (fun w7 hk7 => ?_) ?_
              · have c7 := ckp h3d hk7 (fun h => h)
                go_simp
              refine seg_call ?_
              go_wp2_with fail
              refine HC.out.mono ?_
              rintro x w3 ⟨rfl, hg3⟩
              have HOe := Lib.hid (owns_keep HOd.out hg3 (fun _ _ h => h))
              have HG4 : Hid (Grow w w3) := Grow.trans _ _ _ HG3.out hg3
              have HG3' := Lib.hid hg3
              clear hg3 HC
              go_wp2_with fail
              refine ⟨HG3'.out, ?_⟩
              refine seg_calm ?_
              have HJ3 := HJ2.out
              rw [← HVV.out] at HJ3
              by_cases hvs : V = su
              · rw [if_neg (by simp [hvs])] at HJ3
                have HJ4 := Lib.hid HJ3
                subst hvs
                clear HJ3
                go_wp2_with fail
                refine seg_end ⟨by kernel_rfl, ?_⟩
                go_wp2_with fail
                show POST (.returned (.tuple #[.slice A2 k c2, .int .i64 0])) _
                rw [HPO.out]
                exact ⟨A2, k, c2, by rw [HJ4.out]; rfl, by rw [HJ4.out]; exact HKL.out, by rw [HJ4.out]; exact owns_any_base HOe.out HK2.out.size, HG4.out⟩
              · rw [if_pos hvs] at HJ3
                have HJ4 := Lib.hid HJ3
                have e1 : ((V : Int) == (su : Int)) = false := by simp; omega
                have e2 : ¬ (V : Int) = (su : Int) := by omega
                have e3 : ((V : Int) != (su : Int)) = true := by simp; omega
                clear HJ3 hvs
                go_wp2_with fail
                refine seg_end ⟨by kernel_rfl, ?_⟩
                go_wp2_with fail
                show POST (.returned (.tuple #[.slice none 0 0, .int .i64 ((12 : Nat) : Int)])) _
                exact HBAD.out 12 _ HJ4.out HG4.out
end Go.Proofs.Ytnjdhkaabpmahaa
