/- volume: what a split's volumes come to when they are joined, plain. -/
import Derived.Test.YtnjdhkaabpmahaaVjW
import Derived.Test.YtnjdhkaabpmahaaVsS
namespace Go.Proofs.Ytnjdhkaabpmahaa
open Go.RowKit
set_option linter.unusedVariables false
set_option linter.unusedSimpArgs false

theorem leV_leN (v : Nat) : ∀ n, leV (leN v n) = v % 256 ^ n
  | 0 => by simp [leN, leV, Nat.mod_one]
  | n + 1 => by
    rw [leN_snoc, leV_append, leV_leN v n, leN_len, Nat.mod_pow_succ]
    show _ + 256 ^ n * ((((v / 256 ^ n % 256 : Nat) : Int)).toNat + 256 * 0) = _
    rw [Int.toNat_natCast, Nat.mul_zero, Nat.add_zero]
theorem leV_of {v n : Nat} (h : v < 256 ^ n) : leV (leN v n) = v := by rw [leV_leN, Nat.mod_eq_of_lt h]
theorem mid_part {α : Type} (a x r : List α) (i k : Nat) (hi : a.length = i) (hk : x.length = k) : (((a ++ (x ++ r)).drop i).take k) = x := by
  rw [List.drop_left' hi, List.take_left' hk]
def shr (xs : List Int) (sz k : Nat) : List Int := (xs.drop (k * sz)).take sz
/-- A volume as it lies. -/
theorem vol_form (xs : List Int) (sz cnt i : Nat) : ∃ s20 : List Int, s20.length = 20 ∧ s20 = hd20 i cnt xs.length (crcP xs) ∧ volP xs sz cnt i = s20 ++ (leN (crcP s20) 4 ++ shr xs sz i) := by
  refine ⟨hd20 i cnt xs.length (crcP xs), hd20_len _ _ _ _, rfl, ?_⟩
  unfold volP hdP shr
  rw [List.append_assoc]
  rfl
structure VolIs (b : List Int) (i cnt n S : Nat) (sh : List Int) : Prop where
  ok : readE b = 0
  num : numB b = i
  cnt : cntB b = cnt
  all : allB b = n
  sum : sumB b = S
  share : b.drop 24 = sh
theorem vol_is (xs : List Int) (sz cnt i : Nat) (hi : i < cnt) (hc : cnt ≤ 1024) (hn : xs.length ≤ 1048576) (hS : crcP xs < 4294967296) (hcr : ∀ ys : List Int, (∀ x ∈ ys, inKind .u8 x) → crcP ys < 4294967296) : VolIs (volP xs sz cnt i) i cnt xs.length (crcP xs) (shr xs sz i) := by
  obtain ⟨s20, hl, hs, hv⟩ := vol_form xs sz cnt i
  have hr20 : ∀ x ∈ s20, inKind .u8 x := by rw [hs]; exact hd20_rng _ _ _ _
  have hcs := hcr s20 hr20
  have hb4 : ∀ v, (leN v 4).length = 4 := fun v => leN_len v 4
  have hlen : 24 ≤ (volP xs sz cnt i).length := by rw [hv, List.length_append, List.length_append, hl, hb4]; omega
  have e20 : (volP xs sz cnt i).take 20 = s20 := by rw [hv]; exact List.take_left' hl
  have hform : volP xs sz cnt i = [72, 86, 79, 76] ++ (leN i 2 ++ (leN cnt 2 ++ (leN xs.length 8 ++ (leN (crcP xs) 4 ++ (leN (crcP s20) 4 ++ shr xs sz i))))) := by
    rw [hv, hs]
    unfold hd20
    simp only [List.append_assoc]
  have h4 : (volP xs sz cnt i).take 4 = magicN := by rw [hform]; exact List.take_left' rfl
  have hnum : numB (volP xs sz cnt i) = i := by
    unfold numB
    rw [hform, mid_part _ _ _ 4 2 rfl (leN_len _ _), leV_of (by simp; omega)]
  have hcnt : cntB (volP xs sz cnt i) = cnt := by
    unfold cntB
    rw [hform, ← List.append_assoc, mid_part _ _ _ 6 2 (by simp [leN_len]) (leN_len _ _), leV_of (by simp; omega)]
  have hall : allB (volP xs sz cnt i) = xs.length := by
    unfold allB
    rw [hform, ← List.append_assoc, ← List.append_assoc, mid_part _ _ _ 8 8 (by simp [leN_len]) (leN_len _ _), leV_of (by simp; omega)]
  have hsum : sumB (volP xs sz cnt i) = crcP xs := by
    unfold sumB
    rw [hform, ← List.append_assoc, ← List.append_assoc, ← List.append_assoc, mid_part _ _ _ 16 4 (by simp [leN_len]) (leN_len _ _), leV_of (by simp; omega)]
  have hown : ownB (volP xs sz cnt i) = crcP s20 := by
    unfold ownB
    rw [hv, mid_part _ _ _ 20 4 hl (leN_len _ _), leV_of (by simp; omega)]
  refine ⟨?_, hnum, hcnt, hall, hsum, ?_⟩
  · unfold readE
    rw [if_neg (by omega), if_neg (by rw [h4]; simp), if_neg (by rw [hown, e20]; simp), hcnt, hnum, hall, if_neg (by omega)]
  · rw [hv, ← List.append_assoc]
    exact List.drop_left' (by rw [List.length_append, hl, hb4])
theorem crcP_lt (ys : List Int) (h : ∀ x ∈ ys, inKind .u8 x) : crcP ys < 4294967296 :=
  not32_lt _ (crcAll_lt _ (by decide) _ (fun x hx => by
    obtain ⟨y, hy, rfl⟩ := List.mem_map.1 hx
    have := inKind_u8 (h y hy)
    omega) _ (not32_lt 0 (by decide)))
/-- Volumes of one split, some of them. -/
structure SubV (xs : List Int) (sz cnt : Nat) (I : List Nat) : Prop where
  few : cnt ≤ 1024
  small : xs.length ≤ 1048576
  rng : ∀ x ∈ xs, inKind .u8 x
  lt : ∀ i ∈ I, i < cnt
  nd : I.Nodup
theorem SubV.vol {xs : List Int} {sz cnt : Nat} {I : List Nat} (h : SubV xs sz cnt I) {i : Nat} (hi : i < cnt) : VolIs (volP xs sz cnt i) i cnt xs.length (crcP xs) (shr xs sz i) :=
  vol_is xs sz cnt i hi h.few h.small (crcP_lt xs h.rng) crcP_lt
theorem SubV.at_ {xs : List Int} {sz cnt : Nat} {I : List Nat} (h : SubV xs sz cnt I) {j : Nat} (hj : j < I.length) : ∃ i, I[j]? = some i ∧ i < cnt ∧ (I.map (volP xs sz cnt)).getD j [] = volP xs sz cnt i := by
  refine ⟨I[j], List.getElem?_eq_getElem hj, h.lt _ (List.getElem_mem hj), ?_⟩
  rw [List.getD_eq_getElem?_getD, List.getElem?_map, List.getElem?_eq_getElem hj]; rfl
theorem SubV.scan {xs : List Int} {sz cnt : Nat} {I : List Nat} (h : SubV xs sz cnt I) (hI : I ≠ []) : scanE (I.map (volP xs sz cnt)) = 0 := by
  have h0 : 0 < I.length := List.length_pos_iff.2 hI
  refine scanE_end (by simpa using hI) fun j hj => ?_
  rw [List.length_map] at hj
  obtain ⟨i, hi, hic, hv⟩ := h.at_ hj
  obtain ⟨i0, hi0, hic0, hv0⟩ := h.at_ h0
  have V := h.vol hic
  have V0 := h.vol hic0
  unfold stepE
  rw [hv, hv0, if_neg (by rw [V.ok]; simp), if_neg (fun h9 => h9 ⟨by rw [V.cnt, V0.cnt], by rw [V.all, V0.all], by rw [V.sum, V0.sum]⟩)]
  refine if_neg ?_
  rintro ⟨k, hk, e⟩
  obtain ⟨i2, hi2, hic2, hv2⟩ := h.at_ (j := k) (by omega)
  rw [hv2, (h.vol hic2).num, V.num] at e
  subst e
  have h1 := List.pairwise_iff_getElem.1 h.nd k j (by omega) hj hk
  rw [List.getElem?_eq_getElem hj] at hi
  rw [List.getElem?_eq_getElem (by omega)] at hi2
  injection hi with hi
  injection hi2 with hi2
  exact h1 (hi2.trans hi.symm)
theorem SubV.cntL {xs : List Int} {sz cnt : Nat} {I : List Nat} (h : SubV xs sz cnt I) (hI : I ≠ []) : cntL (I.map (volP xs sz cnt)) = cnt := by
  obtain ⟨i0, hi0, hic0, hv0⟩ := h.at_ (j := 0) (List.length_pos_iff.2 hI)
  unfold Go.Proofs.Ytnjdhkaabpmahaa.cntL
  rw [hv0, (h.vol hic0).cnt]
theorem SubV.head {xs : List Int} {sz cnt : Nat} {I : List Nat} (h : SubV xs sz cnt I) (hI : I ≠ []) : allB ((I.map (volP xs sz cnt)).getD 0 []) = xs.length ∧ sumB ((I.map (volP xs sz cnt)).getD 0 []) = crcP xs := by
  obtain ⟨i0, hi0, hic0, hv0⟩ := h.at_ (j := 0) (List.length_pos_iff.2 hI)
  rw [hv0]
  exact ⟨(h.vol hic0).all, (h.vol hic0).sum⟩
theorem SubV.has {xs : List Int} {sz cnt : Nat} {I : List Nat} (h : SubV xs sz cnt I) (k : Nat) : hasN (I.map (volP xs sz cnt)) k = decide (k ∈ I) := by
  rw [Bool.eq_iff_iff, hasN_iff, decide_eq_true_iff]
  constructor
  · rintro ⟨j, hj, e⟩
    rw [List.length_map] at hj
    obtain ⟨i, hi, hic, hv⟩ := h.at_ hj
    rw [hv, (h.vol hic).num] at e
    subst e
    exact List.mem_of_getElem? hi
  · intro hk
    obtain ⟨j, hj⟩ := List.mem_iff_getElem?.1 hk
    have hjl := (List.getElem?_eq_some_iff.1 hj).1
    obtain ⟨i, hi, hic, hv⟩ := h.at_ hjl
    rw [hj] at hi
    injection hi with hi
    subst hi
    exact ⟨j, by rw [List.length_map]; exact hjl, by rw [hv, (h.vol hic).num]⟩
theorem SubV.lacks {xs : List Int} {sz cnt : Nat} {I : List Nat} (h : SubV xs sz cnt I) (hI : I ≠ []) : lacksP (I.map (volP xs sz cnt)) = (0, (List.range cnt).filter fun k => !decide (k ∈ I)) := by
  rw [lacksP_good (h.scan hI), h.cntL hI]
  congr 1
  exact List.filter_congr fun k _ => by rw [h.has]
theorem SubV.joinSome {xs : List Int} {sz cnt : Nat} {I : List Nat} (h : SubV xs sz cnt I) (hI : I ≠ []) {k : Nat} (hk : k < cnt) (hn : k ∉ I) : joinP (I.map (volP xs sz cnt)) = (31, []) :=
  joinP_lack (h.scan hI) (k := k) (by rw [h.cntL hI]; exact hk) (by rw [h.has, decide_eq_false hn])
theorem shr_flat (xs : List Int) (sz : Nat) : ∀ k, ((List.range k).map (shr xs sz)).flatten = xs.take (k * sz)
  | 0 => by simp
  | k + 1 => by
    rw [List.range_succ, List.map_append, List.flatten_append, shr_flat xs sz k]
    show _ ++ [shr xs sz k].flatten = _
    rw [List.flatten_singleton, Nat.succ_mul, List.take_add]
    rfl
theorem SubV.joinAll {xs : List Int} {sz cnt : Nat} {I : List Nat} (h : SubV xs sz cnt I) (hI : I ≠ []) (hsz : 1 ≤ sz) (hc : cnt = cntP xs.length sz) (ha : ∀ k, k < cnt → k ∈ I) : joinP (I.map (volP xs sz cnt)) = (0, xs) := by
  have hs := h.scan hI
  rw [joinP_all hs fun k hk => by rw [h.cntL hI] at hk; rw [h.has, decide_eq_true (ha k hk)], h.cntL hI]
  have hS : (List.range cnt).map (shareN (I.map (volP xs sz cnt))) = (List.range cnt).map (shr xs sz) := by
    refine List.map_congr_left fun k hk => ?_
    have hk := List.mem_range.1 hk
    obtain ⟨j, hj⟩ := List.mem_iff_getElem?.1 (ha k hk)
    have hjl := (List.getElem?_eq_some_iff.1 hj).1
    obtain ⟨i, hi, hic, hv⟩ := h.at_ hjl
    rw [hj] at hi
    injection hi with hi
    subst hi
    have h1 := shareN_at (good_of hs) (j := j) (by rw [List.length_map]; exact hjl)
    rw [hv, (h.vol hic).num, (h.vol hic).share] at h1
    exact h1
  rw [hS]
  have hge : xs.length ≤ cnt * sz := by
    rw [hc]
    unfold cntP
    split
    · rename_i h0
      have := (chkN_lt (n := xs.length) (sz := sz) (k := 0) hsz)
      rw [h0] at this
      simp at this
      rw [this]; simp
    · have := (chkN_lt (n := xs.length) (sz := sz) (k := chkN xs.length sz) hsz)
      omega
  have hfl : ((List.range cnt).map (shr xs sz)).flatten = xs := by rw [shr_flat, List.take_of_length_le hge]
  have hshl : ∀ k, k < cnt → ((List.range cnt).map (shr xs sz)).getD k [] = shr xs sz k := fun k hk => by
    rw [List.getD_eq_getElem?_getD, List.getElem?_map, List.getElem?_range hk]; rfl
  have hcut : cutOK ((List.range cnt).map (shr xs sz)) := by
    by_cases h1 : cnt = 1
    · exact .inl (by rw [List.length_map, List.length_range, h1])
    · have hc1 : 1 ≤ cnt := by
        obtain ⟨i0, _, hic0, _⟩ := h.at_ (j := 0) (List.length_pos_iff.2 hI)
        omega
      have hck : cnt = chkN xs.length sz := by
        rw [hc] at h1 ⊢
        unfold cntP at h1 ⊢
        split
        · rename_i h0; rw [if_pos h0] at h1; exact absurd rfl h1
        · rfl
      have hmid : ∀ k, k + 1 < cnt → (shr xs sz k).length = sz := fun k hk => by
        have := (chkN_lt (n := xs.length) (sz := sz) (k := k + 1) hsz).2 (by omega)
        unfold shr
        rw [List.length_take, List.length_drop]
        rw [Nat.succ_mul] at this
        omega
      have hlast : 0 < (shr xs sz (cnt - 1)).length ∧ (shr xs sz (cnt - 1)).length ≤ sz := by
        have := (chkN_lt (n := xs.length) (sz := sz) (k := cnt - 1) hsz).2 (by omega)
        unfold shr
        rw [List.length_take, List.length_drop]
        omega
      refine .inr ?_
      rw [List.length_map, List.length_range, hshl 0 (by omega), hshl (cnt - 1) (by omega), hmid 0 (by omega)]
      refine ⟨fun i hi => ?_, by omega, hlast.1, hlast.2⟩
      rw [hshl i (by omega), hmid i (by omega)]
  unfold tellP
  rw [if_neg (fun h9 => h9 hcut), hfl, (h.head hI).1, (h.head hI).2, if_neg (by simp), if_neg (by simp)]
end Go.Proofs.Ytnjdhkaabpmahaa
