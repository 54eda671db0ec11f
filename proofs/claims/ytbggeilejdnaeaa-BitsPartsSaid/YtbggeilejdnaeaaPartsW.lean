/- The law BitsParts: the walk. -/
import Derived.Test.YtbggeilejdnaeaaParts
namespace Go.Proofs.Ytbggeilejdnaeaa
open Go.RowKit
set_option linter.unusedVariables false

theorem wf_u64 {x : Int} (h : (Lit.int .u64 x).wf = true) : 0 ≤ x ∧ x < 18446744073709551616 := by
  simp [Lit.wf] at h
  have h1 : IntKind.u64.min = 0 := rfl
  have h2 : IntKind.u64.max = 18446744073709551615 := rfl
  omega
theorem wf_i64 {x : Int} (h : (Lit.int .i64 x).wf = true) : -9223372036854775808 ≤ x ∧ x ≤ 9223372036854775807 := by
  simp [Lit.wf] at h
  have h1 : IntKind.i64.min = -9223372036854775808 := rfl
  have h2 : IntKind.i64.max = 9223372036854775807 := rfl
  omega
theorem pow_lt_u64 (k : Nat) (hk : k < 64) : (0 : Int) < 2 ^ k ∧ (2 : Int) ^ k < 18446744073709551616 := by
  obtain ⟨d, hd⟩ : ∃ d, 63 = k + d := ⟨63 - k, by omega⟩
  have h1 : (2 : Int) ^ 63 = 2 ^ k * 2 ^ d := by rw [hd, Int.pow_add]
  have h2 : (0 : Int) < 2 ^ k := Int.pow_pos (by decide)
  have h3 : (0 : Int) < 2 ^ d := Int.pow_pos (by decide)
  have h4 : (2 : Int) ^ k * 1 ≤ 2 ^ k * 2 ^ d := Int.mul_le_mul_of_nonneg_left (by omega) (by omega)
  omega
theorem wrap_less1 (m : Int) (h0 : 0 < m) (h1 : m < 18446744073709551616) : IntKind.u64.wrap (IntKind.u64.wrap m - 1) = m - 1 := by
  rw [IntKind.wrap_u64, IntKind.wrap_u64]
  omega
theorem less1_range (m : Int) (h0 : 0 < m) (h1 : m < 18446744073709551616) : 0 ≤ m - 1 ∧ m - 1 < 18446744073709551616 := by omega
theorem toNat_less1 (m : Int) (n : Nat) (h : m = n) (h0 : 0 < n) : (m - 1).toNat = n - 1 := by omega
theorem shl1_mask (k : Nat) (hk : k < 64) (v : Int) (h0 : 0 ≤ v) (h1 : v < 18446744073709551616) :
    bits .and .u64 v (IntKind.u64.wrap (IntKind.u64.wrap (2 ^ k) - 1)) = v % 2 ^ k := by
  have ⟨hp0, hp⟩ := pow_lt_u64 k hk
  have hr := less1_range _ hp0 hp
  rw [wrap_less1 _ hp0 hp, u64_and _ _ h0 h1 hr.1 hr.2, toNat_less1 (2 ^ k) (2 ^ k) (by rw [Int.natCast_pow]; rfl) (Nat.two_pow_pos k), Nat.and_two_pow_sub_one_eq_mod]
  obtain ⟨n, rfl⟩ := Int.eq_ofNat_of_zero_le h0
  rw [Int.toNat_natCast, Int.natCast_emod, Int.natCast_pow]
  rfl

theorem two64 (x : Int) (h0 : 0 ≤ x) (h1 : x < 18446744073709551616) : x % 2 ^ 64 = x ∧ x / 2 ^ 64 = 0 := by omega
theorem bitsOf_zero (hi : Bool) (x : Int) : bitsOf hi x 0 = [] := rfl
theorem mod_pow_range (x : Int) (k : Nat) (h0 : 0 ≤ x) (h1 : x < 18446744073709551616) : 0 ≤ x % 2 ^ k ∧ x % 2 ^ k < 18446744073709551616 := by
  have hp : (0 : Int) < 2 ^ k := Int.pow_pos (by decide)
  refine ⟨Int.emod_nonneg _ (by omega), ?_⟩
  obtain ⟨n, rfl⟩ := Int.eq_ofNat_of_zero_le h0
  have h2 : ((n % 2 ^ k : Nat) : Int) = (n : Int) % 2 ^ k := by rw [Int.natCast_emod, Int.natCast_pow]; rfl
  rw [← h2]
  have := Nat.mod_le n (2 ^ k)
  omega
theorem top_fits (x : Int) (k : Nat) (hk : k ≤ 64) (h0 : 0 ≤ x) (h1 : x < 18446744073709551616) : x / 2 ^ k / 2 ^ (64 - k) = 0 := by
  rw [Int.ediv_ediv_of_nonneg (Int.le_of_lt (Int.pow_pos (by decide))), ← Int.pow_add, show k + (64 - k) = 64 from by omega]
  exact (two64 x h0 h1).2
theorem low_fits (x : Int) (k : Nat) : x % 2 ^ k / 2 ^ k = 0 :=
  Int.ediv_eq_zero_of_lt (Int.emod_nonneg _ (Int.ne_of_gt (Int.pow_pos (by decide)))) (Int.emod_lt_of_pos _ (Int.pow_pos (by decide)))

set_option maxHeartbeats 2000000 in
theorem walkBitsParts (W : World) (x0 : Bool) (x1 : Int) (_h1 : (Lit.int .u64 x1).wf = true) (x2 : Int) (_h2 : (Lit.int .i64 x2).wf = true) :
    Calls Try.prog 3 #[.bool x0, .int .u64 x1, .int .i64 x2] W fun e w' => e = .returned (.bool true) ∧ Below W.heap.size W w' := by
  obtain ⟨hx0, hx1⟩ := wf_u64 _h1
  have hr2 := wf_i64 _h2
  clear _h1 _h2
  obtain ⟨k, hk, hkk⟩ : ∃ k : Nat, k ≤ 64 ∧ (x2.tmod 65 + 65).tmod 65 = (k : Int) := by
    have h1 : -65 < x2.tmod 65 := by have := Int.lt_tmod_of_pos x2 (show (0:Int) < 65 by decide); omega
    have h2 : x2.tmod 65 < 65 := Int.tmod_lt_of_pos _ (by decide)
    have h3 : 0 ≤ (x2.tmod 65 + 65).tmod 65 := Int.tmod_nonneg _ (by omega)
    have h4 : (x2.tmod 65 + 65).tmod 65 < 65 := Int.tmod_lt_of_pos _ (by decide)
    exact ⟨_, by omega, (Int.toNat_of_nonneg h3).symm⟩
  have h65 : 0 ≤ x2.tmod 65 + 65 ∧ x2.tmod 65 + 65 < 200 := by
    have h1 : -65 < x2.tmod 65 := by have := Int.lt_tmod_of_pos x2 (show (0:Int) < 65 by decide); omega
    have h2 : x2.tmod 65 < 65 := Int.tmod_lt_of_pos _ (by decide)
    omega
  obtain ⟨ht0, ht1⟩ := div_pow_range x1 k hx0 hx1
  obtain ⟨hl0, hl1⟩ := mod_pow_range x1 k hx0 hx1
  have HP := Lib.hid (bitsOf_parts x0 x1 k hk hx0 hx1)
  have HT := Lib.hid (top_fits x1 k hk hx0 hx1)
  have HL := Lib.hid (low_fits x1 k)
  go_enter Try.func3, Try.ntmps3
  go_wp2_with fail
  refine (new_any _ x0).mono ?_
  rintro e wA ⟨rfl, HA, KA⟩
  go_wp2_with fail
  refine (new_any _ x0).mono ?_
  rintro e w1 ⟨rfl, HW1, HK1⟩
  go_wp2_with fail
  have hA := HA.keep HK1 (fun h => h.elim) (fun _ _ h => h.elim)
  have hlt : W.heap.size < wA.heap.size := blk_lt HA.2.1
  refine (put_yes w1 W.heap.size x0 _ [] x1 64 hA hx0 hx1 (by omega) (.inl rfl) (by simp)).mono ?_
  rintro e w2 ⟨rfl, vA, HA2, KA2⟩
  have hne : wA.heap.size ≠ W.heap.size := Nat.ne_of_gt hlt
  obtain ⟨hB, hap⟩ := HW1.step hA hne (Apart.nil _ 0 0) KA2
  obtain ⟨KAll, hfA⟩ := KA2.far (KA.trans HK1 (fun _ _ h => h)) (Nat.le_refl _) (Far.nil _ 0 0)
  clear HA HW1 hA KA HK1 KA2
  by_cases h64 : k < 64
  · have hm := shl1_mask k h64 x1 hx0 hx1
    cases x0
    · go_wp2_with fail
      refine (put_yes w2 wA.heap.size _ _ [] (x1 % 2 ^ k) (k) hB (by first | omega | exact hl0 | exact ht0) (by first | omega | exact hl1 | exact ht1) (by omega) (.inr HL.out) (by simp)).mono ?_
      rintro e w3 ⟨rfl, vB, HB3, KB3⟩
      obtain ⟨HA3, hap3⟩ := HA2.step hB hne.symm hap.symm KB3
      obtain ⟨K3, hf3⟩ := KB3.far KAll (Nat.le_of_lt hlt) (Far.nil _ 0 0)
      clear HA2 hB KB3 KAll
      go_wp2_with fail
      rw [show (64 : Int) - k = ((64 - k : Nat) : Int) by omega]
      refine (put_yes w3 wA.heap.size _ vB _ (x1 / 2 ^ k) (64 - k) HB3 (by first | omega | exact hl0 | exact ht0) (by first | omega | exact hl1 | exact ht1) (by omega) (.inr HT.out) (by simp [bitsOf] <;> omega)).mono ?_
      rintro e w4 ⟨rfl, vC, HB4, KB4⟩
      have hE : bitsOf false x1 64 = [] ++ bitsOf false (x1 % 2 ^ k) (k) ++ bitsOf false (x1 / 2 ^ k) (64 - k) := by rw [HP.out]; rfl
      rw [← hE] at HB4
      obtain ⟨HA4, hap4⟩ := HA3.step HB3 hne.symm hap3 KB4
      obtain ⟨K4, hf4⟩ := KB4.far K3 (Nat.le_of_lt hlt) hf3
      clear HA3 HB3 KB4 K3
      rw [List.nil_append] at HA4
      have hl64 : (bitsOf false x1 64).length = 64 := by simp [bitsOf]
      clear hE HP HT HL
      generalize bitsOf false x1 64 = L at *
      have hcv := fun (w : World) (b n c : Nat) (A : Option Addr) (xs : List Int) => @run_str Try.prog w b n 5 29 9 5 A c xs Try.underlying29 rfl rfl
      go_wp2_with fail
      refine wp_region_hold Grow Grow.refl Grow.trans [14, 17] [(0, [0, 1, 2, 3, 4, 5, 6, 7]), (2, [8]), (0, [9, 10, 11, 12, 15]), (2, [13]), (1, [14]), (2, [16]), (1, [17]), (0, [18, 19, 20])] [(0, [?o0, ?o1, ?o2, ?o3, ?o4, ?o5, ?o6, ?o7]), (2, [?o8]), (0, [?o9, ?o10, ?o11, ?o12, ?o15]), (2, [?o13]), (1, [?o14]), (2, [?o16]), (1, [?o17]), (0, [?o18, ?o19, ?o20])] [?o0, ?o1, ?o2, ?o3, ?o4, ?o5, ?o6, ?o7, ?o8, ?o9, ?o10, ?o11, ?o12, ?o13, ?o14, ?o15, ?o16, ?o17, ?o18, ?o19, ?o20] (by kernel_rfl) (by kernel_rfl) (by kernel_rfl) ?_
      refine seg_calm ?_
      go_wp2_with fail
      refine seg_call ?_
      go_wp2_with fail
      have HA5 : Wr w4.drew W.heap.size _ vA L := HA4
      have HB5 : Wr w4.drew wA.heap.size _ vC L := HB4
      have K5 : Keeps (fun _ => False) W w4.drew := K4.drew
      clear HA4 HB4 K4
      generalize w4.drew = w5 at *
      refine (len_any _ W.heap.size _ vA _ HA5).mono ?_
      rintro e w6 ⟨rfl, rfl⟩
      rw [hl64]
      go_wp2_with fail
      refine ⟨Grow.refl _, ?_⟩
      refine seg_calm ?_
      go_wp2_with fail
      refine seg_call ?_
      go_wp2_with fail
      refine (bytes_any _ W.heap.size _ vA _ HA5 (by rw [hl64]; omega)).mono ?_
      rintro e w6 ⟨A1, c1, rfl, ho1, hk1⟩
      rw [show (L.length + 7) / 8 = 8 by omega] at ho1
      go_wp2_with fail
      refine ⟨hk1, ?_⟩
      refine seg_held (by kernel_rfl) _ (fun w7 hk7 => held_convert rfl (run_str Try.underlying29 Try.underlying5 Try.underlying9 (owns_keep ho1 hk7 (fun _ _ h => h)))) ?_
      refine seg_call ?_
      go_wp2_with fail
      refine (bytes_any _ wA.heap.size _ vC _ (HB5.keep hk1 (fun h => h) (fun _ _ h => h)) (by rw [hl64]; omega)).mono ?_
      rintro e w8 ⟨A2, c2, rfl, ho2, hk2⟩
      rw [show (L.length + 7) / 8 = 8 by omega] at ho2
      go_wp2_with fail
      refine ⟨hk2, ?_⟩
      refine seg_held (by kernel_rfl) _ (fun w7 hk7 => held_convert rfl (run_str Try.underlying29 Try.underlying5 Try.underlying9 (owns_keep ho2 hk7 (fun _ _ h => h)))) ?_
      refine seg_calm ?_
      go_wp2_with fail
      refine seg_end ⟨by kernel_rfl, ?_⟩
      go_wp2_with fail
      go_ret
      exact ⟨rfl, Keeps.below ((K5.trans hk1 (fun _ _ h => h)).trans hk2 (fun _ _ h => h)) (fun _ _ h => h) (Nat.le_refl _)⟩
    · go_wp2_with fail
      rw [show (64 : Int) - k = ((64 - k : Nat) : Int) by omega]
      refine (put_yes w2 wA.heap.size _ _ [] (x1 / 2 ^ k) (64 - k) hB (by first | omega | exact hl0 | exact ht0) (by first | omega | exact hl1 | exact ht1) (by omega) (.inr HT.out) (by simp)).mono ?_
      rintro e w3 ⟨rfl, vB, HB3, KB3⟩
      obtain ⟨HA3, hap3⟩ := HA2.step hB hne.symm hap.symm KB3
      obtain ⟨K3, hf3⟩ := KB3.far KAll (Nat.le_of_lt hlt) (Far.nil _ 0 0)
      clear HA2 hB KB3 KAll
      go_wp2_with fail
      refine (put_yes w3 wA.heap.size _ vB _ (x1 % 2 ^ k) (k) HB3 (by first | omega | exact hl0 | exact ht0) (by first | omega | exact hl1 | exact ht1) (by omega) (.inr HL.out) (by simp [bitsOf] <;> omega)).mono ?_
      rintro e w4 ⟨rfl, vC, HB4, KB4⟩
      have hE : bitsOf true x1 64 = [] ++ bitsOf true (x1 / 2 ^ k) (64 - k) ++ bitsOf true (x1 % 2 ^ k) (k) := by rw [HP.out]; rfl
      rw [← hE] at HB4
      obtain ⟨HA4, hap4⟩ := HA3.step HB3 hne.symm hap3 KB4
      obtain ⟨K4, hf4⟩ := KB4.far K3 (Nat.le_of_lt hlt) hf3
      clear HA3 HB3 KB4 K3
      rw [List.nil_append] at HA4
      have hl64 : (bitsOf true x1 64).length = 64 := by simp [bitsOf]
      clear hE HP HT HL
      generalize bitsOf true x1 64 = L at *
      have hcv := fun (w : World) (b n c : Nat) (A : Option Addr) (xs : List Int) => @run_str Try.prog w b n 5 29 9 5 A c xs Try.underlying29 rfl rfl
      go_wp2_with fail
      refine wp_region_hold Grow Grow.refl Grow.trans [14, 17] [(0, [0, 1, 2, 3, 4, 5, 6, 7]), (2, [8]), (0, [9, 10, 11, 12, 15]), (2, [13]), (1, [14]), (2, [16]), (1, [17]), (0, [18, 19, 20])] [(0, [?o0, ?o1, ?o2, ?o3, ?o4, ?o5, ?o6, ?o7]), (2, [?o8]), (0, [?o9, ?o10, ?o11, ?o12, ?o15]), (2, [?o13]), (1, [?o14]), (2, [?o16]), (1, [?o17]), (0, [?o18, ?o19, ?o20])] [?o0, ?o1, ?o2, ?o3, ?o4, ?o5, ?o6, ?o7, ?o8, ?o9, ?o10, ?o11, ?o12, ?o13, ?o14, ?o15, ?o16, ?o17, ?o18, ?o19, ?o20] (by kernel_rfl) (by kernel_rfl) (by kernel_rfl) ?_
      refine seg_calm ?_
      go_wp2_with fail
      refine seg_call ?_
      go_wp2_with fail
      have HA5 : Wr w4.drew W.heap.size _ vA L := HA4
      have HB5 : Wr w4.drew wA.heap.size _ vC L := HB4
      have K5 : Keeps (fun _ => False) W w4.drew := K4.drew
      clear HA4 HB4 K4
      generalize w4.drew = w5 at *
      refine (len_any _ W.heap.size _ vA _ HA5).mono ?_
      rintro e w6 ⟨rfl, rfl⟩
      rw [hl64]
      go_wp2_with fail
      refine ⟨Grow.refl _, ?_⟩
      refine seg_calm ?_
      go_wp2_with fail
      refine seg_call ?_
      go_wp2_with fail
      refine (bytes_any _ W.heap.size _ vA _ HA5 (by rw [hl64]; omega)).mono ?_
      rintro e w6 ⟨A1, c1, rfl, ho1, hk1⟩
      rw [show (L.length + 7) / 8 = 8 by omega] at ho1
      go_wp2_with fail
      refine ⟨hk1, ?_⟩
      refine seg_held (by kernel_rfl) _ (fun w7 hk7 => held_convert rfl (run_str Try.underlying29 Try.underlying5 Try.underlying9 (owns_keep ho1 hk7 (fun _ _ h => h)))) ?_
      refine seg_call ?_
      go_wp2_with fail
      refine (bytes_any _ wA.heap.size _ vC _ (HB5.keep hk1 (fun h => h) (fun _ _ h => h)) (by rw [hl64]; omega)).mono ?_
      rintro e w8 ⟨A2, c2, rfl, ho2, hk2⟩
      rw [show (L.length + 7) / 8 = 8 by omega] at ho2
      go_wp2_with fail
      refine ⟨hk2, ?_⟩
      refine seg_held (by kernel_rfl) _ (fun w7 hk7 => held_convert rfl (run_str Try.underlying29 Try.underlying5 Try.underlying9 (owns_keep ho2 hk7 (fun _ _ h => h)))) ?_
      refine seg_calm ?_
      go_wp2_with fail
      refine seg_end ⟨by kernel_rfl, ?_⟩
      go_wp2_with fail
      go_ret
      exact ⟨rfl, Keeps.below ((K5.trans hk1 (fun _ _ h => h)).trans hk2 (fun _ _ h => h)) (fun _ _ h => h) (Nat.le_refl _)⟩
  · obtain rfl : k = 64 := by omega
    cases x0
    · go_wp2_with fail
      refine (put_yes w2 wA.heap.size _ _ [] (x1) (64) hB (by first | omega | exact hl0 | exact ht0) (by first | omega | exact hl1 | exact ht1) (by omega) (.inl rfl) (by simp)).mono ?_
      rintro e w3 ⟨rfl, vB, HB3, KB3⟩
      obtain ⟨HA3, hap3⟩ := HA2.step hB hne.symm hap.symm KB3
      obtain ⟨K3, hf3⟩ := KB3.far KAll (Nat.le_of_lt hlt) (Far.nil _ 0 0)
      clear HA2 hB KB3 KAll
      go_wp2_with fail
      refine (put_yes w3 wA.heap.size _ vB _ (0) (0) HB3 (by first | omega | exact hl0 | exact ht0) (by first | omega | exact hl1 | exact ht1) (by omega) (.inr (by decide)) (by simp [bitsOf] <;> omega)).mono ?_
      rintro e w4 ⟨rfl, vC, HB4, KB4⟩
      have hE : bitsOf false x1 64 = [] ++ bitsOf false (x1) (64) ++ bitsOf false (0) (0) := by simp [bitsOf]
      rw [← hE] at HB4
      obtain ⟨HA4, hap4⟩ := HA3.step HB3 hne.symm hap3 KB4
      obtain ⟨K4, hf4⟩ := KB4.far K3 (Nat.le_of_lt hlt) hf3
      clear HA3 HB3 KB4 K3
      rw [List.nil_append] at HA4
      have hl64 : (bitsOf false x1 64).length = 64 := by simp [bitsOf]
      clear hE HP HT HL
      generalize bitsOf false x1 64 = L at *
      have hcv := fun (w : World) (b n c : Nat) (A : Option Addr) (xs : List Int) => @run_str Try.prog w b n 5 29 9 5 A c xs Try.underlying29 rfl rfl
      go_wp2_with fail
      refine wp_region_hold Grow Grow.refl Grow.trans [14, 17] [(0, [0, 1, 2, 3, 4, 5, 6, 7]), (2, [8]), (0, [9, 10, 11, 12, 15]), (2, [13]), (1, [14]), (2, [16]), (1, [17]), (0, [18, 19, 20])] [(0, [?o0, ?o1, ?o2, ?o3, ?o4, ?o5, ?o6, ?o7]), (2, [?o8]), (0, [?o9, ?o10, ?o11, ?o12, ?o15]), (2, [?o13]), (1, [?o14]), (2, [?o16]), (1, [?o17]), (0, [?o18, ?o19, ?o20])] [?o0, ?o1, ?o2, ?o3, ?o4, ?o5, ?o6, ?o7, ?o8, ?o9, ?o10, ?o11, ?o12, ?o13, ?o14, ?o15, ?o16, ?o17, ?o18, ?o19, ?o20] (by kernel_rfl) (by kernel_rfl) (by kernel_rfl) ?_
      refine seg_calm ?_
      go_wp2_with fail
      refine seg_call ?_
      go_wp2_with fail
      have HA5 : Wr w4.drew W.heap.size _ vA L := HA4
      have HB5 : Wr w4.drew wA.heap.size _ vC L := HB4
      have K5 : Keeps (fun _ => False) W w4.drew := K4.drew
      clear HA4 HB4 K4
      generalize w4.drew = w5 at *
      refine (len_any _ W.heap.size _ vA _ HA5).mono ?_
      rintro e w6 ⟨rfl, rfl⟩
      rw [hl64]
      go_wp2_with fail
      refine ⟨Grow.refl _, ?_⟩
      refine seg_calm ?_
      go_wp2_with fail
      refine seg_call ?_
      go_wp2_with fail
      refine (bytes_any _ W.heap.size _ vA _ HA5 (by rw [hl64]; omega)).mono ?_
      rintro e w6 ⟨A1, c1, rfl, ho1, hk1⟩
      rw [show (L.length + 7) / 8 = 8 by omega] at ho1
      go_wp2_with fail
      refine ⟨hk1, ?_⟩
      refine seg_held (by kernel_rfl) _ (fun w7 hk7 => held_convert rfl (run_str Try.underlying29 Try.underlying5 Try.underlying9 (owns_keep ho1 hk7 (fun _ _ h => h)))) ?_
      refine seg_call ?_
      go_wp2_with fail
      refine (bytes_any _ wA.heap.size _ vC _ (HB5.keep hk1 (fun h => h) (fun _ _ h => h)) (by rw [hl64]; omega)).mono ?_
      rintro e w8 ⟨A2, c2, rfl, ho2, hk2⟩
      rw [show (L.length + 7) / 8 = 8 by omega] at ho2
      go_wp2_with fail
      refine ⟨hk2, ?_⟩
      refine seg_held (by kernel_rfl) _ (fun w7 hk7 => held_convert rfl (run_str Try.underlying29 Try.underlying5 Try.underlying9 (owns_keep ho2 hk7 (fun _ _ h => h)))) ?_
      refine seg_calm ?_
      go_wp2_with fail
      refine seg_end ⟨by kernel_rfl, ?_⟩
      go_wp2_with fail
      go_ret
      exact ⟨rfl, Keeps.below ((K5.trans hk1 (fun _ _ h => h)).trans hk2 (fun _ _ h => h)) (fun _ _ h => h) (Nat.le_refl _)⟩
    · go_wp2_with fail
      refine (put_yes w2 wA.heap.size _ _ [] (0) (0) hB (by first | omega | exact hl0 | exact ht0) (by first | omega | exact hl1 | exact ht1) (by omega) (.inr (by decide)) (by simp)).mono ?_
      rintro e w3 ⟨rfl, vB, HB3, KB3⟩
      obtain ⟨HA3, hap3⟩ := HA2.step hB hne.symm hap.symm KB3
      obtain ⟨K3, hf3⟩ := KB3.far KAll (Nat.le_of_lt hlt) (Far.nil _ 0 0)
      clear HA2 hB KB3 KAll
      go_wp2_with fail
      refine (put_yes w3 wA.heap.size _ vB _ (x1) (64) HB3 (by first | omega | exact hl0 | exact ht0) (by first | omega | exact hl1 | exact ht1) (by omega) (.inl rfl) (by simp [bitsOf] <;> omega)).mono ?_
      rintro e w4 ⟨rfl, vC, HB4, KB4⟩
      have hE : bitsOf true x1 64 = [] ++ bitsOf true (0) (0) ++ bitsOf true (x1) (64) := by simp [bitsOf]
      rw [← hE] at HB4
      obtain ⟨HA4, hap4⟩ := HA3.step HB3 hne.symm hap3 KB4
      obtain ⟨K4, hf4⟩ := KB4.far K3 (Nat.le_of_lt hlt) hf3
      clear HA3 HB3 KB4 K3
      rw [List.nil_append] at HA4
      have hl64 : (bitsOf true x1 64).length = 64 := by simp [bitsOf]
      clear hE HP HT HL
      generalize bitsOf true x1 64 = L at *
      have hcv := fun (w : World) (b n c : Nat) (A : Option Addr) (xs : List Int) => @run_str Try.prog w b n 5 29 9 5 A c xs Try.underlying29 rfl rfl
      go_wp2_with fail
      refine wp_region_hold Grow Grow.refl Grow.trans [14, 17] [(0, [0, 1, 2, 3, 4, 5, 6, 7]), (2, [8]), (0, [9, 10, 11, 12, 15]), (2, [13]), (1, [14]), (2, [16]), (1, [17]), (0, [18, 19, 20])] [(0, [?o0, ?o1, ?o2, ?o3, ?o4, ?o5, ?o6, ?o7]), (2, [?o8]), (0, [?o9, ?o10, ?o11, ?o12, ?o15]), (2, [?o13]), (1, [?o14]), (2, [?o16]), (1, [?o17]), (0, [?o18, ?o19, ?o20])] [?o0, ?o1, ?o2, ?o3, ?o4, ?o5, ?o6, ?o7, ?o8, ?o9, ?o10, ?o11, ?o12, ?o13, ?o14, ?o15, ?o16, ?o17, ?o18, ?o19, ?o20] (by kernel_rfl) (by kernel_rfl) (by kernel_rfl) ?_
      refine seg_calm ?_
      go_wp2_with fail
      refine seg_call ?_
      go_wp2_with fail
      have HA5 : Wr w4.drew W.heap.size _ vA L := HA4
      have HB5 : Wr w4.drew wA.heap.size _ vC L := HB4
      have K5 : Keeps (fun _ => False) W w4.drew := K4.drew
      clear HA4 HB4 K4
      generalize w4.drew = w5 at *
      refine (len_any _ W.heap.size _ vA _ HA5).mono ?_
      rintro e w6 ⟨rfl, rfl⟩
      rw [hl64]
      go_wp2_with fail
      refine ⟨Grow.refl _, ?_⟩
      refine seg_calm ?_
      go_wp2_with fail
      refine seg_call ?_
      go_wp2_with fail
      refine (bytes_any _ W.heap.size _ vA _ HA5 (by rw [hl64]; omega)).mono ?_
      rintro e w6 ⟨A1, c1, rfl, ho1, hk1⟩
      rw [show (L.length + 7) / 8 = 8 by omega] at ho1
      go_wp2_with fail
      refine ⟨hk1, ?_⟩
      refine seg_held (by kernel_rfl) _ (fun w7 hk7 => held_convert rfl (run_str Try.underlying29 Try.underlying5 Try.underlying9 (owns_keep ho1 hk7 (fun _ _ h => h)))) ?_
      refine seg_call ?_
      go_wp2_with fail
      refine (bytes_any _ wA.heap.size _ vC _ (HB5.keep hk1 (fun h => h) (fun _ _ h => h)) (by rw [hl64]; omega)).mono ?_
      rintro e w8 ⟨A2, c2, rfl, ho2, hk2⟩
      rw [show (L.length + 7) / 8 = 8 by omega] at ho2
      go_wp2_with fail
      refine ⟨hk2, ?_⟩
      refine seg_held (by kernel_rfl) _ (fun w7 hk7 => held_convert rfl (run_str Try.underlying29 Try.underlying5 Try.underlying9 (owns_keep ho2 hk7 (fun _ _ h => h)))) ?_
      refine seg_calm ?_
      go_wp2_with fail
      refine seg_end ⟨by kernel_rfl, ?_⟩
      go_wp2_with fail
      go_ret
      exact ⟨rfl, Keeps.below ((K5.trans hk1 (fun _ _ h => h)).trans hk2 (fun _ _ h => h)) (fun _ _ h => h) (Nat.le_refl _)⟩
end Go.Proofs.Ytbggeilejdnaeaa
