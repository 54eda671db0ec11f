/- The law SumsTurned: the walk. -/
import Derived.Test.YtcackdcjepifpaaLinW
namespace Go.Proofs.Ytcackdcjepifpaa
open Go.RowKit
set_option linter.unusedVariables false
set_option linter.unusedSimpArgs false

theorem wf_place {x : Int} (h : (Lit.int .i64 x).wf = true) : -9223372036854775808 ≤ x ∧ x ≤ 9223372036854775807 := by
  simp [Lit.wf] at h
  have h1 : IntKind.i64.min = -9223372036854775808 := rfl
  have h2 : IntKind.i64.max = 9223372036854775807 := rfl
  omega
theorem crc_nothing : not32 (crcAll 3988292384 (not32 0) []) = 0 := by decide +kernel
theorem adler_nothing : adSum 1 [] = 1 := by decide +kernel

/-- The bit that is turned lies in the text. -/
theorem place_in (x : Int) (n : Nat) (hn : 0 < n) (hx : n ≤ 140737488351232) : ∃ k : Nat, (wrap64 (x.tmod (8 * (n : Int)) + 8 * (n : Int))).tmod (8 * (n : Int)) = (k : Int) ∧ k < 8 * n := by
  have h1 : -(8 * (n : Int)) < x.tmod (8 * (n : Int)) ∧ x.tmod (8 * (n : Int)) < 8 * (n : Int) := by
    have h3 := Int.natAbs_tmod x (8 * (n : Int))
    have h4 : x.natAbs % (8 * (n : Int)).natAbs < (8 * (n : Int)).natAbs := Nat.mod_lt _ (by omega)
    rw [← h3] at h4
    omega
  generalize x.tmod (8 * (n : Int)) = t at *
  have hw : wrap64 (t + 8 * (n : Int)) = t + 8 * (n : Int) := IntWalk.wrap64_in _ ⟨by omega, by omega⟩
  rw [hw]
  have h0 : 0 ≤ t + 8 * (n : Int) := by omega
  rw [Int.tmod_eq_emod_of_nonneg h0]
  have h2 := Int.emod_nonneg (t + 8 * (n : Int)) (show (8 * (n : Int)) ≠ 0 by omega)
  have h3 := Int.emod_lt_of_pos (t + 8 * (n : Int)) (show 0 < (8 * (n : Int)) by omega)
  exact ⟨((t + 8 * (n : Int)) % (8 * (n : Int))).toNat, by omega, by omega⟩

set_option maxRecDepth 4000 in
set_option maxHeartbeats 2000000 in
theorem walkSumsTurned (W : World) (a0 : Option Addr) (c0 : Nat) (x0 : List (Int)) (_h0 : Sh.Rd W (.sl 1 (.int .u8)) [.slice a0 x0.length c0] x0) (x1 : Int) (_h1 : (Lit.int .i64 x1).wf = true) :
    Calls Try.prog 5 #[.slice a0 x0.length c0, .int .i64 x1] W fun e w' => e = .returned (.bool true) ∧ Below W.heap.size W w' := by
  obtain ⟨hsrc, b0, hl0, hr0, hm0⟩ := rd_bytes _h0
  have hp := wf_place _h1
  clear _h0 _h1
  generalize x0.map Int.toNat = xs at *
  subst hm0
  simp only [List.length_map, List.map_map] at *
  generalize hn : xs.length = n at *
  have HB := Lib.hid b0
  have HN := Lib.hid hn
  have HSRC := Lib.hid hsrc
  clear b0 hn hr0 hsrc
  by_cases hz : n = 0
  · subst hz
    have hx : xs = [] := List.eq_nil_of_length_eq_zero HN.out
    subst hx
    have C := Lib.hid fun w h => crc32_is w 0 a0 0 c0 [] (by decide) h (by decide)
    have D := Lib.hid fun w h => adler_is w 1 a0 0 c0 [] (by decide) h (by decide)
    rw [crc_nothing] at C
    rw [adler_nothing] at D
    go_enter Try.func5, Try.ntmps5
    go_wp2_with fail
    refine (C.out _ HB.out).mono ?_
    rintro e w1 ⟨rfl, k1⟩
    go_wp2_with fail
    refine (D.out w1 (HB.out.keep k1 (fun _ _ h => h))).mono ?_
    rintro e w2 ⟨rfl, rfl⟩
    go_wp2_with fail
    go_ret
    exact ⟨rfl, k1.below (fun _ _ h => h) (Nat.le_refl _)⟩
  · have hn0 : 0 < n := by omega
    obtain ⟨b, o, rfl, hcell⟩ := HB.out.2.2 hn0
    obtain ⟨k, hk, hk8⟩ := place_in x1 n hn0 hl0
    clear hcell hp
    go_enter Try.func5, Try.ntmps5
    have ho0 : (W.alloc (.cells #[] 5)).ownsRow 0 5 1 (.slice (some ⟨W.heap.size, 0, none⟩) 0 0) 0 [] := ⟨rfl, .inr ⟨W.heap.size, 0, #[], rfl, Nat.zero_le _, heap_alloc_new W _, Nat.le_refl _, Nat.zero_le _, rfl, rfl⟩⟩
    have HS1 : Hid (Src (W.alloc (.cells #[] 5)) 1 (some ⟨b, o, none⟩) n c0 (xs.map (Value.int .u8 ∘ fun n : Nat => (n : Int)))) := HSRC.out.keep ((Keeps.refl (fun _ => False) W).alloc _) (fun _ _ h => h)
    go_wp2_with (at_builtin; refine wpList_app rfl (.tmp 29) (.tmp 30) 29 5 rfl Try.underlying29 Try.infoU8 rfl (by decide) _ _ _ rfl ho0 ⟨b, o, none⟩ n c0 _ rfl HS1.out.1 (HS1.out.2.2.1 _ rfl) HS1.out.2.2.2 hn0 (by unfold maxLen; omega) (by omega) ?_)
    intro g cap w1 ho1 hg1 hw1
    (try simp only [Nat.zero_add, List.nil_append] at ho1)
    have hK1 : Grow W w1 := ((Keeps.refl (fun _ => False) W).alloc _).grown hg1 (fun k hk e => by simp [Value.ownBlock] at e; omega)
    have hgz : W.heap.size ≤ g := by rcases hw1 with e | e; (simp [Value.ownBlock] at e; omega); (first | omega | (simp at e; omega))
    clear hg1 hw1 ho0
    (try simp only [Nat.zero_add])
    obtain ⟨q, hq⟩ : ∃ q, q = k / 8 := ⟨_, rfl⟩
    obtain ⟨r, hr⟩ : ∃ r, r = k % 8 := ⟨_, rfl⟩
    have eq8 : (k : Int) / 8 = (q : Int) := by omega
    have er8 : (k : Int) % 8 = (r : Int) := by omega
    have hqn : q < n := by omega
    have hr8 : r < 8 := by omega
    have dc := ho1.cellAt q (by omega)
    have fr := ho1.frozenAt q
    have hxq : xs[q]? = some (xs.getD q 0) := by have := HN.out; rw [List.getElem?_eq_getElem (by omega), List.getD_eq_getElem?_getD, List.getElem?_eq_getElem (by omega)]; rfl
    rw [List.getElem?_map, hxq] at dc
    simp only [Option.map_some, Function.comp] at dc
    have hby := HB.out.byte q
    have CT := Lib.hid (crc_turned (not32 0) xs q (2 ^ r) (by have := HN.out; omega) (Nat.ne_of_gt (Nat.two_pow_pos r)) (Nat.lt_of_lt_of_le (Nat.pow_lt_pow_right (by decide) hr8) (by decide : 2 ^ 8 ≤ 256)))
    have DT := Lib.hid (high_turned (not32 0) xs q (2 ^ r) (by have := HN.out; omega) (Nat.ne_of_gt (Nat.two_pow_pos r)) (Nat.lt_of_lt_of_le (Nat.pow_lt_pow_right (by decide) hr8) (by decide : 2 ^ 8 ≤ 256)))
    have ET := Lib.hid (wide_turned (not64 0) xs q (2 ^ r) (by have := HN.out; omega) (Nat.ne_of_gt (Nat.two_pow_pos r)) (Nat.lt_of_lt_of_le (Nat.pow_lt_pow_right (by decide) hr8) (by decide : 2 ^ 8 ≤ 256)))
    have hrp : 2 ^ r < 256 := Nat.lt_of_lt_of_le (Nat.pow_lt_pow_right (by decide) hr8) (by decide : 2 ^ 8 ≤ 256)
    have hxl : xs.getD q 0 ^^^ 2 ^ r < 256 := Nat.xor_lt_two_pow (n := 8) hby hrp
    have e8 : bits .xor .u8 ((xs.getD q 0 : Nat) : Int) ((2 : Int) ^ r % 256) = ((xs.getD q 0 ^^^ 2 ^ r : Nat) : Int) := by
      have e2 : (2 : Int) ^ r % 256 = ((2 ^ r : Nat) : Int) := by rw [Int.natCast_pow]; exact Int.emod_eq_of_lt (Int.pow_nonneg (by decide)) (by have := hrp; rw [show (2 : Int) ^ r = ((2 ^ r : Nat) : Int) from by rw [Int.natCast_pow]; rfl]; omega)
      rw [e2]
      have := u8_xor ((xs.getD q 0 : Nat) : Int) ((2 ^ r : Nat) : Int) (by omega) (by omega) (by omega) (by omega)
      rwa [Int.toNat_natCast, Int.toNat_natCast] at this
    have hst := (ho1.stored q (.int .u8 ((xs.getD q 0 ^^^ 2 ^ r : Nat) : Int))).1
    rw [show (xs.map (Value.int .u8 ∘ fun n : Nat => (n : Int))).set q (.int .u8 ((xs.getD q 0 ^^^ 2 ^ r : Nat) : Int)) = (xs.set q (xs.getD q 0 ^^^ 2 ^ r)).map (fun k : Nat => Value.int .u8 k) from by rw [List.map_set]; rfl] at hst
    have hys : ∀ x ∈ xs.set q (xs.getD q 0 ^^^ 2 ^ r), x < 256 := fun x hx => by
      rcases List.mem_or_eq_of_mem_set hx with h | h
      · exact HB.out.2.1 x h
      · rw [h]; exact hxl
    generalize xs.set q (xs.getD q 0 ^^^ 2 ^ r) = ys at *
    generalize xs.getD q 0 ^^^ 2 ^ r = z at *
    generalize xs.getD q 0 = y at *
    have HYB := Lib.hid (Bs.of_own hst hys)
    have hKS : Grow W (w1.setCell ⟨g, q, none⟩ (.int .u8 (z : Int))) := hK1.setCell (p := ⟨g, q, none⟩) (fun h => absurd h (Nat.not_lt.2 hgz)) _
    have HKS := Lib.hid hKS
    clear hst hys hKS hK1 ho1 hby hxl hrp
    clear hk8 hq hr hxq
    have hq' : (q : Int) < n := by omega
    have hw2 : ∃ w2, w2 = w1.setCell ⟨g, q, none⟩ (.int .u8 (z : Int)) := ⟨_, rfl⟩
    obtain ⟨w2, hw2⟩ := hw2
    rw [← hw2] at HYB HKS
    have CA := Lib.hid fun (w : World) (h : Mark W.heap.size W w) => crc32_is w 0 _ _ c0 _ (by decide) (HB.out.mark h) (by omega)
    have CB := Lib.hid fun (w : World) (h : Mark W.heap.size w2 w) => crc32_is w 0 _ _ cap _ (by decide) (HYB.out.mark h) (by omega)
    have DA := Lib.hid fun (w : World) (h : Mark W.heap.size W w) => crcHigh_is w 0 _ _ c0 _ (by decide) (HB.out.mark h) (by omega)
    have DB := Lib.hid fun (w : World) (h : Mark W.heap.size w2 w) => crcHigh_is w 0 _ _ cap _ (by decide) (HYB.out.mark h) (by omega)
    have EA := Lib.hid fun (w : World) (h : Mark W.heap.size W w) => crc64_is w 0 _ _ c0 _ (by decide) (HB.out.mark h) (by omega)
    have EB := Lib.hid fun (w : World) (h : Mark W.heap.size w2 w) => crc64_is w 0 _ _ cap _ (by decide) (HYB.out.mark h) (by omega)
    have E9 : Hid (∀ (w : World) (A : Option Addr), Bs w A 9 [49, 50, 51, 52, 53, 54, 55, 56, 57] → Calls Try.prog 10 #[.int .u32 0, .slice A 9 9] w fun e w' => e = .returned (.int .u32 3421780262) ∧ Grow w w') := fun w A h => by
        have := crc32_is w 0 A 9 9 _ (by decide) h (by decide)
        rw [nine_low] at this
        exact this
    generalize not32 (crcAll 3988292384 (not32 0) xs) = v0 at *
    generalize not32 (crcAll 3988292384 (not32 0) ys) = v1 at *
    generalize not32 (crcHi 79764919 (not32 0) xs) = u0 at *
    generalize not32 (crcHi 79764919 (not32 0) ys) = u1 at *
    generalize not64 (crcAll 14514072000185962306 (not64 0) xs) = t0 at *
    generalize not64 (crcAll 14514072000185962306 (not64 0) ys) = t1 at *
    have ct : ((v0 : Int) == v1) = false := by have := CT.out; rw [beq_eq_false_iff_ne]; omega
    have dt : ((u0 : Int) == u1) = false := by have := DT.out; rw [beq_eq_false_iff_ne]; omega
    have et : ((t0 : Int) == t1) = false := by have := ET.out; rw [beq_eq_false_iff_ne]; omega
    have ct' : ((v0 : Int) != v1) = true := by rw [bne, ct]; rfl
    have dt' : ((u0 : Int) != u1) = true := by rw [bne, dt]; rfl
    have et' : ((t0 : Int) != t1) = true := by rw [bne, et]; rfl
    clear CT DT ET
    have HW2 := Lib.hid hw2
    clear hw2
    have KW : Mark W.heap.size W w2 := Mark.of_grow HKS.out
    have KR : Mark W.heap.size w2 w2 := Mark.refl w2
    have kc := fun (w : World) (C : Array Value) (n c : Nat) => Lib.run_convert_bytes_const (P := Try.prog) w 29 5 C n c Try.underlying29 Try.underlying5
    go_upto_region 7 with fail
    rw [← HW2.out]
    go_wp2_with fail
    refine (CA.out _ KW).mono ?_
    rintro e w3 ⟨rfl, q3⟩
    replace KW := KW.trans (Mark.of_grow (B := W.heap.size) q3)
    replace KR := KR.trans (Mark.of_grow (B := W.heap.size) q3)
    clear q3
    go_wp2_with fail
    refine (CB.out _ KR).mono ?_
    rintro e w3 ⟨rfl, q3⟩
    replace KW := KW.trans (Mark.of_grow (B := W.heap.size) q3)
    replace KR := KR.trans (Mark.of_grow (B := W.heap.size) q3)
    clear q3
    go_wp2_with fail
    refine (DA.out _ KW).mono ?_
    rintro e w3 ⟨rfl, q3⟩
    replace KW := KW.trans (Mark.of_grow (B := W.heap.size) q3)
    replace KR := KR.trans (Mark.of_grow (B := W.heap.size) q3)
    clear q3
    go_wp2_with fail
    refine (DB.out _ KR).mono ?_
    rintro e w3 ⟨rfl, q3⟩
    replace KW := KW.trans (Mark.of_grow (B := W.heap.size) q3)
    replace KR := KR.trans (Mark.of_grow (B := W.heap.size) q3)
    clear q3
    go_wp2_with fail
    refine (EA.out _ KW).mono ?_
    rintro e w3 ⟨rfl, q3⟩
    replace KW := KW.trans (Mark.of_grow (B := W.heap.size) q3)
    replace KR := KR.trans (Mark.of_grow (B := W.heap.size) q3)
    clear q3
    go_wp2_with fail
    refine (EB.out _ KR).mono ?_
    rintro e w3 ⟨rfl, q3⟩
    replace KW := KW.trans (Mark.of_grow (B := W.heap.size) q3)
    replace KR := KR.trans (Mark.of_grow (B := W.heap.size) q3)
    clear q3
    go_wp2_with fail
    have hL9 : Bs (w3.alloc (.cells #[.int .u8 49, .int .u8 50, .int .u8 51, .int .u8 52, .int .u8 53, .int .u8 54, .int .u8 55, .int .u8 56, .int .u8 57] 5 (9, 10))) (some ⟨w3.heap.size, 0, none⟩) 9 [49, 50, 51, 52, 53, 54, 55, 56, 57] :=
      Lit8.bs (B := 0) (e := 5) (n := 9) (c := 9) ⟨w3.heap.size, (9, 10), rfl, Nat.zero_le _, heap_alloc_new w3 _⟩ (by decide)
    refine (E9.out _ _ hL9).mono ?_
    rintro e w4 ⟨rfl, q4⟩
    replace KW := (KW.alloc _).trans (Mark.of_grow (B := W.heap.size) q4)
    clear hL9 q4
    go_wp2_with fail
    go_ret
    exact ⟨rfl, KW.below⟩
end Go.Proofs.Ytcackdcjepifpaa
