/- volume: a head's bytes. -/
import Derived.Test.YtnjdhkaabpmahaaLay
import Derived.Test.YtnjdhkaabpmahaaCrcAlong
import Derived.Test.YtnjdhkaabpmahaaChk
import Derived.Test.YtnjdhkaabpmahaaGenA
namespace Go.Proofs.Ytnjdhkaabpmahaa
open Go.RowKit
set_option linter.unusedVariables false
set_option linter.unusedSimpArgs false

theorem vlow_is (w : World) (A : Option Addr) (m c v n : Nat) (xs : List Int) (h : Nums .u8 w A m c xs) (hm : m ≤ 1048576) (hn1 : 1 ≤ n) (hn8 : n ≤ 8) (hv : v < 256 ^ n) :
    Calls Try.prog 39 #[.slice A m c, .int .u64 (v : Nat), .int .i64 (n : Nat)] w fun e w' => ∃ A' c', e = .returned (.slice A' (m + n) c') ∧ w'.ownsRow w.heap.size 5 1 (.slice A' (m + n) c') (m + n) ((xs ++ leN v n).map (Value.int .u8)) ∧ Grow w w' := by
  have H := Lib.hid (lay_is w A m c v n xs h hm hn1 hn8 hv)
  clear h hm hn1 hn8 hv
  go_enter Try.func39, Try.ntmps39
  go_wp2_with fail
  refine H.out.mono ?_
  rintro x w1 ⟨A', c', rfl, ho, hg⟩
  have HO := Lib.hid ho
  have HG := Lib.hid hg
  clear ho hg H
  go_wp2_with fail
  go_ret
  exact ⟨A', c', rfl, HO.out, HG.out⟩
theorem nums_mark {k : IntKind} {B : Nat} {w w' : World} {A : Option Addr} {n c : Nat} {xs : List Int} (h : Nums k w A n c xs) (q : Mark B w w') : Nums k w' A n c xs :=
  ⟨h.len, h.rng, h.cap, h.nil, fun hn => by
    obtain ⟨b, o, e, hc⟩ := h.at_ hn
    exact ⟨b, o, e, fun j hj => q.cellOf (hc j hj)⟩⟩
theorem lit_nums {B e g : Nat} {w : World} (h : Lit8 B e [72, 86, 79, 76] (.slice (some ⟨g, 0, none⟩) 4 4) w) : Nums .u8 w (some ⟨g, 0, none⟩) 4 4 [72, 86, 79, 76] :=
  ⟨rfl, fun x hx => by simp at hx; rcases hx with rfl | rfl | rfl | rfl <;> exact ⟨by decide, by decide⟩, by decide, fun h => (by cases h), fun _ => ⟨g, 0, rfl, fun j hj => by
    have h9 := h.cellAt j hj
    rw [Nat.zero_add, h9]
    rcases (show j = 0 ∨ j = 1 ∨ j = 2 ∨ j = 3 by omega) with rfl | rfl | rfl | rfl <;> rfl⟩⟩
theorem bs_of_nums {w : World} {A : Option Addr} {n c : Nat} {xs : List Int} (h : Nums .u8 w A n c xs) : Bs w A n (xs.map Int.toNat) :=
  ⟨by rw [List.length_map, h.len], fun x hx => by
    obtain ⟨y, hy, rfl⟩ := List.mem_map.1 hx
    have h1 : (0 : Int) ≤ y ∧ y ≤ 255 := h.rng y hy
    omega, fun hn => by
    obtain ⟨b, o, e, hc⟩ := h.at_ hn
    refine ⟨b, o, e, fun j hj => ?_⟩
    rw [hc j hj]
    have h1 := h.byte j
    have h2 : (xs.map Int.toNat).getD j 0 = (xs.getD j 0).toNat := by simp [List.getD_eq_getElem?_getD]; cases xs[j]? <;> rfl
    rw [h2, Int.toNat_of_nonneg h1.1]⟩
theorem crc32_is (w : World) (a : Nat) (A : Option Addr) (n c : Nat) (xs : List Nat) (ha : a < 4294967296) (h : Bs w A n xs) (hn : n ≤ 140737488355328) :
    Calls Try.prog 18 #[.int .u32 (a : Nat), .slice A n c] w fun e w' => e = .returned (.int .u32 (not32 (crcAll 3988292384 (not32 a) xs) : Nat)) ∧ Grow w w' := by
  have H := Lib.hid (along_is w a A n c xs ha h hn)
  clear ha h hn
  obtain ⟨S, hS⟩ : ∃ S, S = not32 (crcAll 3988292384 (not32 a) xs) := ⟨_, rfl⟩
  rw [← hS] at H ⊢
  clear hS
  go_enter Try.func18, Try.ntmps18
  go_wp2_with fail
  refine H.out.mono ?_
  rintro x w1 ⟨rfl, hg⟩
  have HG := Lib.hid hg
  clear hg H
  go_wp2_with fail
  go_ret
  exact ⟨rfl, HG.out⟩
/-- The head ahead of its sum. -/
def hd20 (num cnt all sum : Nat) : List Int := [72, 86, 79, 76] ++ leN num 2 ++ leN cnt 2 ++ leN all 8 ++ leN sum 4
set_option maxRecDepth 8000 in
set_option maxHeartbeats 4000000 in
theorem head_is (w : World) (num cnt all sum : Nat) (h1 : num < 65536) (h2 : cnt < 65536) (h3 : all < 9223372036854775808) (h4 : sum < 4294967296) :
    Calls Try.prog 26 #[.agg #[.int .i64 (num : Nat), .int .i64 (cnt : Nat), .int .i64 (all : Nat), .int .u32 (sum : Nat)]] w fun e w' => ∃ A' c', e = .returned (.slice A' 24 c') ∧ w'.ownsRow w.heap.size 5 1 (.slice A' 24 c') 24 ((hd20 num cnt all sum ++ leN (not32 (crcAll 3988292384 (not32 0) ((hd20 num cnt all sum).map Int.toNat))) 4).map (Value.int .u8)) ∧ Grow w w' := by
  have h1i : (num : Int) < 65536 := by omega
  have h2i : (cnt : Int) < 65536 := by omega
  have h3i : (all : Int) < 9223372036854775808 := by omega
  have h4i : (sum : Int) < 4294967296 := by omega
  go_enter Try.func26, Try.ntmps26
  go_wp2_with fail
  have hb0 := heap_alloc_new w (.cells #[.int .i64 (num : Nat), .int .i64 (cnt : Nat), .int .i64 (all : Nat), .int .u32 (sum : Nat)] 49)
  have KW0 : Hid (Mark w.heap.size w (w.alloc (.cells #[.int .i64 (num : Nat), .int .i64 (cnt : Nat), .int .i64 (all : Nat), .int .u32 (sum : Nat)] 49)).drew) := ((Mark.refl w).alloc _).drew
  refine Hv.wp_region_hav (Mark w.heap.size) (fun _ => Lit8 w.heap.size 5 [72, 86, 79, 76]) (⟨Mark.refl, fun _ _ _ => Mark.trans, fun _ _ _ _ h k => h.mark k⟩) [3, 7] [0] [(0, [2, 6]), (1, [3]), (0, [4]), (1, [7]), (0, [8]), (3, [0]), (2, [1]), (2, [5]), (2, [9]), (0, [10])] [(0, 2, [?o2, ?o6]), (1, 3, [?o3]), (0, 4, [?o4]), (1, 7, [?o7]), (0, 8, [?o8]), (3, 0, [?o0]), (2, 1, [?o1]), (2, 5, [?o5]), (2, 9, [?o9]), (0, 10, [?o10])] [?o0, ?o1, ?o2, ?o3, ?o4, ?o5, ?o6, ?o7, ?o8, ?o9, ?o10] (by kernel_rfl) (by kernel_rfl) (by kernel_rfl) ?_
  have hbd : (w.alloc (.cells #[.int .i64 (num : Nat), .int .i64 (cnt : Nat), .int .i64 (all : Nat), .int .u32 (sum : Nat)] 49)).drew.heap[w.heap.size]? = some (.cells #[.int .i64 (num : Nat), .int .i64 (cnt : Nat), .int .i64 (all : Nat), .int .u32 (sum : Nat)] 49 (0, 0)) := hb0
  clear hb0
  generalize (w.alloc (.cells #[.int .i64 (num : Nat), .int .i64 (cnt : Nat), .int .i64 (all : Nat), .int .u32 (sum : Nat)] 49)).drew = wd at *
  obtain ⟨g, hg⟩ : ∃ g, g = w.heap.size := ⟨_, rfl⟩
  have HGE := Lib.hid hg
  have HD0 : Hid (∀ w2, Mark w.heap.size wd w2 → w2.cell? ⟨g, 0, none⟩ = some (.int .i64 (num : Nat))) := fun w2 k => by have h9 := blk_cell hbd 0; simp at h9; rw [← hg] at h9; exact k.cellOf h9
  have HD1 : Hid (∀ w2, Mark w.heap.size wd w2 → w2.cell? ⟨g, 1, none⟩ = some (.int .i64 (cnt : Nat))) := fun w2 k => by have h9 := blk_cell hbd 1; simp at h9; rw [← hg] at h9; exact k.cellOf h9
  have HD2 : Hid (∀ w2, Mark w.heap.size wd w2 → w2.cell? ⟨g, 2, none⟩ = some (.int .i64 (all : Nat))) := fun w2 k => by have h9 := blk_cell hbd 2; simp at h9; rw [← hg] at h9; exact k.cellOf h9
  have HD3 : Hid (∀ w2, Mark w.heap.size wd w2 → w2.cell? ⟨g, 3, none⟩ = some (.int .u32 (sum : Nat))) := fun w2 k => by have h9 := blk_cell hbd 3; simp at h9; rw [← hg] at h9; exact k.cellOf h9
  have HB : Hid (∀ b, b = w.heap.size → (⟨b, 0, none⟩ : Addr) = ⟨g, 0, none⟩) := fun b hb => by rw [hb, hg]
  rw [← hg]
  clear hbd hg
  refine Hv.seg_calm ?_
  go_wp2_with fail
  refine Hv.seg_held (by kernel_rfl) (.int .i64 (num : Nat)) (fun w7 hk7 => ?_) ?_
  · have c7 := HD0.out w7 (by rw [← HGE.out]; exact hk7)
    go_simp
  refine Hv.seg_calm ?_
  go_wp2_with fail
  refine Hv.seg_held (by kernel_rfl) (.int .i64 (cnt : Nat)) (fun w7 hk7 => ?_) ?_
  · have c7 := HD1.out w7 (by rw [← HGE.out]; exact hk7)
    go_simp
  refine Hv.seg_calm ?_
  go_wp2_with fail
  have KD : Mark g wd wd := Mark.refl wd
  refine Hv.seg_free (by kernel_rfl) KD ⟨4, rfl, by simp⟩ (fun w2 q2 => ?_) (fun v w3 q3 hV => ?_)
  · go_wp2_with fail
    exact ⟨_, rfl, (Mark.refl _).alloc _, Lit8.new _ _ [72, 86, 79, 76] w2 (by have := KW0.out.size; have := q2.size; have := HGE.out; omega)⟩
  obtain ⟨g4, f, rfl, hB, hA⟩ := hV
  refine Hv.seg_call (fun w2 q2 => ?_)
  have hL : Lit8 g 5 [72, 86, 79, 76] (.slice (some ⟨g4, 0, none⟩) 4 4) w2 := Lit8.mark ⟨g4, f, rfl, hB, hA⟩ q2
  have hm : (convert 24 24 (.slice (some ⟨g4, 0, none⟩) 4 4)).run Try.prog w2 = .ok (.slice (some ⟨g4, 0, none⟩) 4 4) (w2.freeze ⟨g4, 4, none⟩ 1) := by
    obtain ⟨g', f', e, _, hg⟩ := hL
    injection e with e _ _
    injection e with e
    injection e with e _
    subst e
    exact run_mark w2 _ _ _ f' 4 4 _ Try.underlying24 Try.underlying5 hg
  have q4 : Mark g w2 (w2.freeze ⟨g4, 4, none⟩ 1) := (Mark.refl w2).freeze hB 1
  have HNL := Lib.hid (lit_nums (hL.mark q4))
  have KA : Hid (Mark g wd (w2.freeze ⟨g4, 4, none⟩ 1)) := q3.trans (q2.trans q4)
  have Q4 := Lib.hid q4
  clear q4 hL hA q2 q3 KD
  generalize w2.freeze ⟨g4, 4, none⟩ 1 = w4 at *
  go_wp2_with fail
  refine ⟨Q4.out, ?_⟩
  clear hm Q4
  refine Hv.seg_call (fun w5 q5 => ?_)
  go_wp2_with fail
  refine (vlow_is w5 (some ⟨g4, 0, none⟩) 4 4 num 2 _ (nums_mark HNL.out q5) (by decide) (by decide) (by decide) h1).mono ?_
  rintro x w6 ⟨A6, c6, rfl, ho6, q6⟩
  have HN6 := Lib.hid (Nums.of_own (xs := [72, 86, 79, 76] ++ leN num 2) ho6 (fun x hx => by rcases List.mem_append.1 hx with h | h; exact HNL.out.rng x h; exact leN_rng _ _ x h))
  have KB : Hid (Mark g wd w6) := KA.out.trans (q5.trans (Mark.of_grow q6))
  have Q6 : Hid (Mark g w5 w6) := Mark.of_grow q6
  clear ho6 q6 q5 HNL KA
  go_wp2_with fail
  refine ⟨Q6.out, ?_⟩
  clear Q6
  refine Hv.seg_call (fun w7 q7 => ?_)
  go_wp2_with fail
  refine (vlow_is w7 A6 6 c6 cnt 2 _ (nums_mark HN6.out q7) (by decide) (by decide) (by decide) h2).mono ?_
  rintro x w8 ⟨A8, c8, rfl, ho8, q8⟩
  have HN8 := Lib.hid (Nums.of_own (xs := ([72, 86, 79, 76] ++ leN num 2) ++ leN cnt 2) ho8 (fun x hx => by rcases List.mem_append.1 hx with h | h; exact HN6.out.rng x h; exact leN_rng _ _ x h))
  have KC : Hid (Mark g wd w8) := KB.out.trans (q7.trans (Mark.of_grow q8))
  have Q8 : Hid (Mark g w7 w8) := Mark.of_grow q8
  clear ho8 q8 q7 HN6 KB
  go_wp2_with fail
  refine ⟨Q8.out, ?_⟩
  clear Q8
  refine Hv.seg_calm ?_
  go_wp2_with fail
  refine Hv.seg_end ⟨by kernel_rfl, ?_⟩
  go_wp2_with fail
  have Z8 := Lib.hid (show Mark g w8 w8.drew from (Mark.refl w8).drew)
  refine Hv.wp_region_hav (Mark g) (fun _ _ _ => True) (⟨Mark.refl, fun _ _ _ => Mark.trans, fun _ _ _ _ _ _ => trivial⟩) [2, 6] [] [(0, [0, 1, 5]), (1, [2]), (0, [3]), (1, [6]), (0, [7]), (2, [4]), (2, [8]), (0, [9])] [(0, 0, [?p0, ?p1, ?p5]), (1, 2, [?p2]), (0, 3, [?p3]), (1, 6, [?p6]), (0, 7, [?p7]), (2, 4, [?p4]), (2, 8, [?p8]), (0, 9, [?p9])] [?p0, ?p1, ?p2, ?p3, ?p4, ?p5, ?p6, ?p7, ?p8, ?p9] (by kernel_rfl) (by kernel_rfl) (by kernel_rfl) ?_
  generalize w8.drew = w9 at *
  have KD : Hid (Mark g wd w9) := KC.out.trans Z8.out
  have HN9 := Lib.hid (nums_mark HN8.out Z8.out)
  clear KC HN8 Z8
  refine Hv.seg_calm ?_
  go_wp2_with fail
  refine Hv.seg_held (by kernel_rfl) (.int .i64 (all : Nat)) (fun w7 hk7 => ?_) ?_
  · have c7 := HD2.out w7 (by rw [← HGE.out]; exact KD.out.trans hk7)
    go_simp
  refine Hv.seg_calm ?_
  go_wp2_with fail
  refine Hv.seg_held (by kernel_rfl) (.int .u32 (sum : Nat)) (fun w7 hk7 => ?_) ?_
  · have c7 := HD3.out w7 (by rw [← HGE.out]; exact KD.out.trans hk7)
    go_simp
  refine Hv.seg_calm ?_
  go_wp2_with fail
  refine Hv.seg_call (fun w5 q5 => ?_)
  go_wp2_with fail
  refine (vlow_is w5 A8 8 c8 all 8 _ (nums_mark HN9.out q5) (by decide) (by decide) (by decide) (by omega)).mono ?_
  rintro x w10 ⟨A10, c10, rfl, ho10, q10⟩
  have HN10 := Lib.hid (Nums.of_own (xs := (([72, 86, 79, 76] ++ leN num 2) ++ leN cnt 2) ++ leN all 8) ho10 (fun x hx => by rcases List.mem_append.1 hx with h | h; exact HN9.out.rng x h; exact leN_rng _ _ x h))
  have KE : Hid (Mark g wd w10) := KD.out.trans (q5.trans (Mark.of_grow q10))
  have Q10 : Hid (Mark g w5 w10) := Mark.of_grow q10
  clear ho10 q10 q5 HN9 KD
  go_wp2_with fail
  refine ⟨Q10.out, ?_⟩
  clear Q10
  refine Hv.seg_call (fun w7 q7 => ?_)
  go_wp2_with fail
  refine (vlow_is w7 A10 16 c10 sum 4 _ (nums_mark HN10.out q7) (by decide) (by decide) (by decide) (by omega)).mono ?_
  rintro x w11 ⟨A11, c11, rfl, ho11, q11⟩
  have HN11 : Hid (Nums .u8 w11 A11 20 c11 (hd20 num cnt all sum)) := Nums.of_own (xs := ((([72, 86, 79, 76] ++ leN num 2) ++ leN cnt 2) ++ leN all 8) ++ leN sum 4) ho11 (fun x hx => by rcases List.mem_append.1 hx with h | h; exact HN10.out.rng x h; exact leN_rng _ _ x h)
  have KF : Hid (Mark g wd w11) := KE.out.trans (q7.trans (Mark.of_grow q11))
  have Q11 : Hid (Mark g w7 w11) := Mark.of_grow q11
  clear ho11 q11 q7 HN10 KE
  go_wp2_with fail
  refine ⟨Q11.out, ?_⟩
  clear Q11
  refine Hv.seg_calm ?_
  go_wp2_with fail
  refine Hv.seg_end ⟨by kernel_rfl, ?_⟩
  obtain ⟨S, hS⟩ : ∃ S, S = not32 (crcAll 3988292384 (not32 0) ((hd20 num cnt all sum).map Int.toNat)) := ⟨_, rfl⟩
  have hSb : S < 4294967296 := by
    rw [hS]
    exact not32_lt _ (crcAll_lt _ (by decide) _ (bs_of_nums HN11.out).2.1 _ (not32_lt 0 (by decide)))
  have HC := Lib.hid (crc32_is w11 0 A11 20 c11 _ (by decide) (bs_of_nums HN11.out) (by decide))
  rw [← hS] at HC
  have HS := Lib.hid hS
  clear hS
  have hSi : (S : Int) < 4294967296 := by omega
  go_wp2_with fail
  refine HC.out.mono ?_
  rintro x w12 ⟨rfl, q12⟩
  have HN12 := Lib.hid (HN11.out.grow q12)
  have KG : Hid (Mark g wd w12) := KF.out.trans (Mark.of_grow q12)
  clear q12 HC KF HN11
  go_wp2_with fail
  refine (vlow_is w12 A11 20 c11 S 4 _ HN12.out (by decide) (by decide) (by decide) (by omega)).mono ?_
  rintro x w13 ⟨A13, c13, rfl, ho13, q13⟩
  have HO13 := Lib.hid ho13
  have KH : Hid (Mark w.heap.size w w13) := KW0.out.trans (by rw [← HGE.out]; exact KG.out.trans (Mark.of_grow q13))
  have HSZ : Hid (w.heap.size ≤ w12.heap.size) := Nat.le_trans KW0.out.size KG.out.size
  clear ho13 q13
  go_wp2_with fail
  go_ret
  exact ⟨A13, c13, rfl, by rw [← HS.out]; exact owns_base HO13.out (fun k hk => Nat.le_trans HSZ.out (own_ge HO13.out k hk)), grow_of_below KH.out.below⟩
end Go.Proofs.Ytnjdhkaabpmahaa
