/- The walk of hamperlaw10.SuffixBack. -/
import Derived.Test.YteccmnjcmmbhlaaSp10
namespace Go.Proofs.Yteccmnjcmmbhlaa
open Go.RowKit
set_option linter.unusedVariables false
set_option linter.unusedSimpArgs false

theorem Nums.keepB {k : IntKind} {W w' : World} {A : Option Addr} {n c : Nat} {xs : List Int} {S : Nat → Prop} (h : Nums k W A n c xs) (q : Keeps S W w') (hS : ∀ b, b < W.heap.size → ¬ S b) : Nums k w' A n c xs := by
  refine ⟨h.len, h.rng, h.cap, h.nil, fun hn => ?_⟩
  obtain ⟨b, o, e, hc⟩ := h.at_ hn
  refine ⟨b, o, e, fun j hj => ?_⟩
  have h1 := hc j hj
  exact cell_keep h1 q (hS b (World.block_lt_of_cell? W _ h1))
theorem Try.info_u8 : ∃ i, Try.prog.info? 5 = some i ∧ i.size = 1 := by
  obtain ⟨i, hi, _, h4, _⟩ := info_parts Try.infoU8'
  exact ⟨i, hi, h4⟩

set_option maxRecDepth 4000 in
set_option maxHeartbeats 4000000 in
theorem walkSuffixBack (W : World) (a0 : Option Addr) (c0 : Nat) (x0 : List (Int)) (_h0 : Sh.Rd W (.sl 1 (.int .u8)) [.slice a0 x0.length c0] x0) (x1 : Int) (_h1 : (Lit.int .i64 x1).wf = true) :
    Calls Try.prog 3 #[.slice a0 x0.length c0, .int .i64 x1] W fun e w' => e = .returned (.bool true) ∧ Below W.heap.size W w' := by
  obtain ⟨hN0, hcb⟩ := Nums.of_rd _h0
  have hx1 := inKind_wf _h1
  have hcap := hN0.cap
  clear _h0 _h1
  generalize hm : x0.length = m at *
  have hm1 : m ≤ 140737488351232 := by omega
  have HX1 := Lib.hid hx1
  have HN0 := Lib.hid hN0
  have HM := Lib.hid hm
  have ho0 := own_none W 5
  have HS0 := Lib.hid (hN0.grow ((Keeps.refl (fun _ => False) W).alloc (.cells #[] 5))).src
  clear hN0 hx1 hm hcb hcap
  go_enter Try.func3, Try.ntmps3
  go_wp2_with (at_builtin; refine wpList_appS rfl (.tmp 18) (.tmp 19) 22 5 rfl Try.underlying22 Try.infoU8' rfl (by decide) W.heap.size _ 0 _ rfl ho0 (by simp) a0 m c0 _ rfl HS0.out (by unfold maxLen; omega) (by omega) ?_)
  intro A1 c1 wa ho1 k1 _
  (try simp only [Nat.zero_add, List.nil_append] at ho1)
  (try simp only [Nat.zero_add])
  have HGa : Hid (Grow W wa) := Keeps.trans ((Keeps.refl (fun _ => False) W).alloc (.cells #[] 5)) k1 (fun i hi h => by simp [Value.ownBlock] at h; omega)
  have HOa := Lib.hid ho1
  have hza := HGa.out.size
  clear ho1 k1 ho0 HS0
  go_wp2_with (at_builtin; refine wpList_app1 rfl (.tmp 20) (.tmp 21) 22 5 rfl Try.underlying22 Try.infoU8' rfl W.heap.size _ m _ rfl HOa.out hza rfl rfl (by unfold maxLen; omega) (by omega) ?_)
  intro g cap w1 ho1 k1 _
  have HO1 : Hid (w1.ownsRow W.heap.size 5 1 (.slice (some ⟨g, 0, none⟩) (m + 1) cap) (m + 1) ((x0 ++ [90]).map (Value.int .u8))) := by
    show World.ownsRow _ _ _ _ _ _ _
    simp only [List.map_append, List.append_assoc]
    exact ho1
  have HG1 := Lib.hid (grow_own HGa.out HOa.out (Nat.le_refl _) k1)
  have hrng : ∀ y ∈ x0 ++ [90], inKind .u8 y := fun y hy => by
    rcases List.mem_append.1 hy with h | h
    · exact HN0.out.rng y h
    · rw [List.mem_singleton.1 h]; exact mk_u8 (by decide) (by decide)
  have HNI : Hid (Nums .u8 w1 (some ⟨g, 0, none⟩) m cap x0) := by
    have h := (Nums.of_own HO1.out hrng).take m (by omega)
    rw [List.take_left' HM.out] at h
    exact h
  have hcapm : m ≤ cap := HNI.out.cap
  have hgi := HO1.out.lt g rfl
  obtain ⟨i8, hi8, hs8⟩ := Try.info_u8
  have HSL : Hid (∀ w : World, (Instr.slice 22 (.slice (some ⟨g, 0, none⟩) (m + 1) cap) none (some (.int .i64 m)) none).run Try.prog w = .ok (.slice (some ⟨g, 0, none⟩) m cap) w) := fun w => run_pre Try.underlying22 hi8 _ _ _ _ hcapm w
  have hz1 := HG1.out.size
  clear ho1 k1 HGa HOa hi8 hs8 hza hrng
  have hs1 := HSL.out w1
  go_wp2_with fail
  clear hs1
  refine (back_is w1 (some ⟨g, 0, none⟩) m cap x0 x1 HNI.out HX1.out (by omega)).mono ?_
  rintro e w2 ⟨A2, c2, k2, rfl, ho2, hg2⟩
  have HK2 := Lib.hid (own_len' ho2)
  have L2 := Lib.hid (fun b hb => ho2.lt b hb)
  have HO2 := Lib.hid ho2
  have HG2 := Lib.hid hg2
  have hz2 := hg2.size
  clear ho2 hg2
  have hs1 := HSL.out w2
  go_wp2_with fail
  clear hs1
  refine (back_is w2 (some ⟨g, 0, none⟩) m cap x0 x1 (HNI.out.grow HG2.out) HX1.out (by omega)).mono ?_
  rintro e w3 ⟨A3, c3, k3, rfl, ho3, hg3⟩
  have HK3 := Lib.hid (own_len' ho3)
  have L3 := Lib.hid (fun b hb => ho3.lt b hb)
  have HO3 := Lib.hid ho3
  have HG3 := Lib.hid (Grow.trans _ _ _ HG2.out hg3)
  have Q3 := Lib.hid hg3
  have hz3 := hg3.size
  clear ho3 hg3
  go_wp2_with fail
  refine (refBack_is w3 a0 m c0 x0 x1 (HN0.out.grow (Grow.trans _ _ _ HG1.out HG3.out)) HX1.out (by omega)).mono ?_
  rintro e w4 ⟨A4, c4, k4, rfl, ho4, hg4⟩
  have HK4 := Lib.hid (own_len' ho4)
  have L4 := Lib.hid (fun b hb => ho4.lt b hb)
  have HO4 := Lib.hid ho4
  have HG4 := Lib.hid (Grow.trans _ _ _ HG3.out hg4)
  have Q4 := Lib.hid hg4
  have hz4 := hg4.size
  clear ho4 hg4
  have hs1 := HSL.out w4
  go_wp2_with fail
  clear hs1
  refine (next_is w4 (some ⟨g, 0, none⟩) m cap x0 (HNI.out.grow HG4.out) (by omega)).mono ?_
  rintro e w5 ⟨A5, c5, k5, rfl, ho5, hg5⟩
  have HK5 := Lib.hid (own_len' ho5)
  have L5 := Lib.hid (fun b hb => ho5.lt b hb)
  have HO5 := Lib.hid ho5
  have HG5 := Lib.hid (Grow.trans _ _ _ HG4.out hg5)
  have Q5 := Lib.hid hg5
  have hz5 := hg5.size
  clear ho5 hg5
  have hs1 := HSL.out w5
  go_wp2_with fail
  clear hs1
  refine (next_is w5 (some ⟨g, 0, none⟩) m cap x0 (HNI.out.grow HG5.out) (by omega)).mono ?_
  rintro e w6 ⟨A6, c6, k6, rfl, ho6, hg6⟩
  have HK6 := Lib.hid (own_len' ho6)
  have L6 := Lib.hid (fun b hb => ho6.lt b hb)
  have HO6 := Lib.hid ho6
  have HG6 := Lib.hid (Grow.trans _ _ _ HG5.out hg6)
  have Q6 := Lib.hid hg6
  have hz6 := hg6.size
  clear ho6 hg6
  go_wp2_with fail
  refine (refNext_is w6 a0 m c0 x0 (HN0.out.grow (Grow.trans _ _ _ HG1.out HG6.out)) (by omega)).mono ?_
  rintro e w7 ⟨A7, c7, k7, rfl, ho7, hg7⟩
  have HK7 := Lib.hid (own_len' ho7)
  have L7 := Lib.hid (fun b hb => ho7.lt b hb)
  have HO7 := Lib.hid ho7
  have HG7 := Lib.hid (Grow.trans _ _ _ HG6.out hg7)
  have Q7 := Lib.hid hg7
  have hz7 := hg7.size
  clear ho7 hg7
  have e3 : k3 = k2 := by rw [HK3.out, HK2.out]
  have e4 : k4 = k2 := by rw [HK4.out, HK2.out]
  have e6 : k6 = k5 := by rw [HK6.out, HK5.out]
  have e7 : k7 = k5 := by rw [HK7.out, HK5.out]
  subst e3 e4 e6 e7
  clear HK2 HK3 HK4 HK5 HK6 HK7
  have T4 : Grow w4 w7 := Grow.trans _ _ _ (Grow.trans _ _ _ Q5.out Q6.out) Q7.out
  have P2 := owns_keep HO2.out (Grow.trans _ _ _ (Grow.trans _ _ _ Q3.out Q4.out) T4) (fun _ _ h => h)
  have P3 := owns_keep HO3.out (Grow.trans _ _ _ Q4.out T4) (fun _ _ h => h)
  have P4 := owns_keep HO4.out T4 (fun _ _ h => h)
  have P5 := owns_keep HO5.out (Grow.trans _ _ _ Q6.out Q7.out) (fun _ _ h => h)
  have P6 := owns_keep HO6.out Q7.out (fun _ _ h => h)
  have P1 := owns_keep HO1.out HG7.out (fun _ _ h => h)
  have C1 := Lib.hid (spoilt10_is w7 _ _ A2 A4 k4 c2 c4 _ P2 P4)
  have C2 := Lib.hid (fun w8 (q : Keeps (fun k => w1.heap.size ≤ k ∧ k < w2.heap.size) w7 w8) => spoilt10_is w8 _ _ A3 A4 k4 c3 c4 _ (owns_keep P3 q (fun b hb h => by have := L3.out b hb; omega)) (owns_keep P4 q (fun b hb h => by have := L4.out b hb; omega)))
  have C3 := Lib.hid (fun w8 (q : Keeps (fun k => w1.heap.size ≤ k ∧ k < w3.heap.size) w7 w8) => same10_is w8 _ _ A5 A7 k7 c5 c7 _ (owns_keep P5 q (fun b hb h => by have := L5.out b hb; omega)) (owns_keep HO7.out q (fun b hb h => by have := L7.out b hb; omega)) (fun b hb h => by have := L5.out b h; have := L7.out b hb; omega))
  have C4 := Lib.hid (fun w8 (q : Keeps (fun k => w1.heap.size ≤ k ∧ k < w5.heap.size) w7 w8) => same10_is w8 _ _ A6 A7 k7 c6 c7 _ (owns_keep P6 q (fun b hb h => by have := L6.out b hb; omega)) (owns_keep HO7.out q (fun b hb h => by have := L7.out b hb; omega)) (fun b hb h => by have := L6.out b h; have := L7.out b hb; omega))
  have CV := Lib.hid (fun w8 (q : Keeps (fun k => w1.heap.size ≤ k ∧ k < w6.heap.size) w7 w8) => run_str_src (P := Try.prog) (w := w8) (xs := x0 ++ [90]) Try.underlying22 Try.underlying5 Try.underlying9 (src_own (owns_keep P1 q (fun b hb h => by have h9 : g = b := (by simpa [Value.ownBlock] using hb); omega)) (fun u hu => by obtain ⟨y, _, rfl⟩ := List.mem_map.1 hu; rfl)))
  have GW : Hid (∀ w8 (hi : Nat), Keeps (fun k => w1.heap.size ≤ k ∧ k < hi) w7 w8 → Grow W w8) := fun w8 hi q => Keeps.trans (Grow.trans _ _ _ HG1.out HG7.out) q (fun i hi h => absurd h.1 (by omega))
  have CW := Lib.hid (fun w8 (q : Keeps (fun k => w1.heap.size ≤ k ∧ k < w6.heap.size) w7 w8) => run_str_src (P := Try.prog) (w := w8) (xs := x0) Try.underlying22 Try.underlying5 Try.underlying9 (HN0.out.grow (GW.out w8 _ q)).src)
  have hsn := str_snoc x0
  have HSN := Lib.hid hsn
  have hss : (strOfNums x0).size = m := by rw [strOfNums_size]; exact HM.out
  have HSS := Lib.hid hss
  clear hss
  generalize strOfNums (x0 ++ [90]) = Z1 at *
  generalize strOfNums x0 = Z0 at *
  generalize backR x0 x1 = RB at *
  generalize nextR x0 = RN at *
  have F2 := Lib.hid (fun (wx wy : World) (hi : Nat) (hhi : w2.heap.size ≤ hi) (q : Keeps (fun k => (Value.slice A2 k4 c2).ownBlock = some k) wx wy) => (⟨q.os, q.tape, q.output, q.size, fun k hk hn => q.block k hk (fun h => hn (by have := L2.out k h; omega))⟩ : Keeps (fun k => w1.heap.size ≤ k ∧ k < hi) wx wy))
  have F3 := Lib.hid (fun (wx wy : World) (hi : Nat) (hhi : w3.heap.size ≤ hi) (q : Keeps (fun k => (Value.slice A3 k4 c3).ownBlock = some k) wx wy) => (⟨q.os, q.tape, q.output, q.size, fun k hk hn => q.block k hk (fun h => hn (by have := L3.out k h; omega))⟩ : Keeps (fun k => w1.heap.size ≤ k ∧ k < hi) wx wy))
  have F5 := Lib.hid (fun (wx wy : World) (hi : Nat) (hhi : w5.heap.size ≤ hi) (q : Keeps (fun k => (Value.slice A5 k7 c5).ownBlock = some k) wx wy) => (⟨q.os, q.tape, q.output, q.size, fun k hk hn => q.block k hk (fun h => hn (by have := L5.out k h; omega))⟩ : Keeps (fun k => w1.heap.size ≤ k ∧ k < hi) wx wy))
  have F6 := Lib.hid (fun (wx wy : World) (hi : Nat) (hhi : w6.heap.size ≤ hi) (q : Keeps (fun k => (Value.slice A6 k7 c6).ownBlock = some k) wx wy) => (⟨q.os, q.tape, q.output, q.size, fun k hk hn => q.block k hk (fun h => hn (by have := L6.out k h; omega))⟩ : Keeps (fun k => w1.heap.size ≤ k ∧ k < hi) wx wy))
  have UP : Hid (∀ (wx wy : World) (lo hi : Nat), lo ≤ hi → Keeps (fun k => w1.heap.size ≤ k ∧ k < lo) wx wy → Keeps (fun k => w1.heap.size ≤ k ∧ k < hi) wx wy) := fun wx wy lo hi hle q => ⟨q.os, q.tape, q.output, q.size, fun k hk hn => q.block k hk (fun h => hn ⟨h.1, by omega⟩)⟩
  clear hsn P1 P2 P3 P4 P5 P6 T4 HO1 HO2 HO3 HO4 HO5 HO6 HO7 L2 L3 L4 L5 L6 L7 HG1 HG2 HG3 HG4 HG5 HG6 HG7 Q3 Q4 Q5 Q6 Q7 HNI HSL HX1 hcapm
  go_wp2_with fail
  refine C1.out.mono ?_
  rintro e w8 ⟨rfl, q8⟩
  have K8 := Lib.hid (F2.out w7 w8 w2.heap.size (Nat.le_refl _) q8)
  have D2 := Lib.hid (C2.out w8 K8.out)
  clear q8 C1 C2
  go_wp2_with fail
  refine D2.out.mono ?_
  rintro e w9 ⟨rfl, q9⟩
  have K9 : Hid (Keeps (fun k => w1.heap.size ≤ k ∧ k < w3.heap.size) w7 w9) := Keeps.trans (UP.out _ _ _ _ hz3 K8.out) (F3.out w8 w9 w3.heap.size (Nat.le_refl _) q9) (fun _ _ h => h)
  have D3 := Lib.hid (C3.out w9 K9.out)
  clear q9 C3 D2
  go_wp2_with fail
  refine D3.out.mono ?_
  rintro e w10 ⟨rfl, q10⟩
  have K10 : Hid (Keeps (fun k => w1.heap.size ≤ k ∧ k < w5.heap.size) w7 w10) := Keeps.trans (UP.out _ _ _ _ (Nat.le_trans hz4 hz5) K9.out) (F5.out w9 w10 w5.heap.size (Nat.le_refl _) q10) (fun _ _ h => h)
  have D4 := Lib.hid (C4.out w10 K10.out)
  clear q10 C4 D3
  go_wp2_with fail
  refine D4.out.mono ?_
  rintro e w11 ⟨rfl, q11⟩
  have K11 : Hid (Keeps (fun k => w1.heap.size ≤ k ∧ k < w6.heap.size) w7 w11) := Keeps.trans (UP.out _ _ _ _ hz6 K10.out) (F6.out w10 w11 w6.heap.size (Nat.le_refl _) q11) (fun _ _ h => h)
  have hcv := CV.out w11 K11.out
  have hcw := CW.out w11 K11.out
  have hsn := HSN.out
  have hsz := HSS.out
  have HNM := Lib.hid (Try.names10_fn w11)
  clear q11 D4
  go_wp2_with fail
  refine HNM.out.mono ?_
  rintro e w12 ⟨rfl, rfl⟩
  go_wp2_with fail
  go_ret
  exact ⟨rfl, Keeps.below (GW.out _ _ K11.out) (fun _ _ h => h) (Nat.le_refl _)⟩
end Go.Proofs.Yteccmnjcmmbhlaa
