/- The walk of hamperlaw11.RunsPacks. -/
import Derived.Test.YteccmnjcmmbhlaaSp11
namespace Go.Proofs.Yteccmnjcmmbhlaa
open Go.RowKit
set_option linter.unusedVariables false
set_option linter.unusedSimpArgs false

theorem sum_ones (l : List Int) : (l.map (fun _ => 1)).sum = l.length := by
  induction l with
  | nil => rfl
  | cons x r ih => simp only [List.map_cons, List.sum_cons, List.length_cons, ih]; omega

set_option maxRecDepth 4000 in
set_option maxHeartbeats 4000000 in
theorem walkRunsPacks (W : World) (a0 : Option Addr) (c0 : Nat) (x0 : List (Int)) (_h0 : Sh.Rd W (.sl 1 (.int .u8)) [.slice a0 x0.length c0] x0) (x1 : Int) (_h1 : (Lit.int .i64 x1).wf = true) (_hk : Sh.bulk (.sl 1 (.int .u8)) x0 + Sh.bulk (.int .i64) x1 ≤ 1048576) :
    Calls Try.prog 5 #[.slice a0 x0.length c0, .int .i64 x1] W fun e w' => e = .returned (.bool true) ∧ Below W.heap.size W w' := by
  obtain ⟨hN0, hcb⟩ := Nums.of_rd _h0
  have hx1 := inKind_wf _h1
  have hcap := hN0.cap
  generalize hm : x0.length = m at *
  have hmu : m ≤ 1048576 := by
    have h : ((List.map (fun _ => 1) x0).sum + 1) + 1 ≤ 1048576 := _hk
    have h1 := sum_ones x0
    omega
  have hm1 : m ≤ 140737488351232 := by omega
  have HX1 := Lib.hid hx1
  have HN0 := Lib.hid hN0
  have HM := Lib.hid hm
  have ho0 := own_none W 5
  have HS0 := Lib.hid (hN0.grow ((Keeps.refl (fun _ => False) W).alloc (.cells #[] 5))).src
  clear hN0 hx1 hm hcb hcap _h0 _h1 _hk
  go_enter Try.func5, Try.ntmps5
  go_wp2_with (at_builtin; refine wpList_appS rfl (.tmp 14) (.tmp 15) 22 5 rfl Try.underlying22 Try.infoU8' rfl (by decide) W.heap.size _ 0 _ rfl ho0 (by simp) a0 m c0 _ rfl HS0.out (by unfold maxLen; omega) (by omega) ?_)
  intro A1 c1 wa ho1 k1 _
  (try simp only [Nat.zero_add, List.nil_append] at ho1)
  (try simp only [Nat.zero_add])
  have HGa : Hid (Grow W wa) := Keeps.trans ((Keeps.refl (fun _ => False) W).alloc (.cells #[] 5)) k1 (fun i hi h => by simp [Value.ownBlock] at h; omega)
  have HOa := Lib.hid ho1
  have hza := HGa.out.size
  clear ho1 k1 ho0 HS0
  go_wp2_with (at_builtin; refine wpList_app1 rfl (.tmp 16) (.tmp 17) 22 5 rfl Try.underlying22 Try.infoU8' rfl W.heap.size _ m _ rfl HOa.out hza rfl rfl (by unfold maxLen; omega) (by omega) ?_)
  intro g cap w1 ho1 k1 _
  have HO1 : Hid (w1.ownsRow W.heap.size 5 1 (.slice (some ⟨g, 0, none⟩) (m + 1) cap) (m + 1) ((x0 ++ [90]).map (Value.int .u8))) := by
    show World.ownsRow _ _ _ _ _ _ _
    simp only [List.map_append, List.append_assoc]
    exact ho1
  have HG1 := Lib.hid (grow_own HGa.out HOa.out (Nat.le_refl _) k1)
  have hrng : ∀ y ∈ x0 ++ [90], inKind .u8 y := fun y hy => by
    rcases List.mem_append.1 hy with h | h
    · exact HN0.out.rng y h
    · rw [List.mem_singleton.1 h]; exact mk_u8 (by decide) (by decide)
  have HNI : Hid (Nums .u8 w1 (some ⟨g, 0, none⟩) m cap x0) := by
    have h := (Nums.of_own HO1.out hrng).take m (by omega)
    rw [List.take_left' HM.out] at h
    exact h
  have hcapm : m ≤ cap := HNI.out.cap
  have hgi := HO1.out.lt g rfl
  obtain ⟨i8, hi8, hs8⟩ := Try.info_u8
  have HSL : Hid (∀ w : World, (Instr.slice 22 (.slice (some ⟨g, 0, none⟩) (m + 1) cap) none (some (.int .i64 m)) none).run Try.prog w = .ok (.slice (some ⟨g, 0, none⟩) m cap) w) := fun w => run_pre Try.underlying22 hi8 _ _ _ _ hcapm w
  have hz1 := HG1.out.size
  clear ho1 k1 HGa HOa hi8 hs8 hza hrng
  have hs1 := HSL.out w1
  go_wp2_with fail
  clear hs1
  refine (unpack_is w1 (some ⟨g, 0, none⟩) m cap x0 x1 HNI.out HX1.out (by omega)).mono ?_
  rintro e w2 ⟨A2, c2, k2, rfl, ho2, hg2⟩
  have HK2 := Lib.hid (own_len' ho2)
  have L2 := Lib.hid (fun b hb => ho2.lt b hb)
  have HO2 := Lib.hid ho2
  have HG2 := Lib.hid hg2
  have hz2 := hg2.size
  clear ho2 hg2
  have hs1 := HSL.out w2
  go_wp2_with fail
  clear hs1
  refine (unpack_is w2 (some ⟨g, 0, none⟩) m cap x0 x1 (HNI.out.grow HG2.out) HX1.out (by omega)).mono ?_
  rintro e w3 ⟨A3, c3, k3, rfl, ho3, hg3⟩
  have HK3 := Lib.hid (own_len' ho3)
  have L3 := Lib.hid (fun b hb => ho3.lt b hb)
  have HO3 := Lib.hid ho3
  have HG3 := Lib.hid (Grow.trans _ _ _ HG2.out hg3)
  have Q3 := Lib.hid hg3
  have hz3 := hg3.size
  clear ho3 hg3
  go_wp2_with fail
  refine (refUnpack_is w3 a0 m c0 x0 x1 (HN0.out.grow (Grow.trans _ _ _ HG1.out HG3.out)) HX1.out (by omega)).mono ?_
  rintro e w4 ⟨A4, c4, k4, rfl, ho4, hg4⟩
  have HK4 := Lib.hid (own_len' ho4)
  have L4 := Lib.hid (fun b hb => ho4.lt b hb)
  have HO4 := Lib.hid ho4
  have HG4 := Lib.hid (Grow.trans _ _ _ HG3.out hg4)
  have Q4 := Lib.hid hg4
  have hz4 := hg4.size
  clear ho4 hg4
  go_wp2_with fail
  refine (refPack_is w4 a0 m c0 x0 (HN0.out.grow (Grow.trans _ _ _ HG1.out HG4.out)) (by omega)).mono ?_
  rintro e w5 ⟨A5, c5, k5, rfl, ho5, hg5⟩
  have HK5 := Lib.hid (own_len' ho5)
  have L5 := Lib.hid (fun b hb => ho5.lt b hb)
  have HO5 := Lib.hid ho5
  have HG5 := Lib.hid (Grow.trans _ _ _ HG4.out hg5)
  have Q5 := Lib.hid hg5
  have hz5 := hg5.size
  clear ho5 hg5
  go_wp2_with fail
  refine (pack_is w5 (some ⟨g, 0, none⟩) m cap x0 (HNI.out.grow HG5.out) (by omega)).mono ?_
  rintro e w6 ⟨A6, c6, k6, rfl, ho6, hg6⟩
  have HK6 := Lib.hid (own_len' ho6)
  have L6 := Lib.hid (fun b hb => ho6.lt b hb)
  have HO6 := Lib.hid ho6
  have HG6 := Lib.hid (Grow.trans _ _ _ HG5.out hg6)
  have Q6 := Lib.hid hg6
  have hz6 := hg6.size
  clear ho6 hg6
  have e3 : k3 = k2 := by rw [HK3.out, HK2.out]
  have e4 : k4 = k2 := by rw [HK4.out, HK2.out]
  have e6 : k6 = k5 := by rw [HK6.out, HK5.out]
  subst e3 e4 e6
  clear HK2 HK3 HK4 HK6
  have D1 := Lib.hid (spoilt11_is w6 _ _ A6 A5 k6 c6 c5 _ HO6.out (owns_keep HO5.out Q6.out fun _ _ h => h))
  have hsn := str_snoc x0
  have HSN := Lib.hid hsn
  have hss : (strOfNums x0).size = m := by rw [strOfNums_size]; exact HM.out
  have HSS := Lib.hid hss
  clear hss hsn
  go_wp2_with fail
  refine D1.out.mono ?_
  rintro e w7 ⟨rfl, q7⟩
  have T7 : Hid (Keeps (fun k => w5.heap.size ≤ k) w5 w7) := Keeps.trans (T := fun k => (Value.slice A6 k6 c6).ownBlock = some k) (Q6.out.mono fun _ _ h => h.elim) q7 (fun i _ h => (L6.out i h).1)
  have HNI7 := Lib.hid ((HNI.out.grow HG5.out).keepB T7.out (fun b hb h => absurd hb (by omega)))
  clear q7 D1
  go_wp2_with fail
  refine (pack_is w7 (some ⟨g, 0, none⟩) m cap x0 HNI7.out (by omega)).mono ?_
  rintro e w8 ⟨A8, c8, k8, rfl, ho8, hg8⟩
  have T8 : Hid (Keeps (fun k => w5.heap.size ≤ k) w5 w8) := Keeps.trans T7.out hg8 (fun _ _ h => h.elim)
  have e8 : k8 = k6 := by rw [own_len' ho8, HK5.out]
  subst e8
  have L8 := Lib.hid (fun b hb => ho8.lt b hb)
  have hz7 := T7.out.size
  have D2 := Lib.hid (spoilt11_is w8 _ _ A8 A5 k8 c8 c5 _ ho8 (owns_keep HO5.out T8.out fun b hb h => by have := L5.out b hb; omega))
  clear ho8 hg8
  go_wp2_with fail
  refine D2.out.mono ?_
  rintro e w9 ⟨rfl, q9⟩
  have T9 : Hid (Keeps (fun k => w5.heap.size ≤ k) w5 w9) := Keeps.trans (T := fun k => (Value.slice A8 k8 c8).ownBlock = some k) T8.out q9 (fun i _ h => by have := (L8.out i h).1; omega)
  clear q9 D2
  have P2 := owns_keep (owns_keep HO2.out (Grow.trans _ _ _ (Grow.trans _ _ _ Q3.out Q4.out) Q5.out) (fun _ _ h => h)) T9.out (fun b hb h => by have := L2.out b hb; omega)
  have P3 := owns_keep (owns_keep HO3.out (Grow.trans _ _ _ Q4.out Q5.out) (fun _ _ h => h)) T9.out (fun b hb h => by have := L3.out b hb; omega)
  have P4 := owns_keep (owns_keep HO4.out Q5.out (fun _ _ h => h)) T9.out (fun b hb h => by have := L4.out b hb; omega)
  have D3 := Lib.hid (spoilt11_is w9 _ _ A2 A4 k4 c2 c4 _ P2 P4)
  have D4 := Lib.hid (fun w10 (q : Keeps (fun k => (Value.slice A2 k4 c2).ownBlock = some k) w9 w10) => spoilt11_is w10 _ _ A3 A4 k4 c3 c4 _ (owns_keep P3 q (fun b hb h => by have := L3.out b hb; have := L2.out b h; omega)) (owns_keep P4 q (fun b hb h => by have := L4.out b hb; have := L2.out b h; omega)))
  clear P2 P3 P4
  generalize unpR x0 x1 = RU at *
  generalize packL x0 = RP at *
  go_wp2_with fail
  refine D3.out.mono ?_
  rintro e w10 ⟨rfl, q10⟩
  have D5 := Lib.hid (D4.out w10 q10)
  have T10 : Hid (Keeps (fun k => w1.heap.size ≤ k) w1 w10) := Keeps.trans (T := fun k => (Value.slice A2 k4 c2).ownBlock = some k) (Keeps.trans (T := fun k => w5.heap.size ≤ k) (HG5.out.mono fun _ _ h => h.elim) T9.out (fun i _ h => by omega)) q10 (fun i _ h => by have := (L2.out i h).1; omega)
  clear q10 D3 D4
  go_wp2_with fail
  refine D5.out.mono ?_
  rintro e w11 ⟨rfl, q11⟩
  have T11 : Hid (Keeps (fun k => w1.heap.size ≤ k) w1 w11) := Keeps.trans (T := fun k => (Value.slice A3 k4 c3).ownBlock = some k) T10.out q11 (fun i _ h => by have := (L3.out i h).1; omega)
  have GW : Hid (Grow W w11) := Keeps.trans HG1.out T11.out (fun i hi h => absurd h (by have := HG1.out.size; omega))
  have hcv := run_str_src (P := Try.prog) (w := w11) (xs := x0 ++ [90]) Try.underlying22 Try.underlying5 Try.underlying9 (src_own (owns_keep HO1.out T11.out (fun b hb h => by have h9 : g = b := (by simpa [Value.ownBlock] using hb); omega)) (fun u hu => by obtain ⟨y, _, rfl⟩ := List.mem_map.1 hu; rfl))
  have hcw := run_str_src (P := Try.prog) (w := w11) (xs := x0) Try.underlying22 Try.underlying5 Try.underlying9 (HN0.out.grow GW.out).src
  have hsn := HSN.out
  have hsz := HSS.out
  have HNM := Lib.hid (Try.names11_fn w11)
  generalize strOfNums (x0 ++ [90]) = Z1 at *
  generalize strOfNums x0 = Z0 at *
  clear q11 D5 T11 T10 HO1
  go_wp2_with fail
  refine HNM.out.mono ?_
  rintro e w12 ⟨rfl, rfl⟩
  go_wp2_with fail
  go_ret
  exact ⟨rfl, Keeps.below GW.out (fun _ _ h => h) (Nat.le_refl _)⟩
end Go.Proofs.Yteccmnjcmmbhlaa
