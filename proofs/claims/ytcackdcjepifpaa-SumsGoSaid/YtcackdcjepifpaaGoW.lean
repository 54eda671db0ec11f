/- The law SumsGo: the walk. -/
import Derived.Test.YtcackdcjepifpaaTurnW
import Derived.Test.YtcackdcjepifpaaJoin
namespace Go.Proofs.Ytcackdcjepifpaa
open Go.RowKit
set_option linter.unusedVariables false
set_option linter.unusedSimpArgs false

theorem bulk_nums (B : Nat) (k : IntKind) (l : List Int) : Sh.bulk (.sl B (.int k)) l = l.length + 1 := by
  show (List.map (fun _ => 1) l).sum + 1 = _
  induction l with
  | nil => rfl
  | cons x l ih => simp only [List.map_cons, List.sum_cons, List.length_cons] at *; omega

set_option maxRecDepth 4000 in
set_option maxHeartbeats 2000000 in
theorem walkSumsGo (W : World) (a0 : Option Addr) (c0 : Nat) (x0 : List (Int)) (_h0 : Sh.Rd W (.sl 1 (.int .u8)) [.slice a0 x0.length c0] x0) (a1 : Option Addr) (c1 : Nat) (x1 : List (Int)) (_h1 : Sh.Rd W (.sl 1 (.int .u8)) [.slice a1 x1.length c1] x1) (_hk : Sh.bulk (.sl 1 (.int .u8)) x0 + Sh.bulk (.sl 1 (.int .u8)) x1 ≤ 1048576) :
    Calls Try.prog 7 #[.slice a0 x0.length c0, .slice a1 x1.length c1] W fun e w' => e = .returned (.bool true) ∧ Below W.heap.size W w' := by
  rw [bulk_nums, bulk_nums] at _hk
  obtain ⟨hs0, b0, hl0, hr0, hm0⟩ := rd_bytes _h0
  obtain ⟨hs1, b1, hl1, hr1, hm1⟩ := rd_bytes _h1
  clear _h0 _h1
  generalize x0.map Int.toNat = xs at *
  generalize x1.map Int.toNat = ys at *
  subst hm0
  subst hm1
  simp only [List.length_map, List.map_map] at *
  generalize hn : xs.length = n at *
  generalize hm : ys.length = m at *
  have HB0 := Lib.hid b0
  have HB1 := Lib.hid b1
  have HN := Lib.hid hn
  have HM := Lib.hid hm
  have HS0 : Hid (Src (W.alloc (.cells #[] 5)) 1 a0 n c0 (xs.map (Value.int .u8 ∘ fun n : Nat => (n : Int)))) := hs0.keep ((Keeps.refl (fun _ => False) W).alloc _) (fun _ _ h => h)
  have HS1 : Hid (∀ w, Grow W w → Src w 1 a1 m c1 (ys.map (Value.int .u8 ∘ fun n : Nat => (n : Int)))) := fun w h => hs1.keep h (fun _ _ h => h)
  clear b0 b1 hn hm hs0 hs1 hr0 hr1
  have ho0 : (W.alloc (.cells #[] 5)).ownsRow 0 5 1 (.slice (some ⟨W.heap.size, 0, none⟩) 0 0) 0 [] := ⟨rfl, .inr ⟨W.heap.size, 0, #[], rfl, Nat.zero_le _, heap_alloc_new W _, Nat.le_refl _, Nat.zero_le _, rfl, rfl⟩⟩
  go_enter Try.func7, Try.ntmps7
  go_wp2_with (at_builtin; refine wpList_app_any rfl (.tmp 8) (.tmp 9) 29 5 rfl Try.underlying29 Try.infoU8 rfl (by decide) _ _ _ rfl ho0 a0 n c0 _ rfl HS0.out (by unfold maxLen; omega) (by omega) ?_)
  intro A' c' w1 ho1 hg1 hm1
  (try simp only [Nat.zero_add, List.nil_append] at ho1)
  (try simp only [Nat.zero_add] at hm1)
  (try simp only [Nat.zero_add])
  have hfresh : ∀ k, (Value.slice A' n c').ownBlock = some k → W.heap.size ≤ k := fun k hk => by
    rcases hm1 with e | ⟨j, e, hj⟩
    · rw [e] at hk
      simp [Value.ownBlock] at hk
      omega
    · rw [e] at hk
      injection hk with hk
      simp at hj
      omega
  have hK1 : Grow W w1 := ((Keeps.refl (fun _ => False) W).alloc _).grown hg1 (fun k hk e => by simp [Value.ownBlock] at e; omega)
  have HF1 := Lib.hid (owns_base ho1 hfresh)
  clear hg1 hm1 hfresh ho0
  go_wp2_with (at_builtin; refine wpList_app_any rfl (.tmp 10) (.tmp 11) 29 5 rfl Try.underlying29 Try.infoU8 rfl (by decide) _ _ _ rfl ho1 a1 m c1 _ rfl (HS1.out w1 hK1) (by unfold maxLen; omega) (by omega) ?_)
  intro A2 c2 w2 ho2 hg2 hm2
  have hK2 : Grow W w2 := hK1.grown hg2 (fun k hk e => by
    have := HF1.out.lt k e
    omega)
  have hx : (xs.map (Value.int .u8 ∘ fun n : Nat => (n : Int)) ++ ys.map (Value.int .u8 ∘ fun n : Nat => (n : Int))) = (xs ++ ys).map (fun k : Nat => Value.int .u8 k) := by rw [List.map_append]; rfl
  rw [hx] at ho2
  clear hx hg2 hm2 ho1 hK1
  have HYB := Lib.hid (Bs.of_any ho2 (fun x hx => by rcases List.mem_append.1 hx with h | h; exact HB0.out.2.1 x h; exact HB1.out.2.1 x h))
  have HK := Lib.hid hK2
  clear ho2 hK2
  have hxl := Lib.hid (crcAll_lt 3988292384 (by decide) xs HB0.out.2.1 (not32 0) (not32_lt 0 (by decide)))
  have hyl := Lib.hid (crcAll_lt 3988292384 (by decide) ys HB1.out.2.1 (not32 0) (not32_lt 0 (by decide)))
  have hxh := Lib.hid (crcHi_lt 79764919 (by decide) xs HB0.out.2.1 (not32 0) (not32_lt 0 (by decide)))
  have hxw := Lib.hid (crcAll64_lt 14514072000185962306 (by decide) xs HB0.out.2.1 (not64 0) (not64_lt 0 (by decide)))
  have CA := Lib.hid fun (w : World) (h : Mark W.heap.size W w) => crc32_is w 0 _ _ c0 _ (by decide) (HB0.out.mark h) (by omega)
  have CB := Lib.hid fun (w : World) (h : Mark W.heap.size W w) => crc32_is w 0 _ _ c1 _ (by decide) (HB1.out.mark h) (by omega)
  have CX := Lib.hid fun (w : World) (h : Mark W.heap.size w2 w) => crc32_is w 0 _ _ c2 _ (by decide) (HYB.out.mark h) (by omega)
  have CC := Lib.hid fun (w : World) (h : Mark W.heap.size W w) => crc32_is w (not32 (crcAll 3988292384 (not32 0) xs)) _ _ c1 _ (not32_lt _ hxl.out) (HB1.out.mark h) (by omega)
  rw [crc_go] at CC
  have DA := Lib.hid fun (w : World) (h : Mark W.heap.size W w) => crcHigh_is w 0 _ _ c0 _ (by decide) (HB0.out.mark h) (by omega)
  have DX := Lib.hid fun (w : World) (h : Mark W.heap.size w2 w) => crcHigh_is w 0 _ _ c2 _ (by decide) (HYB.out.mark h) (by omega)
  have DC := Lib.hid fun (w : World) (h : Mark W.heap.size W w) => crcHigh_is w (not32 (crcHi 79764919 (not32 0) xs)) _ _ c1 _ (not32_lt _ hxh.out) (HB1.out.mark h) (by omega)
  rw [high_go] at DC
  have EA := Lib.hid fun (w : World) (h : Mark W.heap.size W w) => crc64_is w 0 _ _ c0 _ (by decide) (HB0.out.mark h) (by omega)
  have EX := Lib.hid fun (w : World) (h : Mark W.heap.size w2 w) => crc64_is w 0 _ _ c2 _ (by decide) (HYB.out.mark h) (by omega)
  have EC := Lib.hid fun (w : World) (h : Mark W.heap.size W w) => crc64_is w (not64 (crcAll 14514072000185962306 (not64 0) xs)) _ _ c1 _ (not64_lt _ hxw.out) (HB1.out.mark h) (by omega)
  rw [wide_go] at EC
  have hal : adSum 1 xs < 4294967296 := by
    unfold adSum
    have := adAll_lt xs (1 % 65536, 1 / 65536) ⟨by decide, by decide⟩
    omega
  have FA := Lib.hid fun (w : World) (h : Mark W.heap.size W w) => adler_is w 1 _ _ c0 _ (by decide) (HB0.out.mark h) (by omega)
  have FX := Lib.hid fun (w : World) (h : Mark W.heap.size w2 w) => adler_is w 1 _ _ c2 _ (by decide) (HYB.out.mark h) (by omega)
  have FC := Lib.hid fun (w : World) (h : Mark W.heap.size W w) => adler_is w (adSum 1 xs) _ _ c1 _ hal (HB1.out.mark h) (by omega)
  rw [adler_go 1 (by decide)] at FC
  have J : Hid (∀ w, Calls Try.prog 8 #[.int .u32 (not32 (crcAll 3988292384 (not32 0) xs) : Nat), .int .u32 (not32 (crcAll 3988292384 (not32 0) ys) : Nat), .int .i64 (m : Int)] w fun e w' => e = .returned (.tuple #[.int .u32 (not32 (crcAll 3988292384 (not32 0) (xs ++ ys)) : Nat), .int .i64 0]) ∧ w = w') := fun w => by
    have := join_is w _ _ (m : Int) (not32_lt _ hxl.out) (not32_lt _ hyl.out) (by omega)
    rw [if_neg (by omega), Int.toNat_natCast, show m = ys.length from HM.out.symm, join_go] at this
    rw [show m = ys.length from HM.out.symm]
    exact this
  have E9 : Hid (∀ (w : World) (A : Option Addr), Bs w A 9 [49, 50, 51, 52, 53, 54, 55, 56, 57] → Calls Try.prog 10 #[.int .u32 0, .slice A 9 9] w fun e w' => e = .returned (.int .u32 3421780262) ∧ Grow w w') := fun w A h => by
      have := crc32_is w 0 A 9 9 _ (by decide) h (by decide)
      rw [nine_low] at this
      exact this
  clear hxl hyl hxh hxw hal
  generalize not32 (crcAll 3988292384 (not32 0) xs) = v0 at *
  generalize not32 (crcAll 3988292384 (not32 0) ys) = v1 at *
  generalize not32 (crcAll 3988292384 (not32 0) (xs ++ ys)) = v2 at *
  generalize not32 (crcHi 79764919 (not32 0) xs) = u0 at *
  generalize not32 (crcHi 79764919 (not32 0) (xs ++ ys)) = u2 at *
  generalize not64 (crcAll 14514072000185962306 (not64 0) xs) = t0 at *
  generalize not64 (crcAll 14514072000185962306 (not64 0) (xs ++ ys)) = t2 at *
  generalize adSum 1 xs = s0 at *
  generalize adSum 1 (xs ++ ys) = s2 at *
  have KW : Mark W.heap.size W w2 := Mark.of_grow HK.out
  have KR : Mark W.heap.size w2 w2 := Mark.refl w2
  have kc := fun (w : World) (C : Array Value) (n c : Nat) => Lib.run_convert_bytes_const (P := Try.prog) w 29 5 C n c Try.underlying29 Try.underlying5
  go_wp2_with fail
  refine (CA.out _ KW).mono ?_
  rintro e w3 ⟨rfl, q3⟩
  replace KW := KW.trans (Mark.of_grow (B := W.heap.size) q3)
  replace KR := KR.trans (Mark.of_grow (B := W.heap.size) q3)
  clear q3
  go_wp2_with fail
  refine (CB.out _ KW).mono ?_
  rintro e w3 ⟨rfl, q3⟩
  replace KW := KW.trans (Mark.of_grow (B := W.heap.size) q3)
  replace KR := KR.trans (Mark.of_grow (B := W.heap.size) q3)
  clear q3
  go_wp2_with fail
  refine (J.out _).mono ?_
  rintro e w3 ⟨rfl, rfl⟩
  go_wp2_with fail
  refine (CA.out _ KW).mono ?_
  rintro e w3 ⟨rfl, q3⟩
  replace KW := KW.trans (Mark.of_grow (B := W.heap.size) q3)
  replace KR := KR.trans (Mark.of_grow (B := W.heap.size) q3)
  clear q3
  go_wp2_with fail
  refine (CC.out _ KW).mono ?_
  rintro e w3 ⟨rfl, q3⟩
  replace KW := KW.trans (Mark.of_grow (B := W.heap.size) q3)
  replace KR := KR.trans (Mark.of_grow (B := W.heap.size) q3)
  clear q3
  go_wp2_with fail
  refine (CX.out _ KR).mono ?_
  rintro e w3 ⟨rfl, q3⟩
  replace KW := KW.trans (Mark.of_grow (B := W.heap.size) q3)
  replace KR := KR.trans (Mark.of_grow (B := W.heap.size) q3)
  clear q3
  go_wp2_with fail
  refine (DA.out _ KW).mono ?_
  rintro e w3 ⟨rfl, q3⟩
  replace KW := KW.trans (Mark.of_grow (B := W.heap.size) q3)
  replace KR := KR.trans (Mark.of_grow (B := W.heap.size) q3)
  clear q3
  go_wp2_with fail
  refine (DC.out _ KW).mono ?_
  rintro e w3 ⟨rfl, q3⟩
  replace KW := KW.trans (Mark.of_grow (B := W.heap.size) q3)
  replace KR := KR.trans (Mark.of_grow (B := W.heap.size) q3)
  clear q3
  go_wp2_with fail
  refine (DX.out _ KR).mono ?_
  rintro e w3 ⟨rfl, q3⟩
  replace KW := KW.trans (Mark.of_grow (B := W.heap.size) q3)
  replace KR := KR.trans (Mark.of_grow (B := W.heap.size) q3)
  clear q3
  go_wp2_with fail
  refine (EA.out _ KW).mono ?_
  rintro e w3 ⟨rfl, q3⟩
  replace KW := KW.trans (Mark.of_grow (B := W.heap.size) q3)
  replace KR := KR.trans (Mark.of_grow (B := W.heap.size) q3)
  clear q3
  go_wp2_with fail
  refine (EC.out _ KW).mono ?_
  rintro e w3 ⟨rfl, q3⟩
  replace KW := KW.trans (Mark.of_grow (B := W.heap.size) q3)
  replace KR := KR.trans (Mark.of_grow (B := W.heap.size) q3)
  clear q3
  go_wp2_with fail
  refine (EX.out _ KR).mono ?_
  rintro e w3 ⟨rfl, q3⟩
  replace KW := KW.trans (Mark.of_grow (B := W.heap.size) q3)
  replace KR := KR.trans (Mark.of_grow (B := W.heap.size) q3)
  clear q3
  go_wp2_with fail
  refine (FA.out _ KW).mono ?_
  rintro e w3 ⟨rfl, rfl⟩
  go_wp2_with fail
  refine (FC.out _ KW).mono ?_
  rintro e w3 ⟨rfl, rfl⟩
  go_wp2_with fail
  refine (FX.out _ KR).mono ?_
  rintro e w3 ⟨rfl, rfl⟩
  go_wp2_with fail
  refine (CX.out _ KR).mono ?_
  rintro e w3 ⟨rfl, q3⟩
  replace KW := KW.trans (Mark.of_grow (B := W.heap.size) q3)
  replace KR := KR.trans (Mark.of_grow (B := W.heap.size) q3)
  clear q3
  go_wp2_with fail
  have hL9 : Bs (w3.alloc (.cells #[.int .u8 49, .int .u8 50, .int .u8 51, .int .u8 52, .int .u8 53, .int .u8 54, .int .u8 55, .int .u8 56, .int .u8 57] 5 (9, 10))) (some ⟨w3.heap.size, 0, none⟩) 9 [49, 50, 51, 52, 53, 54, 55, 56, 57] :=
    Lit8.bs (B := 0) (e := 5) (n := 9) (c := 9) ⟨w3.heap.size, (9, 10), rfl, Nat.zero_le _, heap_alloc_new w3 _⟩ (by decide)
  refine (E9.out _ _ hL9).mono ?_
  rintro e w4 ⟨rfl, q4⟩
  replace KW := (KW.alloc _).trans (Mark.of_grow (B := W.heap.size) q4)
  clear hL9 q4
  go_wp2_with fail
  go_ret
  exact ⟨rfl, KW.below⟩
end Go.Proofs.Ytcackdcjepifpaa
