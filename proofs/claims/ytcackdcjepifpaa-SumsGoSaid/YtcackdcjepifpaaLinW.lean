/- The law SumsLinear: the walk. -/
import Derived.Test.YtcackdcjepifpaaTell
import Derived.Test.YtcackdcjepifpaaLinPure
import Derived.Test.YtcackdcjepifpaaMake
import Derived.Test.YtcackdcjepifpaaMark
namespace Go.Proofs.Ytcackdcjepifpaa
open Go.RowKit
set_option linter.unusedVariables false
set_option linter.unusedSimpArgs false

/-- The first n of a slice. -/
theorem run_pre {P : Program} {t e : TypeId} {i : TypeInfo} (h1 : P.underlying t = some (.slice e)) (hi : P.info? e = some i) (A : Option Addr) (l c n : Nat) (hn : n ≤ c) (hz : A = none → c = 0) (w : World) :
    (Instr.slice t (.slice A l c) none (some (.int .i64 n)) none).run P w = .ok (.slice A n c) w := by
  have h0 : (0 : Int) ≤ n := by omega
  have h2 : (n : Int) ≤ c := by omega
  have e0 : A.map (fun x => x.add 0) = A := by cases A <;> rfl
  have h3 : ¬ c < n := by omega
  simp [Instr.slice, run_underlying h1, Instr.sliceBounds, Instr.sliceBound, asIntOf, h0, h2, h3, hn, sizeOf, typeInfo, hi, e0]

/-- What is written of the three texts' exclusive or. -/
def LinSt (a b c : List Nat) (n i : Nat) : List Value := (List.range n).map fun j => .int .u8 (if j < i then (a.getD j 0 ^^^ b.getD j 0 ^^^ c.getD j 0 : Nat) else (0 : Nat))
theorem LinSt_zero (a b c : List Nat) (n : Nat) : List.replicate n (Value.int .u8 0) = LinSt a b c n 0 := by
  apply List.ext_getElem
  · simp [LinSt]
  · intro i h1 h2; simp [LinSt]
theorem LinSt_set (a b c : List Nat) (n i : Nat) : (LinSt a b c n i).set i (.int .u8 ((a.getD i 0 ^^^ b.getD i 0 ^^^ c.getD i 0 : Nat) : Int)) = LinSt a b c n (i + 1) := by
  apply List.ext_getElem
  · simp [LinSt]
  · intro j h1 h2
    simp only [LinSt, List.length_set, List.length_map, List.length_range] at h1
    rw [List.getElem_set]
    by_cases hij : i = j
    · subst hij
      simp [LinSt]
    · rw [if_neg hij]
      simp only [LinSt, List.getElem_map, List.getElem_range]
      by_cases hlt : j < i
      · rw [if_pos hlt, if_pos (by omega)]
      · rw [if_neg hlt, if_neg (by omega)]
theorem LinSt_all (a b c : List Nat) (n : Nat) (ha : n ≤ a.length) (hb : n ≤ b.length) (hc : n ≤ c.length) : LinSt a b c n n = (xor3 (a.take n) (b.take n) (c.take n)).map fun k : Nat => Value.int .u8 k := by
  apply List.ext_getElem
  · simp [LinSt, xor3]; omega
  · intro j h1 h2
    have h1 : j < n := by simpa [LinSt] using h1
    simp only [LinSt, xor3, List.getElem_map, List.getElem_range, List.getElem_zipWith, List.getElem_take, if_pos h1]
    have e : ∀ (l : List Nat) (h : j < l.length), l.getD j 0 = l[j] := fun l h => by simp [List.getD_eq_getElem?_getD, h]
    rw [e a (by omega), e b (by omega), e c (by omega)]

theorem Bs.take {w : World} {A : Option Addr} {n : Nat} {xs : List Nat} (h : Bs w A n xs) (k : Nat) (hk : k ≤ n) : Bs w A k (xs.take k) := by
  refine ⟨by rw [List.length_take, h.1]; omega, fun x hx => h.2.1 x (List.mem_of_mem_take hx), fun hk0 => ?_⟩
  obtain ⟨b, o, e, hc⟩ := h.2.2 (by omega)
  refine ⟨b, o, e, fun j hj => ?_⟩
  rw [hc j (by omega)]
  simp [List.getD_eq_getElem?_getD, List.getElem?_take, hj]
theorem Bs.mark {B : Nat} {w w' : World} {A : Option Addr} {n : Nat} {xs : List Nat} (h : Bs w A n xs) (k : Mark B w w') : Bs w' A n xs := by
  refine ⟨h.1, h.2.1, fun hn => ?_⟩
  obtain ⟨b, o, e, hc⟩ := h.2.2 hn
  exact ⟨b, o, e, fun j hj => k.cellOf (hc j hj)⟩
theorem Lit8.bs {B : Nat} {e : TypeId} {cs : List Nat} {g n c : Nat} {w : World} (h : Lit8 B e cs (.slice (some ⟨g, 0, none⟩) n c) w) (hx : ∀ x ∈ cs, x < 256) : Bs w (some ⟨g, 0, none⟩) cs.length cs :=
  ⟨rfl, hx, fun _ => ⟨g, 0, rfl, fun j hj => by rw [Nat.zero_add]; exact h.cellAt j hj⟩⟩
theorem Bs.of_own {w : World} {g b e n c : Nat} {xs : List Nat} (h : w.ownsRow b e 1 (.slice (some ⟨g, 0, none⟩) n c) n (xs.map fun k : Nat => Value.int .u8 k)) (hx : ∀ x ∈ xs, x < 256) : Bs w (some ⟨g, 0, none⟩) n xs := by
  have hl : xs.length = n := by have := h.1; simpa using this
  refine ⟨hl, hx, fun _ => ⟨g, 0, rfl, fun j hj => ?_⟩⟩
  have hc := h.cellAt j (by omega)
  rw [Nat.zero_add, hc]
  simp [List.getD_eq_getElem?_getD, hl, hj]
theorem Bs.of_any {w : World} {A : Option Addr} {b e n c : Nat} {xs : List Nat} (h : w.ownsRow b e 1 (.slice A n c) n (xs.map fun k : Nat => Value.int .u8 k)) (hx : ∀ x ∈ xs, x < 256) : Bs w A n xs := by
  have hl : xs.length = n := by have := h.1; simpa using this
  rcases h.2 with ⟨_, h0⟩ | ⟨g, cap, cur, hv, _⟩
  · exact ⟨hl, hx, fun h => by omega⟩
  · injection hv with hv _ _
    subst hv
    exact Bs.of_own h hx
theorem xor3_lt (a b c : List Nat) (ha : ∀ x ∈ a, x < 256) (hb : ∀ x ∈ b, x < 256) (hc : ∀ x ∈ c, x < 256) : ∀ x ∈ xor3 a b c, x < 256 := by
  intro x hx
  unfold xor3 at hx
  obtain ⟨i, hi, rfl⟩ := List.mem_iff_getElem.1 hx
  simp only [List.getElem_zipWith]
  exact Nat.xor_lt_two_pow (n := 8) (Nat.xor_lt_two_pow (n := 8) (ha _ (List.getElem_mem _)) (hb _ (List.getElem_mem _))) (hc _ (List.getElem_mem _))

set_option maxRecDepth 4000 in
set_option maxHeartbeats 2000000 in
theorem walkSumsLinear (W : World) (a0 : Option Addr) (c0 : Nat) (x0 : List (Int)) (_h0 : Sh.Rd W (.sl 1 (.int .u8)) [.slice a0 x0.length c0] x0) (a1 : Option Addr) (c1 : Nat) (x1 : List (Int)) (_h1 : Sh.Rd W (.sl 1 (.int .u8)) [.slice a1 x1.length c1] x1) (a2 : Option Addr) (c2 : Nat) (x2 : List (Int)) (_h2 : Sh.Rd W (.sl 1 (.int .u8)) [.slice a2 x2.length c2] x2) :
    Calls Try.prog 4 #[.slice a0 x0.length c0, .slice a1 x1.length c1, .slice a2 x2.length c2] W fun e w' => e = .returned (.bool true) ∧ Below W.heap.size W w' := by
  obtain ⟨_, b0, hl0, _, _⟩ := rd_bytes _h0
  obtain ⟨_, b1, hl1, _, _⟩ := rd_bytes _h1
  obtain ⟨_, b2, hl2, _, _⟩ := rd_bytes _h2
  have e0 : x0.length ≤ c0 ∧ (a0 = none → c0 = 0) := by
    obtain ⟨_, _, e, h1, _, _, h2, _⟩ := _h0
    injection e with e _; injection e with e1 _ e3; subst e1; subst e3; exact ⟨h1, h2⟩
  have e1 : x1.length ≤ c1 ∧ (a1 = none → c1 = 0) := by
    obtain ⟨_, _, e, h1, _, _, h2, _⟩ := _h1
    injection e with e _; injection e with e1 _ e3; subst e1; subst e3; exact ⟨h1, h2⟩
  have e2 : x2.length ≤ c2 ∧ (a2 = none → c2 = 0) := by
    obtain ⟨_, _, e, h1, _, _, h2, _⟩ := _h2
    injection e with e _; injection e with e1 _ e3; subst e1; subst e3; exact ⟨h1, h2⟩
  clear _h0 _h1 _h2
  generalize x0.map Int.toNat = xs0 at *
  generalize x1.map Int.toNat = xs1 at *
  generalize x2.map Int.toNat = xs2 at *
  generalize x0.length = n0 at *
  generalize x1.length = n1 at *
  generalize x2.length = n2 at *
  obtain ⟨n, hn⟩ : ∃ n, n = min (min n0 n1) n2 := ⟨_, rfl⟩
  have hmin : ∀ w, (Builtin.min_ #[3, 3, 3] 3 #[.int .i64 (n0 : Int), .int .i64 (n1 : Int), .int .i64 (n2 : Int)]).run Try.prog w = .ok (.int .i64 (n : Int)) w := fun w => by
    rw [run_min_int3]
    congr 2
    split <;> split at * <;> omega
  have h0n : n ≤ n0 := by omega
  have h1n : n ≤ n1 := by omega
  have h2n : n ≤ n2 := by omega
  have hs0 : ∀ w, _ := run_pre (P := Try.prog) (t := 29) Try.underlying29 rfl a0 n0 c0 n (by omega) e0.2
  have hs1 : ∀ w, _ := run_pre (P := Try.prog) (t := 29) Try.underlying29 rfl a1 n1 c1 n (by omega) e1.2
  have hs2 : ∀ w, _ := run_pre (P := Try.prog) (t := 29) Try.underlying29 rfl a2 n2 c2 n (by omega) e2.2
  have HS0 := Lib.hid hs0
  have HS1 := Lib.hid hs1
  have HS2 := Lib.hid hs2
  have HB0 := Lib.hid b0
  have HB1 := Lib.hid b1
  have HB2 := Lib.hid b2
  clear hn hs0 hs1 hs2 e0 e1 e2 b0 b1 b2
  go_enter Try.func4, Try.ntmps4
  go_wp2_with (at_make; refine wpList_make rfl (.tmp 17) (.tmp 17) 29 5 rfl Try.underlying29 Try.infoU8 rfl n rfl rfl (by omega) (by unfold maxLen; omega) ?_)
  intro w1 ho1 k1 hz1
  rw [LinSt_zero xs0 xs1 xs2 n] at ho1
  have hb0 : Hid (∀ w, Grow W w → Bs w a0 n0 xs0) := fun w k => HB0.out.keep k (fun _ _ h => h)
  have hb1 : Hid (∀ w, Grow W w → Bs w a1 n1 xs1) := fun w k => HB1.out.keep k (fun _ _ h => h)
  have hb2 : Hid (∀ w, Grow W w → Bs w a2 n2 xs2) := fun w k => HB2.out.keep k (fun _ _ h => h)
  have hgz : W.heap.size < w1.heap.size := by omega
  clear hmin hz1
  go_wp2_with fail
  go_loopw [9] (fun vi wr => ∃ (i : Nat), i ≤ n ∧ vi = .int .i64 i ∧ wr.ownsRow 0 5 1 (.slice (some ⟨W.heap.size, 0, none⟩) n n) n (LinSt xs0 xs1 xs2 n i) ∧ Grow W wr) (fun vi _ => n - (intOf vi).toNat)
  case atStart => exact ⟨0, by omega, rfl, ho1, k1⟩
  case round =>
    clear ho1 k1
    obtain ⟨i, hi, rfl, ho, hk⟩ := hrel
    by_cases hin : i < n
    · obtain ⟨b0, o0, rfl, hc0⟩ := (hb0.out wr hk).2.2 (by omega)
      obtain ⟨b1, o1, rfl, hc1⟩ := (hb1.out wr hk).2.2 (by omega)
      obtain ⟨b2, o2, rfl, hc2⟩ := (hb2.out wr hk).2.2 (by omega)
      have d0 := hc0 i (by omega)
      have d1 := hc1 i (by omega)
      have d2 := hc2 i (by omega)
      have r0 := (HB0.out).byte i
      have r1 := (HB1.out).byte i
      have r2 := (HB2.out).byte i
      have dc := ho.cellAt i (by omega)
      have fr := ho.frozenAt i
      have hset := LinSt_set xs0 xs1 xs2 n i
      generalize xs0.getD i 0 = y0 at *
      generalize xs1.getD i 0 = y1 at *
      generalize xs2.getD i 0 = y2 at *
      have hx01 : (y0 ^^^ y1) < 256 := Nat.xor_lt_two_pow (n := 8) r0 r1
      have e01 : bits .xor .u8 (y0 : Int) (y1 : Int) = ((y0 ^^^ y1 : Nat) : Int) := by
        have := u8_xor (y0 : Int) (y1 : Int) (by omega) (by omega) (by omega) (by omega)
        rwa [Int.toNat_natCast, Int.toNat_natCast] at this
      have e012 : bits .xor .u8 ((y0 ^^^ y1 : Nat) : Int) (y2 : Int) = ((y0 ^^^ y1 ^^^ y2 : Nat) : Int) := by
        have := u8_xor ((y0 ^^^ y1 : Nat) : Int) (y2 : Int) (by omega) (by omega) (by omega) (by omega)
        rwa [Int.toNat_natCast, Int.toNat_natCast] at this
      generalize (y0 ^^^ y1) = y01 at *
      generalize (y01 ^^^ y2) = y at *
      have HSET := Lib.hid hset
      have HO := Lib.hid ho
      have HK := Lib.hid hk
      clear hset ho hk hc0 hc1 hc2
      have hin' : (i : Int) < n := by omega
      have dc' : ∃ u, wr.cell? ⟨W.heap.size, i, none⟩ = some u := by
        rw [dc]
        exact ⟨_, List.getElem?_eq_getElem (by simp [LinSt]; omega)⟩
      clear dc
      obtain ⟨u, dc⟩ := dc'
      go_wp2_with fail
      refine wp_region_seq (by kernel_rfl) (by kernel_rfl) ?_
      go_wp2_with fail
      refine ⟨by kernel_rfl, ?_⟩
      go_wp2_with fail
      go_roundw
      case rel =>
        refine ⟨i + 1, by omega, by go_num, ?_, ?_⟩
        · have := (HO.out.stored i (.int .u8 (y : Int))).1
          rw [HSET.out] at this
          exact this
        · exact (HK.out.setCell (p := ⟨W.heap.size, i, none⟩) (fun h => absurd h (Nat.lt_irrefl _)) _).drew
      case measure => simp [intOf]; omega
    · obtain rfl : i = n := by omega
      rw [LinSt_all xs0 xs1 xs2 _ (by rw [HB0.out.1]; omega) (by rw [HB1.out.1]; omega) (by rw [HB2.out.1]; omega)] at ho
      have HX := Lib.hid (Bs.of_own ho (xor3_lt _ _ _ ((HB0.out.take _ h0n).2.1) ((HB1.out.take _ h1n).2.1) ((HB2.out.take _ h2n).2.1)))
      have HL : Hid ((xs0.take i).length = (xs1.take i).length ∧ (xs0.take i).length = (xs2.take i).length) := by
        have h0 := (HB0.out.take _ h0n).1
        have h1 := (HB1.out.take _ h1n).1
        have h2 := (HB2.out.take _ h2n).1
        exact ⟨by omega, by omega⟩
      have HK := Lib.hid hk
      clear ho hk
      have hl3 := HL.out
      have CX := Lib.hid fun (w : World) (h : Mark W.heap.size wr w) => crc32_is w 0 _ _ i _ (by decide) (HX.out.mark h) (by omega)
      have C0 := Lib.hid fun (w : World) (h : Mark W.heap.size W w) => crc32_is w 0 _ _ c0 _ (by decide) ((HB0.out.mark h).take i h0n) (by omega)
      have C1 := Lib.hid fun (w : World) (h : Mark W.heap.size W w) => crc32_is w 0 _ _ c1 _ (by decide) ((HB1.out.mark h).take i h1n) (by omega)
      have C2 := Lib.hid fun (w : World) (h : Mark W.heap.size W w) => crc32_is w 0 _ _ c2 _ (by decide) ((HB2.out.mark h).take i h2n) (by omega)
      have DX := Lib.hid fun (w : World) (h : Mark W.heap.size wr w) => crcHigh_is w 0 _ _ i _ (by decide) (HX.out.mark h) (by omega)
      have D0 := Lib.hid fun (w : World) (h : Mark W.heap.size W w) => crcHigh_is w 0 _ _ c0 _ (by decide) ((HB0.out.mark h).take i h0n) (by omega)
      have D1 := Lib.hid fun (w : World) (h : Mark W.heap.size W w) => crcHigh_is w 0 _ _ c1 _ (by decide) ((HB1.out.mark h).take i h1n) (by omega)
      have D2 := Lib.hid fun (w : World) (h : Mark W.heap.size W w) => crcHigh_is w 0 _ _ c2 _ (by decide) ((HB2.out.mark h).take i h2n) (by omega)
      have EX := Lib.hid fun (w : World) (h : Mark W.heap.size wr w) => crc64_is w 0 _ _ i _ (by decide) (HX.out.mark h) (by omega)
      have E0 := Lib.hid fun (w : World) (h : Mark W.heap.size W w) => crc64_is w 0 _ _ c0 _ (by decide) ((HB0.out.mark h).take i h0n) (by omega)
      have E1 := Lib.hid fun (w : World) (h : Mark W.heap.size W w) => crc64_is w 0 _ _ c1 _ (by decide) ((HB1.out.mark h).take i h1n) (by omega)
      have E2 := Lib.hid fun (w : World) (h : Mark W.heap.size W w) => crc64_is w 0 _ _ c2 _ (by decide) ((HB2.out.mark h).take i h2n) (by omega)
      rw [crc_three _ _ _ _ _ hl3.1 hl3.2] at CX
      rw [high_three _ _ _ _ _ hl3.1 hl3.2] at DX
      rw [wide_three _ _ _ _ _ hl3.1 hl3.2] at EX
      have hy0 := (hb0.out W (Grow.refl _)).take i h0n
      have hy1 := (hb1.out W (Grow.refl _)).take i h1n
      have hy2 := (hb2.out W (Grow.refl _)).take i h2n
      have l0 := not32_lt _ (crcAll_lt 3988292384 (by decide) _ hy0.2.1 (not32 0) (not32_lt 0 (by decide)))
      have l1 := not32_lt _ (crcAll_lt 3988292384 (by decide) _ hy1.2.1 (not32 0) (not32_lt 0 (by decide)))
      have l2 := not32_lt _ (crcAll_lt 3988292384 (by decide) _ hy2.2.1 (not32 0) (not32_lt 0 (by decide)))
      have m0 := not32_lt _ (crcHi_lt 79764919 (by decide) _ hy0.2.1 (not32 0) (not32_lt 0 (by decide)))
      have m1 := not32_lt _ (crcHi_lt 79764919 (by decide) _ hy1.2.1 (not32 0) (not32_lt 0 (by decide)))
      have m2 := not32_lt _ (crcHi_lt 79764919 (by decide) _ hy2.2.1 (not32 0) (not32_lt 0 (by decide)))
      have p0 := not64_lt _ (crcAll64_lt 14514072000185962306 (by decide) _ hy0.2.1 (not64 0) (not64_lt 0 (by decide)))
      have p1 := not64_lt _ (crcAll64_lt 14514072000185962306 (by decide) _ hy1.2.1 (not64 0) (not64_lt 0 (by decide)))
      have p2 := not64_lt _ (crcAll64_lt 14514072000185962306 (by decide) _ hy2.2.1 (not64 0) (not64_lt 0 (by decide)))
      have E9 : Hid (∀ (w : World) (A : Option Addr), Bs w A 9 [49, 50, 51, 52, 53, 54, 55, 56, 57] → Calls Try.prog 12 #[.int .u64 0, .slice A 9 9] w fun e w' => e = .returned (.int .u64 11051210869376104954) ∧ Grow w w') := fun w A h => by
        have := crc64_is w 0 A 9 9 _ (by decide) h (by decide)
        rw [nine_wide] at this
        exact this
      clear hy0 hy1 hy2 hl3
      generalize not32 (crcAll 3988292384 (not32 0) (xs0.take i)) = v0 at *
      generalize not32 (crcAll 3988292384 (not32 0) (xs1.take i)) = v1 at *
      generalize not32 (crcAll 3988292384 (not32 0) (xs2.take i)) = v2 at *
      generalize not32 (crcHi 79764919 (not32 0) (xs0.take i)) = u0 at *
      generalize not32 (crcHi 79764919 (not32 0) (xs1.take i)) = u1 at *
      generalize not32 (crcHi 79764919 (not32 0) (xs2.take i)) = u2 at *
      generalize not64 (crcAll 14514072000185962306 (not64 0) (xs0.take i)) = t0 at *
      generalize not64 (crcAll 14514072000185962306 (not64 0) (xs1.take i)) = t1 at *
      generalize not64 (crcAll 14514072000185962306 (not64 0) (xs2.take i)) = t2 at *
      have f1 := xor_u32 v0 v1 l0 l1
      have f2 := xor_u32 (v0 ^^^ v1) v2 (Nat.xor_lt_two_pow (n := 32) l0 l1) l2
      have f3 := xor_u32 u0 u1 m0 m1
      have f4 := xor_u32 (u0 ^^^ u1) u2 (Nat.xor_lt_two_pow (n := 32) m0 m1) m2
      have f5 := xor_u64n t0 t1 p0 p1
      have f6 := xor_u64n (t0 ^^^ t1) t2 (Nat.xor_lt_two_pow (n := 64) p0 p1) p2
      generalize v0 ^^^ v1 = v01 at *
      generalize v01 ^^^ v2 = v012 at *
      generalize u0 ^^^ u1 = u01 at *
      generalize u01 ^^^ u2 = u012 at *
      generalize t0 ^^^ t1 = t01 at *
      generalize t01 ^^^ t2 = t012 at *
      clear l0 l1 l2 m0 m1 m2 p0 p1 p2
      have hs0 := HS0.out
      have hs1 := HS1.out
      have hs2 := HS2.out
      go_wp2_with fail
      refine Hv.wp_region_hav (Mark W.heap.size) (fun _ => Lit8 W.heap.size 5 [49, 50, 51, 52, 53, 54, 55, 56, 57]) (⟨Mark.refl, fun _ _ _ => Mark.trans, fun _ _ _ _ h k => h.mark k⟩) [] [56] [(0, [0, 2, 3, 4, 6, 7, 8, 11, 12, 13]), (2, [1]), (2, [5]), (2, [9]), (0, [10]), (2, [14]), (0, [15, 16, 17, 18, 20, 21, 22, 24, 25, 26, 29, 30, 31]), (2, [19]), (2, [23]), (2, [27]), (0, [28]), (2, [32]), (0, [33, 34, 35, 36, 37, 39, 40, 41, 43, 44, 45, 48, 49, 50]), (2, [38]), (2, [42]), (2, [46]), (0, [47]), (2, [51]), (0, [52, 53, 54, 55]), (3, [56]), (2, [57]), (2, [58]), (0, [59, 60, 61])] [(0, 0, [?o0, ?o2, ?o3, ?o4, ?o6, ?o7, ?o8, ?o11, ?o12, ?o13]), (2, 1, [?o1]), (2, 5, [?o5]), (2, 9, [?o9]), (0, 10, [?o10]), (2, 14, [?o14]), (0, 15, [?o15, ?o16, ?o17, ?o18, ?o20, ?o21, ?o22, ?o24, ?o25, ?o26, ?o29, ?o30, ?o31]), (2, 19, [?o19]), (2, 23, [?o23]), (2, 27, [?o27]), (0, 28, [?o28]), (2, 32, [?o32]), (0, 33, [?o33, ?o34, ?o35, ?o36, ?o37, ?o39, ?o40, ?o41, ?o43, ?o44, ?o45, ?o48, ?o49, ?o50]), (2, 38, [?o38]), (2, 42, [?o42]), (2, 46, [?o46]), (0, 47, [?o47]), (2, 51, [?o51]), (0, 52, [?o52, ?o53, ?o54, ?o55]), (3, 56, [?o56]), (2, 57, [?o57]), (2, 58, [?o58]), (0, 59, [?o59, ?o60, ?o61])] [?o0, ?o1, ?o2, ?o3, ?o4, ?o5, ?o6, ?o7, ?o8, ?o9, ?o10, ?o11, ?o12, ?o13, ?o14, ?o15, ?o16, ?o17, ?o18, ?o19, ?o20, ?o21, ?o22, ?o23, ?o24, ?o25, ?o26, ?o27, ?o28, ?o29, ?o30, ?o31, ?o32, ?o33, ?o34, ?o35, ?o36, ?o37, ?o38, ?o39, ?o40, ?o41, ?o42, ?o43, ?o44, ?o45, ?o46, ?o47, ?o48, ?o49, ?o50, ?o51, ?o52, ?o53, ?o54, ?o55, ?o56, ?o57, ?o58, ?o59, ?o60, ?o61] (by kernel_rfl) (by kernel_rfl) (by kernel_rfl) ?_
      have KW : Mark W.heap.size W wr.drew := (Mark.of_grow HK.out).drew
      have KR : Mark W.heap.size wr wr.drew := (Mark.refl wr).drew
      generalize wr.drew = wd at *
      have KD : Mark W.heap.size wd wd := Mark.refl wd
      have KW0 := Lib.hid KW.size
      refine Hv.seg_calm ?_
      go_wp2_with fail
      refine Hv.seg_call (fun w2 q2 => ?_)
      go_wp2_with fail
      refine (CX.out w2 (KR.trans q2)).mono ?_
      rintro e w3 ⟨rfl, q3⟩
      go_wp2_with fail
      refine ⟨Mark.of_grow q3, ?_⟩
      replace KW := KW.trans (q2.trans (Mark.of_grow q3))
      replace KR := KR.trans (q2.trans (Mark.of_grow q3))
      replace KD := KD.trans (q2.trans (Mark.of_grow q3))
      clear q2 q3
      refine Hv.seg_call (fun w2 q2 => ?_)
      go_wp2_with fail
      refine (C0.out w2 (KW.trans q2)).mono ?_
      rintro e w3 ⟨rfl, q3⟩
      go_wp2_with fail
      refine ⟨Mark.of_grow q3, ?_⟩
      replace KW := KW.trans (q2.trans (Mark.of_grow q3))
      replace KR := KR.trans (q2.trans (Mark.of_grow q3))
      replace KD := KD.trans (q2.trans (Mark.of_grow q3))
      clear q2 q3
      refine Hv.seg_call (fun w2 q2 => ?_)
      go_wp2_with fail
      refine (C1.out w2 (KW.trans q2)).mono ?_
      rintro e w3 ⟨rfl, q3⟩
      go_wp2_with fail
      refine ⟨Mark.of_grow q3, ?_⟩
      replace KW := KW.trans (q2.trans (Mark.of_grow q3))
      replace KR := KR.trans (q2.trans (Mark.of_grow q3))
      replace KD := KD.trans (q2.trans (Mark.of_grow q3))
      clear q2 q3
      refine Hv.seg_calm ?_
      go_wp2_with fail
      refine Hv.seg_call (fun w2 q2 => ?_)
      go_wp2_with fail
      refine (C2.out w2 (KW.trans q2)).mono ?_
      rintro e w3 ⟨rfl, q3⟩
      go_wp2_with fail
      refine ⟨Mark.of_grow q3, ?_⟩
      replace KW := KW.trans (q2.trans (Mark.of_grow q3))
      replace KR := KR.trans (q2.trans (Mark.of_grow q3))
      replace KD := KD.trans (q2.trans (Mark.of_grow q3))
      clear q2 q3
      refine Hv.seg_calm ?_
      go_wp2_with fail
      refine Hv.seg_call (fun w2 q2 => ?_)
      go_wp2_with fail
      refine (DX.out w2 (KR.trans q2)).mono ?_
      rintro e w3 ⟨rfl, q3⟩
      go_wp2_with fail
      refine ⟨Mark.of_grow q3, ?_⟩
      replace KW := KW.trans (q2.trans (Mark.of_grow q3))
      replace KR := KR.trans (q2.trans (Mark.of_grow q3))
      replace KD := KD.trans (q2.trans (Mark.of_grow q3))
      clear q2 q3
      refine Hv.seg_call (fun w2 q2 => ?_)
      go_wp2_with fail
      refine (D0.out w2 (KW.trans q2)).mono ?_
      rintro e w3 ⟨rfl, q3⟩
      go_wp2_with fail
      refine ⟨Mark.of_grow q3, ?_⟩
      replace KW := KW.trans (q2.trans (Mark.of_grow q3))
      replace KR := KR.trans (q2.trans (Mark.of_grow q3))
      replace KD := KD.trans (q2.trans (Mark.of_grow q3))
      clear q2 q3
      refine Hv.seg_call (fun w2 q2 => ?_)
      go_wp2_with fail
      refine (D1.out w2 (KW.trans q2)).mono ?_
      rintro e w3 ⟨rfl, q3⟩
      go_wp2_with fail
      refine ⟨Mark.of_grow q3, ?_⟩
      replace KW := KW.trans (q2.trans (Mark.of_grow q3))
      replace KR := KR.trans (q2.trans (Mark.of_grow q3))
      replace KD := KD.trans (q2.trans (Mark.of_grow q3))
      clear q2 q3
      refine Hv.seg_calm ?_
      go_wp2_with fail
      refine Hv.seg_call (fun w2 q2 => ?_)
      go_wp2_with fail
      refine (D2.out w2 (KW.trans q2)).mono ?_
      rintro e w3 ⟨rfl, q3⟩
      go_wp2_with fail
      refine ⟨Mark.of_grow q3, ?_⟩
      replace KW := KW.trans (q2.trans (Mark.of_grow q3))
      replace KR := KR.trans (q2.trans (Mark.of_grow q3))
      replace KD := KD.trans (q2.trans (Mark.of_grow q3))
      clear q2 q3
      refine Hv.seg_calm ?_
      go_wp2_with fail
      refine Hv.seg_call (fun w2 q2 => ?_)
      go_wp2_with fail
      refine (EX.out w2 (KR.trans q2)).mono ?_
      rintro e w3 ⟨rfl, q3⟩
      go_wp2_with fail
      refine ⟨Mark.of_grow q3, ?_⟩
      replace KW := KW.trans (q2.trans (Mark.of_grow q3))
      replace KR := KR.trans (q2.trans (Mark.of_grow q3))
      replace KD := KD.trans (q2.trans (Mark.of_grow q3))
      clear q2 q3
      refine Hv.seg_call (fun w2 q2 => ?_)
      go_wp2_with fail
      refine (E0.out w2 (KW.trans q2)).mono ?_
      rintro e w3 ⟨rfl, q3⟩
      go_wp2_with fail
      refine ⟨Mark.of_grow q3, ?_⟩
      replace KW := KW.trans (q2.trans (Mark.of_grow q3))
      replace KR := KR.trans (q2.trans (Mark.of_grow q3))
      replace KD := KD.trans (q2.trans (Mark.of_grow q3))
      clear q2 q3
      refine Hv.seg_call (fun w2 q2 => ?_)
      go_wp2_with fail
      refine (E1.out w2 (KW.trans q2)).mono ?_
      rintro e w3 ⟨rfl, q3⟩
      go_wp2_with fail
      refine ⟨Mark.of_grow q3, ?_⟩
      replace KW := KW.trans (q2.trans (Mark.of_grow q3))
      replace KR := KR.trans (q2.trans (Mark.of_grow q3))
      replace KD := KD.trans (q2.trans (Mark.of_grow q3))
      clear q2 q3
      refine Hv.seg_calm ?_
      go_wp2_with fail
      refine Hv.seg_call (fun w2 q2 => ?_)
      go_wp2_with fail
      refine (E2.out w2 (KW.trans q2)).mono ?_
      rintro e w3 ⟨rfl, q3⟩
      go_wp2_with fail
      refine ⟨Mark.of_grow q3, ?_⟩
      replace KW := KW.trans (q2.trans (Mark.of_grow q3))
      replace KR := KR.trans (q2.trans (Mark.of_grow q3))
      replace KD := KD.trans (q2.trans (Mark.of_grow q3))
      clear q2 q3
      refine Hv.seg_calm ?_
      go_wp2_with fail
      refine Hv.seg_free (by kernel_rfl) KD ⟨97, rfl, by simp⟩ (fun w2 q2 => ?_) (fun v w3 q3 hV => ?_)
      · go_wp2_with fail
        exact ⟨_, rfl, (Mark.refl _).alloc _, Lit8.new _ _ [49, 50, 51, 52, 53, 54, 55, 56, 57] w2 (Nat.le_trans KW0.out (q2.size))⟩
      obtain ⟨g, f, rfl, hB, hA⟩ := hV
      replace KW := KW.trans q3
      refine Hv.seg_call (fun w2 q2 => ?_)
      have hL : Lit8 W.heap.size 5 [49, 50, 51, 52, 53, 54, 55, 56, 57] (.slice (some ⟨g, 0, none⟩) 9 9) w2 := Lit8.mark ⟨g, f, rfl, hB, hA⟩ q2
      have hm : (convert 29 29 (.slice (some ⟨g, 0, none⟩) 9 9)).run Try.prog w2 = .ok (.slice (some ⟨g, 0, none⟩) 9 9) (w2.freeze ⟨g, 9, none⟩ 1) := by
        obtain ⟨g', f', e, _, hg⟩ := hL
        injection e with e _ _
        injection e with e
        injection e with e _
        subst e
        exact run_mark w2 _ _ _ f' 9 9 _ Try.underlying29 Try.underlying5 hg
      have q4 : Mark W.heap.size w2 (w2.freeze ⟨g, 9, none⟩ 1) := (Mark.refl w2).freeze hB 1
      have hL2 := Lib.hid (Lit8.bs (hL.mark q4) (by decide))
      replace KW := KW.trans (q2.trans q4)
      have Q4 := Lib.hid q4
      clear q4 hL hA
      generalize w2.freeze ⟨g, 9, none⟩ 1 = w4 at *
      go_wp2_with fail
      refine ⟨Q4.out, ?_⟩
      clear hm
      refine Hv.seg_call (fun w5 q5 => ?_)
      go_wp2_with fail
      refine (E9.out w5 _ (hL2.out.mark q5)).mono ?_
      rintro e w6 ⟨rfl, q6⟩
      go_wp2_with fail
      refine ⟨Mark.of_grow q6, ?_⟩
      replace KW := KW.trans (q5.trans (Mark.of_grow q6))
      refine Hv.seg_calm ?_
      go_wp2_with fail
      refine Hv.seg_end ⟨by kernel_rfl, ?_⟩
      go_wp2_with fail
      go_ret
      exact ⟨rfl, KW.below⟩
end Go.Proofs.Ytcackdcjepifpaa
