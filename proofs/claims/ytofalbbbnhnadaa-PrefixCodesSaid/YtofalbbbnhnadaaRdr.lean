/- The reader of bits: its calls. -/
import Derived.Test.YtofalbbbnhnadaaHold
import Derived.Test.YtofalbbbnhnadaaRdrPure
import Derived.Test.YtofalbbbnhnadaaBitsW
namespace Go.Proofs.Ytofalbbbnhnadaa
open Go.RowKit
set_option linter.unusedVariables false

/-- A reader at block g of the bytes xs, which stands at bit at'. -/
def Rr (w : World) (g : Nat) (hi : Bool) (A : Option Addr) (n c : Nat) (xs : List Int) (at' : Nat) : Prop :=
  w.heap[g]? = some (.cells #[.bool true, .bool hi, .slice A n c, .int .i64 at'] 78 (0, 0)) ∧ w.ownsRow 0 5 1 (.slice A n c) n (xs.map (Value.int .u8)) ∧ (∀ x ∈ xs, 0 ≤ x ∧ x < 256)
theorem Rr.keep {S : Nat → Prop} {w w' : World} {g n c at' : Nat} {hi : Bool} {A : Option Addr} {xs : List Int} (h : Rr w g hi A n c xs at') (k : Keeps S w w') (hg : ¬ S g) (hv : ∀ i, (Value.slice A n c).ownBlock = some i → ¬ S i) : Rr w' g hi A n c xs at' :=
  ⟨block_keep h.1 k hg, owns_keep h.2.1 k hv, h.2.2⟩
theorem Rr.ne {w : World} {g n c at' : Nat} {hi : Bool} {A : Option Addr} {xs : List Int} (h : Rr w g hi A n c xs at') : (Value.slice A n c).ownBlock ≠ some g := row_ne h.2.1 h.1 (by decide)
theorem Rr.len {w : World} {g n c at' : Nat} {hi : Bool} {A : Option Addr} {xs : List Int} (h : Rr w g hi A n c xs at') : xs.length = n := by have := h.2.1.1; simpa using this
/-- The reader goes on. -/
theorem Rr.set {w : World} {g n c at' : Nat} {hi : Bool} {A : Option Addr} {xs : List Int} (h : Rr w g hi A n c xs at') (b : Nat) (y : Int) (hy : y = b) : Rr (w.setCell ⟨g, 3, none⟩ (.int .i64 y)) g hi A n c xs b := by
  subst hy
  exact ⟨by have := blk_set h.1 3 (.int .i64 b); simpa using this, row_set_far (p := ⟨g, 3, none⟩) h.2.1 h.ne _, h.2.2⟩
/-- The byte in which the reader stands. -/
theorem Rr.byte {w : World} {g n c at' : Nat} {hi : Bool} {A : Option Addr} {xs : List Int} (h : Rr w g hi A n c xs at') (j : Nat) (hj : j < n) :
    ∃ b, A = some ⟨b, 0, none⟩ ∧ w.cell? ⟨b, j, none⟩ = some (.int .u8 (xs.getD j 0)) ∧ 0 ≤ xs.getD j 0 ∧ xs.getD j 0 < 256 := by
  have hl := h.len
  have hx : xs[j]? = some (xs.getD j 0) := by rw [List.getElem?_eq_getElem (by omega), List.getD_eq_getElem?_getD, List.getElem?_eq_getElem (by omega)]; rfl
  rcases h.2.1.2 with ⟨hv, hn⟩ | ⟨b, cap, cur, hv, _⟩
  · omega
  · injection hv with h1 h2 h3
    subst h1
    refine ⟨b, rfl, ?_, h.2.2 _ (List.mem_of_getElem? hx)⟩
    have hc := h.2.1.cells (g := b) rfl j (.int .u8 (xs.getD j 0)) (by rw [List.getElem?_map, hx]; rfl)
    rwa [Go.WideShapes.add_plain, Nat.zero_add] at hc

theorem byte_div (x : Int) (r : Nat) (h0 : 0 ≤ x) (h1 : x < 256) : 0 ≤ x / 2 ^ r ∧ x / 2 ^ r < 256 := by
  refine ⟨Int.ediv_nonneg h0 (Int.le_of_lt (pow_pos' r)), ?_⟩
  have := Int.ediv_le_self (2 ^ r) h0
  omega
theorem rnone_made (w : World) (g n c at' : Nat) (hi : Bool) (A : Option Addr) (xs : List Int) (h : Rr w g hi A n c xs at') :
    Calls Try.prog 37 #[.pointer (some ⟨g, 0, none⟩)] w fun e w' => e = .returned (.bool false) ∧ w = w' := by
  have c0 := blk_cell h.1 0
  simp at c0
  clear h
  go_enter Try.func37, Try.ntmps37
  go_wp2
  go_ret
  exact ⟨rfl, rfl⟩
theorem at_any (w : World) (g n c at' : Nat) (hi : Bool) (A : Option Addr) (xs : List Int) (h : Rr w g hi A n c xs at') :
    Calls Try.prog 21 #[.pointer (some ⟨g, 0, none⟩)] w fun e w' => e = .returned (.int .i64 at') ∧ w = w' := by
  have c3 := blk_cell h.1 3
  simp at c3
  go_enter Try.func21, Try.ntmps21
  go_wp2_with (go_at_call 37; refine (rnone_made _ g n c at' hi A xs h).mono ?_; rintro e w1 ⟨rfl, rfl⟩)
  go_ret
  exact ⟨rfl, rfl⟩
theorem left_any (w : World) (g n c at' : Nat) (hi : Bool) (A : Option Addr) (xs : List Int) (h : Rr w g hi A n c xs at') (hn : n ≤ 140737488355328) (ha : at' ≤ 8 * n) :
    Calls Try.prog 27 #[.pointer (some ⟨g, 0, none⟩)] w fun e w' => e = .returned (.int .i64 ((8 * n - at' : Nat) : Int)) ∧ w' = w.drew := by
  have c2 := blk_cell h.1 2
  have c3 := blk_cell h.1 3
  simp at c2 c3
  go_enter Try.func27, Try.ntmps27
  go_wp2_with (go_at_call 37; refine (rnone_made _ g n c at' hi A xs h).mono ?_; rintro e w1 ⟨rfl, rfl⟩)
  refine wp_region_seq (by kernel_rfl) (by kernel_rfl) ?_
  go_wp2
  refine ⟨by kernel_rfl, ?_⟩
  go_wp2
  go_ret
  refine ⟨?_, rfl⟩
  rw [show (8 * (n : Int) - at' : Int) = ((8 * n - at' : Nat) : Int) from by omega]
  rfl

set_option maxRecDepth 4000 in
set_option maxHeartbeats 2000000 in
theorem get_yes (w : World) (g m c at' : Nat) (hi : Bool) (A : Option Addr) (xs : List Int) (n : Nat) (h : Rr w g hi A m c xs at') (hm : m ≤ 140737488355328) (hn : n ≤ 64) (ha : at' + n ≤ 8 * m) :
    Calls Try.prog 33 #[.pointer (some ⟨g, 0, none⟩), .int .i64 n] w fun e w' => e = .returned (.tuple #[.int .u64 (numOf hi (((unpk hi xs).drop at').take n)), .int .i64 0]) ∧ Rr w' g hi A m c xs (at' + n) ∧ Keeps (fun k => k = g) w w' := by
  have t1 : (decide ((n : Int) < 0)) = false := by simp
  have t2 : (decide ((64 : Int) < n)) = false := by simp; omega
  have t3 : (decide (((8 * m - at' : Nat) : Int) < n)) = false := by simp; omega
  go_enter Try.func33, Try.ntmps33
  go_wp2_with fail
  go_step3
  go_wp2_with (first
    | (go_at_call 37; refine (rnone_made _ g m c at' hi A xs h).mono ?_; rintro e w1 ⟨rfl, rfl⟩)
    | (go_at_call 27; refine (left_any _ g m c at' hi A xs h hm (by omega)).mono ?_; rintro e w1 ⟨rfl, rfl⟩))
  go_step3
  go_wp2_with fail
  have hd : Rr w.drew g hi A m c xs at' := h
  go_loopw [6, 7] (fun v i wr => ∃ k : Nat, k ≤ n ∧ i = .int .i64 k ∧ v = .int .u64 (numOf hi (((unpk hi xs).drop at').take k)) ∧ Rr wr g hi A m c xs (at' + k) ∧ Keeps (fun k => k = g) w wr) (fun _ i _ => n - (intOf i).toNat)
  case atStart => exact ⟨0, by omega, rfl, by rw [List.take_zero, numOf_nil], hd, (Keeps.refl _ w).drew⟩
  case round =>
    obtain ⟨k, hk, rfl, rfl, hR, hK⟩ := hrel
    have c1 := blk_cell hR.1 1
    have c2 := blk_cell hR.1 2
    have c3 := blk_cell hR.1 3
    have f3 := blk_frozen hR.1 3
    simp at c1 c2 c3
    by_cases hkn : k < n
    · have hr8 : (at' + k) % 8 < 8 := Nat.mod_lt _ (by omega)
      obtain ⟨kk, hkk⟩ : ∃ kk, kk = min (8 - (at' + k) % 8) (n - k) := ⟨_, rfl⟩
      have hxl := hR.len
      obtain ⟨⟨hV0, hV1⟩, ⟨hc0, hc1⟩, hsT, hsF⟩ := get_step hi xs at' k kk (by omega) (by omega) (by omega)
      obtain ⟨q, hq⟩ : ∃ q, q = (at' + k) / 8 := ⟨_, rfl⟩
      obtain ⟨r, hr⟩ : ∃ r, r = (at' + k) % 8 := ⟨_, rfl⟩
      rw [← hr] at hsT hsF hc0 hc1 hkk
      rw [← hq] at hsT hsF hc0 hc1
      obtain ⟨b, rfl, cb, hx0, hx1⟩ := hR.byte q (by omega)
      generalize xs.getD q 0 = x at *
      generalize hVV : numOf hi (((unpk hi xs).drop at').take (k + kk)) = V' at *
      have HV := Lib.hid hVV
      have e7 := and7 ((at' : Int) + k) (by omega) (by omega)
      have e8 : ((at' : Int) + k) % 8 = (r : Int) := by omega
      have eq8 : ((at' : Int) + k) / 8 = (q : Int) := by omega
      have hqm : (q : Int) < m := by omega
      have hk1 : 1 ≤ kk ∧ kk ≤ 8 - r ∧ kk ≤ n - k := by omega
      have hp : (1 : Int) ≤ 2 ^ kk ∧ (2 : Int) ^ kk ≤ 256 := by
        obtain h | h | h | h | h | h | h | h : kk = 1 ∨ kk = 2 ∨ kk = 3 ∨ kk = 4 ∨ kk = 5 ∨ kk = 6 ∨ kk = 7 ∨ kk = 8 := by omega
        all_goals subst h; decide
      have hm := shl1_mask' kk (by omega)
      have f4 : wr.frozen? ⟨g, 3, none⟩ = false := by simpa using f3
      have HR := Lib.hid hR
      have HK := Lib.hid hK
      clear hR hK hq hr t1 t2 t3 h hd f3 hVV hr8 hxl
      generalize numOf hi (((unpk hi xs).drop at').take k) = V at *
      by_cases hc : 8 - r ≤ n - k
      · have e9 : (8 : Int) - r = kk := by omega
        have hk8 : 8 - r - kk = 0 := by omega
        cases hi
        · obtain ⟨hs1, hs2⟩ := hsF rfl
          simp only [if_false, Bool.false_eq_true] at hs1 hs2 hc0 hc1
          have hy := byte_div x r hx0 hx1
          have ha := hm (x / 2 ^ r) hy.1 (by omega)
          generalize hyy : x / 2 ^ r = y at *
          generalize y % 2 ^ kk = ch at *
          generalize hpp : (2 : Int) ^ kk = p at *
          clear hsT hsF hm hkk hk8 hc
          go_wp2_with fail
          refine wp_region_seq (by kernel_rfl) (by kernel_rfl) ?_
          go_wp2_with fail
          refine ⟨by kernel_rfl, ?_⟩
          go_wp2_with fail
          refine wp_region_seq (by kernel_rfl) (by kernel_rfl) ?_
          go_wp2_with fail
          refine ⟨by kernel_rfl, ?_⟩
          clear hs1 hs2 ha hpp hp hV0 hV1 hc0 hc1 hx0 hx1 e7 e8 eq8 e9 cb
          go_wp2_with fail
          go_roundw
          case rel => exact ⟨k + kk, by omega, by go_num, by rw [HV.out], by rw [← Nat.add_assoc]; exact HR.out.set (at' + k + kk) _ (by omega), ((HK.out.drew.setCell (p := ⟨g, 3, none⟩) (fun _ => rfl) _)).drew⟩
          case measure => simp [intOf]; omega
        · obtain ⟨hs1, hs2⟩ := hsT rfl
          simp only [if_true, hk8, Int.pow_zero, Int.ediv_one] at hs1 hs2 hc0 hc1
          have ha := hm x hx0 (by omega)
          generalize x % 2 ^ kk = ch at *
          generalize hpp : (2 : Int) ^ kk = p at *
          clear hsT hsF hm hkk hk8 hc
          go_wp2_with fail
          refine wp_region_seq (by kernel_rfl) (by kernel_rfl) ?_
          go_wp2_with fail
          refine ⟨by kernel_rfl, ?_⟩
          go_wp2_with fail
          refine wp_region_seq (by kernel_rfl) (by kernel_rfl) ?_
          go_wp2_with fail
          refine ⟨by kernel_rfl, ?_⟩
          clear hs1 hs2 ha hpp hp hV0 hV1 hc0 hc1 hx0 hx1 e7 e8 eq8 e9 cb
          go_wp2_with fail
          go_roundw
          case rel => exact ⟨k + kk, by omega, by go_num, by rw [HV.out], by rw [← Nat.add_assoc]; exact HR.out.set (at' + k + kk) _ (by omega), ((HK.out.drew.setCell (p := ⟨g, 3, none⟩) (fun _ => rfl) _)).drew⟩
          case measure => simp [intOf]; omega
      · have e9 : (n : Int) - k = kk := by omega
        obtain ⟨z, hz⟩ : ∃ z, z = 8 - r - kk := ⟨_, rfl⟩
        have ez : (8 : Int) - r - kk = z := by omega
        rw [← hz] at hsT hsF hc0 hc1
        cases hi
        · obtain ⟨hs1, hs2⟩ := hsF rfl
          simp only [if_false, Bool.false_eq_true] at hs1 hs2 hc0 hc1
          have hy := byte_div x r hx0 hx1
          have ha := hm (x / 2 ^ r) hy.1 (by omega)
          generalize hyy : x / 2 ^ r = y at *
          generalize y % 2 ^ kk = ch at *
          generalize hpp : (2 : Int) ^ kk = p at *
          have hc' : (n : Int) - k < 8 - r := by omega
          clear hsT hsF hm hkk hc hz
          go_wp2_with fail
          refine wp_region_seq (by kernel_rfl) (by kernel_rfl) ?_
          go_wp2_with fail
          refine ⟨by kernel_rfl, ?_⟩
          go_wp2_with fail
          refine wp_region_seq (by kernel_rfl) (by kernel_rfl) ?_
          go_wp2_with fail
          refine ⟨by kernel_rfl, ?_⟩
          clear hs1 hs2 ha hpp hp hV0 hV1 hc0 hc1 hx0 hx1 e7 e8 eq8 e9 cb
          go_wp2_with fail
          go_roundw
          case rel => exact ⟨k + kk, by omega, by go_num, by rw [HV.out], by rw [← Nat.add_assoc]; exact HR.out.set (at' + k + kk) _ (by omega), ((HK.out.drew.setCell (p := ⟨g, 3, none⟩) (fun _ => rfl) _)).drew⟩
          case measure => simp [intOf]; omega
        · obtain ⟨hs1, hs2⟩ := hsT rfl
          simp only [if_true] at hs1 hs2 hc0 hc1
          have hy := byte_div x z hx0 hx1
          have ha := hm (x / 2 ^ z) hy.1 (by omega)
          generalize hyy : x / 2 ^ z = y at *
          generalize y % 2 ^ kk = ch at *
          generalize hpp : (2 : Int) ^ kk = p at *
          have hc' : (n : Int) - k < 8 - r := by omega
          have hz64 : z ≤ 8 := by omega
          clear hsT hsF hm hkk hc hz
          go_wp2_with fail
          refine wp_region_seq (by kernel_rfl) (by kernel_rfl) ?_
          go_wp2_with fail
          refine ⟨by kernel_rfl, ?_⟩
          go_wp2_with fail
          refine wp_region_seq (by kernel_rfl) (by kernel_rfl) ?_
          go_wp2_with fail
          refine ⟨by kernel_rfl, ?_⟩
          clear hs1 hs2 ha hpp hp hV0 hV1 hc0 hc1 hx0 hx1 e7 e8 eq8 e9 cb
          go_wp2_with fail
          go_roundw
          case rel => exact ⟨k + kk, by omega, by go_num, by rw [HV.out], by rw [← Nat.add_assoc]; exact HR.out.set (at' + k + kk) _ (by omega), ((HK.out.drew.setCell (p := ⟨g, 3, none⟩) (fun _ => rfl) _)).drew⟩
          case measure => simp [intOf]; omega
    · obtain rfl : k = n := by omega
      go_wp2_with fail
      rw [Exit.noGoto_ret]
      go_ret2
      exact ⟨rfl, hR, hK⟩
end Go.Proofs.Ytofalbbbnhnadaa
