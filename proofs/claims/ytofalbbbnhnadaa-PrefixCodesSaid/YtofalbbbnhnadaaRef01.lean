/- The document's bits: May, Bits, Bytes, Of, Number: what each call comes to. -/
import Derived.Test.YtofalbbbnhnadaaNums
import Derived.Test.YtofalbbbnhnadaaBitsW
import Derived.Test.YtofalbbbnhnadaaRdrPure
namespace Go.Proofs.Ytofalbbbnhnadaa
open Go.RowKit
set_option linter.unusedVariables false
set_option linter.unusedSimpArgs false

theorem Try.infoI64 : (Try.prog.info? 3).map (fun i => (i.zero, i.size, i.bytes)) = some (some (.int .i64 0), 1, 8) := by kernel_rfl

theorem take_bits (hi : Bool) (x : Int) (n k : Nat) (hk : k < n) : (bitsOf hi x n).take (k + 1) = (bitsOf hi x n).take k ++ [x / 2 ^ (if hi then n - 1 - k else k) % 2] := by
  rw [List.take_succ_eq_append_getElem (by simp [bitsOf]; exact hk)]
  simp [bitsOf]
theorem bits_in (l : List Int) (h : IsBits l) : ∀ x ∈ l, inKind .i64 x := fun x hx => by
  rcases h x hx with rfl | rfl <;> exact ⟨by decide, by decide⟩

set_option maxRecDepth 4000 in
set_option maxHeartbeats 1000000 in
theorem refBits_is (w : World) (x : Int) (n : Nat) (hi : Bool) (hx0 : 0 ≤ x) (hx1 : x < 18446744073709551616) (hn : n ≤ 64) :
    Calls Try.prog 38 #[.int .u64 x, .int .i64 n, .bool hi] w fun e w' => ∃ A c, e = .returned (.slice A n c) ∧ w'.ownsRow w.heap.size 3 1 (.slice A n c) n ((bitsOf hi x n).map (Value.int .i64)) ∧ Grow w w' := by
  go_enter Try.func38, Try.ntmps38
  go_wp2_with fail
  go_loopw [7, 8] (fun vo vi wr => ∃ (k : Nat), k ≤ n ∧ vi = .int .i64 k ∧ wr.ownsRow w.heap.size 3 1 vo k (((bitsOf hi x n).take k).map (Value.int .i64)) ∧ Grow w wr) (fun _ vi _ => n - (intOf vi).toNat)
  case atStart => exact ⟨0, by omega, rfl, own_nil _ _ _, Grow.refl _⟩
  case round =>
    obtain ⟨k, hk, rfl, ho, hg⟩ := hrel
    by_cases hkn : k < n
    · have ht := take_bits hi x n k hkn
      obtain ⟨A, c, rfl⟩ := row_form ho
      have hkn' : (k : Int) < n := by omega
      have HO := Lib.hid ho
      have HG := Lib.hid hg
      have hz := hg.size
      have hr := div_pow_range x (if hi then n - 1 - k else k) hx0 hx1
      have ha := and1_u64 _ hr.1 hr.2
      cases hi
      all_goals
        simp only [if_true, if_false, Bool.false_eq_true] at hr ht ha
        (try have hs1 : (n : Int) - 1 - k = ((n - 1 - k : Nat) : Int) := by omega)
        (try have hs2 : n - 1 - k < 64 := by omega)
        (try generalize n - 1 - k = m at *)
        have HT := Lib.hid ht
        clear ht ho hg
        go_wp2_with (at_builtin; refine wpList_app1 rfl (.tmp 21) (.tmp 28) 22 3 rfl Try.underlying22 Try.infoI64 rfl w.heap.size _ k _ rfl HO.out hz rfl rfl (by unfold maxLen; omega) (by omega) ?_)
        intro g cap w1 ho1 hk1 _
        have HO1 := Lib.hid ho1
        have HK1 := Lib.hid (grow_own HG.out HO.out (Nat.le_refl _) hk1)
        clear ho1 hk1
        go_wp2_with fail
        go_roundw
        case rel => exact ⟨k + 1, by omega, by go_num, by rw [HT.out, List.map_append]; first | exact HO1.out | (have := HO1.out; rw [← List.map_take] at this; exact this), HK1.out⟩
        case measure => simp [intOf]; omega
    · obtain rfl : n = k := by omega
      obtain ⟨A, c, rfl⟩ := row_form ho
      have hlen : (bitsOf hi x n).length = n := by simp [bitsOf]
      rw [List.take_of_length_le (by omega)] at ho
      have HO := Lib.hid ho
      clear ho
      go_wp2_with fail
      go_ret
      exact ⟨A, c, rfl, HO.out, hg⟩

/-! ### Bytes -/
def bytesSt (hi : Bool) (L : List Int) (m i : Nat) : List Int := (List.range m).map (byteAt hi (L.take i))
theorem bytesSt_zero (hi : Bool) (L : List Int) (m : Nat) : List.replicate m (Value.int .u8 0) = (bytesSt hi L m 0).map (Value.int .u8) := by
  apply List.ext_getElem
  · simp [bytesSt]
  · intro i h1 h2
    simp [bytesSt, byteAt, byte8]
theorem bytesSt_all (hi : Bool) (L : List Int) : bytesSt hi L ((L.length + 7) / 8) L.length = pk hi L := by
  unfold bytesSt pk
  rw [List.take_length]
theorem bytesSt_step (hi : Bool) (L : List Int) (m i : Nat) (hL : IsBits L) (hi' : i < L.length) (hm : i / 8 < m) :
    (bytesSt hi L m i).set (i / 8) (bits .or .u8 ((bytesSt hi L m i).getD (i / 8) 0) (IntKind.u8.wrap (L.getD i 0 * 2 ^ (if hi then 7 - i % 8 else i % 8)))) = bytesSt hi L m (i + 1) := by
  have hsn : L.take (i + 1) = L.take i ++ [L.getD i 0] := by
    rw [List.take_succ_eq_append_getElem hi']
    simp [List.getD_eq_getElem?_getD, hi']
  have hlen : (L.take i).length = i := by rw [List.length_take]; omega
  have hnew := byteAt_snoc_new hi (L.take i) (L.getD i 0) (fun x hx => hL x (List.mem_of_mem_take hx)) (isBits_getD hL i)
  rw [hlen, ← hsn] at hnew
  apply List.ext_getElem
  · simp [bytesSt]
  · intro j h1 h2
    have hj : j < m := by simpa [bytesSt] using h2
    rw [List.getElem_set]
    by_cases hq : i / 8 = j
    · subst hq
      rw [if_pos rfl]
      simp only [bytesSt, List.getElem_map, List.getElem_range]
      rw [hnew]
      congr 1
      simp [List.getD_eq_getElem?_getD, hm]
    · rw [if_neg hq]
      simp only [bytesSt, List.getElem_map, List.getElem_range]
      unfold byteAt
      have e : ∀ r, r < 8 → (L.take i).getD (8 * j + r) 0 = (L.take (i + 1)).getD (8 * j + r) 0 := fun r hr => by
        simp only [List.getD_eq_getElem?_getD, List.getElem?_take]
        by_cases h : 8 * j + r < i
        · rw [if_pos h, if_pos (by omega)]
        · rw [if_neg h, if_neg (by omega)]
      rw [e 1 (by omega), e 2 (by omega), e 3 (by omega), e 4 (by omega), e 5 (by omega), e 6 (by omega), e 7 (by omega), show 8 * j = 8 * j + 0 from rfl, e 0 (by omega)]
theorem shl_small (x : Int) (r : Nat) (h0 : 0 ≤ x) (h1 : x ≤ 1) (hr : r < 8) : wrap64 (x * 2 ^ r) % 256 = IntKind.u8.wrap (x * 2 ^ r) := by
  have hx : x = 0 ∨ x = 1 := by omega
  have hrr : r = 0 ∨ r = 1 ∨ r = 2 ∨ r = 3 ∨ r = 4 ∨ r = 5 ∨ r = 6 ∨ r = 7 := by omega
  rcases hx with rfl | rfl <;> rcases hrr with rfl | rfl | rfl | rfl | rfl | rfl | rfl | rfl <;> (rw [IntWalk.wrap64_in _ ⟨by decide, by decide⟩, IntKind.wrap_u8])
theorem bytesSt_range (hi : Bool) (L : List Int) (m i : Nat) (hL : IsBits L) (hm : i / 8 < m) : 0 ≤ (bytesSt hi L m i).getD (i / 8) 0 ∧ (bytesSt hi L m i).getD (i / 8) 0 ≤ 255 := by
  have e : (bytesSt hi L m i).getD (i / 8) 0 = byteAt hi (L.take i) (i / 8) := by simp [bytesSt, List.getD_eq_getElem?_getD, hm]
  rw [e]
  exact byteAt_range (fun x hx => hL x (List.mem_of_mem_take hx)) hi _

set_option maxRecDepth 4000 in
set_option maxHeartbeats 1000000 in
theorem refBytes_is (w : World) (A : Option Addr) (n c : Nat) (L : List Int) (hi : Bool) (h : Nums .i64 w A n c L) (hL : IsBits L) (hn : n ≤ 140737488355328) :
    Calls Try.prog 24 #[.slice A n c, .bool hi] w fun e w' => ∃ g, e = .returned (.slice (some ⟨g, 0, none⟩) ((n + 7) / 8) ((n + 7) / 8)) ∧ w'.ownsRow w.heap.size 5 1 (.slice (some ⟨g, 0, none⟩) ((n + 7) / 8) ((n + 7) / 8)) ((n + 7) / 8) ((pk hi L).map (Value.int .u8)) ∧ Grow w w' := by
  have hlen := h.len
  have H := Lib.hid h
  obtain ⟨m, hm⟩ : ∃ m, m = (n + 7) / 8 := ⟨_, rfl⟩
  have hmi : ((n : Int) + 7) / 8 = (m : Int) := by omega
  rw [← hm]
  have hpk : Hid (bytesSt hi L m n = pk hi L) := by have := bytesSt_all hi L; rw [hlen, ← hm] at this; exact this
  have HLEN := Lib.hid hlen
  have hmb : m ≤ 140737488355328 := by omega
  have hm8 : ∀ i, i < n → i / 8 < m := fun i hi => by omega
  have HM8 := Lib.hid hm8
  clear hm h hlen hm8
  go_enter Try.func24, Try.ntmps24
  go_wp2_with (at_make; refine wpList_make rfl (.tmp 11) (.tmp 11) 49 5 rfl Try.underlying49 Try.infoU8 rfl m (congrArg (Value.int .i64) hmi) (congrArg (Value.int .i64) hmi) (by omega) (by unfold maxLen; omega) ?_)
  intro w1 ho1 k1 hz1
  rw [bytesSt_zero hi L m] at ho1
  have ho1 := owns_base ho1 (b' := w.heap.size) (fun k hk => by
    have e : w.heap.size = k := by simpa [Value.ownBlock] using hk
    omega)
  clear hz1
  go_wp2_with fail
  go_loopw [6, 7] (fun vi _ wr => ∃ (i : Nat), i ≤ n ∧ vi = .int .i64 i ∧ wr.ownsRow w.heap.size 5 1 (.slice (some ⟨w.heap.size, 0, none⟩) m m) m ((bytesSt hi L m i).map (Value.int .u8)) ∧ Grow w wr) (fun vi _ _ => n - (intOf vi).toNat)
  case atStart => exact ⟨0, by omega, rfl, ho1, k1⟩
  case round =>
    clear ho1 k1
    obtain ⟨i, hi', rfl, ho, hk⟩ := hrel
    by_cases hin : i < n
    · obtain ⟨b, o, rfl, hc⟩ := (H.out.grow hk).at_ (by omega)
      have d0 := hc i hin
      have hx := isBits_getD hL i
      have hq := HM8.out i hin
      have hst := bytesSt_step hi L m i hL (by rw [HLEN.out]; exact hin) hq
      have hrg := bytesSt_range hi L m i hL hq
      have dc := ho.cellAt (i / 8) (by omega)
      have fr := ho.frozenAt (i / 8)
      have hxy : ((bytesSt hi L m i).map (Value.int .u8))[i / 8]? = some (.int .u8 ((bytesSt hi L m i).getD (i / 8) 0)) := by
        have : i / 8 < (bytesSt hi L m i).length := by simp [bytesSt]; exact hq
        simp [List.getD_eq_getElem?_getD, this]
      rw [hxy] at dc
      have hset := (ho.stored (i / 8) (.int .u8 (bits .or .u8 ((bytesSt hi L m i).getD (i / 8) 0) (IntKind.u8.wrap (L.getD i 0 * 2 ^ (if hi then 7 - i % 8 else i % 8)))))).1
      rw [map_set_u8, hst] at hset
      obtain ⟨q, hqq⟩ : ∃ q, q = i / 8 := ⟨_, rfl⟩
      obtain ⟨r, hrr⟩ : ∃ r, r = i % 8 := ⟨_, rfl⟩
      rw [← hqq] at hset hrg dc fr hq
      rw [← hrr] at hset
      have eq8 : (i : Int) / 8 = (q : Int) := by omega
      have er8 : (i : Int) % 8 = (r : Int) := by omega
      have e7 : (7 : Int) - r = ((7 - r : Nat) : Int) := by omega
      have hr8 : r < 8 := by omega
      have hqm : (q : Int) < m := by omega
      have hxr : 0 ≤ L.getD i 0 ∧ L.getD i 0 ≤ 1 := by omega
      generalize L.getD i 0 = x at *
      generalize (bytesSt hi L m i).getD q 0 = y at *
      have HSET := Lib.hid hset
      have HK := Lib.hid hk
      clear hset hk hc hst hxy ho hqq hrr
      have hin' : (i : Int) < n := by omega
      cases hi
      all_goals
        simp only [if_true, if_false, Bool.false_eq_true] at HSET
        go_wp2_with fail
        refine wp_region_seq (by kernel_rfl) (by kernel_rfl) ?_
        go_wp2_with fail
        refine ⟨by kernel_rfl, ?_⟩
        go_wp2_with fail
        go_roundw
        case rel => 
          refine ⟨i + 1, by omega, by go_num, ?_, ?_⟩
          · rw [shl_small x _ hxr.1 hxr.2 (by omega)]
            exact HSET.out
          · exact (HK.out.setCell (p := ⟨w.heap.size, q, none⟩) (fun h => absurd h (Nat.lt_irrefl _)) _).drew
        case measure => simp [intOf]; omega
    · obtain rfl : n = i := by omega
      rw [hpk.out] at ho
      have HO := Lib.hid ho
      clear ho
      go_wp2_with fail
      go_ret
      exact ⟨_, rfl, HO.out, hk⟩

/-! ### Of -/
theorem take_of (hi : Bool) (b : List Int) (i : Nat) (h : i < 8 * b.length) : (ofBytes hi b).take (i + 1) = (ofBytes hi b).take i ++ [b.getD (i / 8) 0 / 2 ^ (if hi then 7 - i % 8 else i % 8) % 2] := by
  rw [List.take_succ_eq_append_getElem (by rw [ofBytes_length]; exact h)]
  simp [ofBytes]
theorem byte_div' (x : Int) (r : Nat) (h0 : 0 ≤ x) (h1 : x < 256) : 0 ≤ x / 2 ^ r ∧ x / 2 ^ r < 256 := by
  have hp : 0 ≤ x / 2 ^ r := Int.ediv_nonneg h0 (Int.le_of_lt (Int.pow_pos (by decide)))
  have hle : x / 2 ^ r ≤ x := Int.ediv_le_self _ h0
  omega
theorem bit8 (x : Int) (r : Nat) (h0 : 0 ≤ x) (h1 : x < 256) : bits .and .u8 (x / 2 ^ r) 1 = x / 2 ^ r % 2 := by
  have hp : 0 ≤ x / 2 ^ r := Int.ediv_nonneg h0 (Int.le_of_lt (Int.pow_pos (by decide)))
  have hle : x / 2 ^ r ≤ x := Int.ediv_le_self _ h0
  exact bits_mask .u8 8 (by decide) (fun m a b => by rw [IntKind.wrap_u8]; omega) 1 (by decide) _ hp (by omega)

set_option maxRecDepth 4000 in
set_option maxHeartbeats 1000000 in
theorem refOf_is (w : World) (A : Option Addr) (n c : Nat) (b : List Int) (hi : Bool) (h : Nums .u8 w A n c b) (hn : n ≤ 1099511627776) :
    Calls Try.prog 25 #[.slice A n c, .bool hi] w fun e w' => ∃ A' c', e = .returned (.slice A' (8 * n) c') ∧ w'.ownsRow w.heap.size 3 1 (.slice A' (8 * n) c') (8 * n) ((ofBytes hi b).map (Value.int .i64)) ∧ Grow w w' := by
  have H := Lib.hid h
  have HLEN := Lib.hid h.len
  clear h
  go_enter Try.func25, Try.ntmps25
  go_wp2_with fail
  go_loopw [5, 6, 7] (fun vo vi _ wr => ∃ (i : Nat), i ≤ 8 * n ∧ vi = .int .i64 i ∧ wr.ownsRow w.heap.size 3 1 vo i (((ofBytes hi b).take i).map (Value.int .i64)) ∧ Grow w wr) (fun _ vi _ _ => 8 * n - (intOf vi).toNat)
  case atStart => exact ⟨0, by omega, rfl, own_nil _ _ _, Grow.refl _⟩
  case round =>
    obtain ⟨i, hi', rfl, ho, hg⟩ := hrel
    by_cases hin : i < 8 * n
    · obtain ⟨bb, o, rfl, hc⟩ := (H.out.grow hg).at_ (by omega)
      have ht := take_of hi b i (by rw [HLEN.out]; exact hin)
      obtain ⟨A, c', rfl⟩ := row_form ho
      obtain ⟨q, hqq⟩ : ∃ q, q = i / 8 := ⟨_, rfl⟩
      obtain ⟨r, hrr⟩ : ∃ r, r = i % 8 := ⟨_, rfl⟩
      rw [← hqq, ← hrr] at ht
      have eq8 : (i : Int) / 8 = (q : Int) := by omega
      have er8 : (i : Int) % 8 = (r : Int) := by omega
      have e7 : (7 : Int) - r = ((7 - r : Nat) : Int) := by omega
      have hr8 : r < 8 := by omega
      have hqn : (q : Int) < n := by omega
      have d0 := hc q (by omega)
      have hx := H.out.byte q
      have hin' : (i : Int) < 8 * n := by omega
      have hz := hg.size
      generalize b.getD q 0 = x at *
      have ha := bit8 x (if hi then 7 - r else r) hx.1 hx.2
      have hdr := byte_div' x (if hi then 7 - r else r) hx.1 hx.2
      have HO := Lib.hid ho
      have HG := Lib.hid hg
      clear hc hqq hrr ho hg
      cases hi
      all_goals
        simp only [if_true, if_false, Bool.false_eq_true] at ht ha hdr
        (try have hs2 : 7 - r < 8 := by omega)
        (try generalize 7 - r = m at *)
        have HT := Lib.hid ht
        clear ht
        go_wp2_with (at_builtin; refine wpList_app1 rfl (.tmp 20) (.tmp 31) 22 3 rfl Try.underlying22 Try.infoI64 rfl w.heap.size _ i _ rfl HO.out hz rfl rfl (by unfold maxLen; omega) (by omega) ?_)
        intro g cap w1 ho1 hk1 _
        have HO1 := Lib.hid ho1
        have HK1 := Lib.hid (grow_own HG.out HO.out (Nat.le_refl _) hk1)
        clear ho1 hk1
        go_wp2_with fail
        go_roundw
        case rel => exact ⟨i + 1, by omega, by go_num, by rw [HT.out, List.map_append]; first | exact HO1.out | (have := HO1.out; rw [← List.map_take] at this; exact this), HK1.out⟩
        case measure => simp [intOf]; omega
    · obtain rfl : i = 8 * n := by omega
      obtain ⟨A, c', rfl⟩ := row_form ho
      rw [List.take_of_length_le (by rw [ofBytes_length, HLEN.out]; omega)] at ho
      have HO := Lib.hid ho
      clear ho
      go_wp2_with fail
      go_ret
      exact ⟨A, c', rfl, HO.out, hg⟩

/-! ### Number -/
def numSt (hi : Bool) (L : List Int) (n i : Nat) : Int := if hi then numOf true (L.take i) * 2 ^ (n - i) else numOf false (L.take i)
theorem numSt_all (hi : Bool) (L : List Int) : numSt hi L L.length L.length = numOf hi L := by
  unfold numSt
  rw [List.take_length, Nat.sub_self, Int.pow_zero, Int.mul_one]
  cases hi <;> rfl
theorem numSt_step (hi : Bool) (L : List Int) (n i : Nat) (hL : IsBits L) (hn : n ≤ 64) (hl : L.length = n) (hi' : i < n) :
    bits .or .u64 (numSt hi L n i) (L.getD i 0 * 2 ^ (if hi then n - 1 - i else i) % 18446744073709551616) = numSt hi L n (i + 1) := by
  have hsn : L.take (i + 1) = L.take i ++ [L.getD i 0] := by
    rw [List.take_succ_eq_append_getElem (by omega)]
    simp [List.getD_eq_getElem?_getD, hl, hi']
  have hlen : (L.take i).length = i := by rw [List.length_take]; omega
  have hx := isBits_getD hL i
  have hV := fun h => numOf_range h (L.take i) (fun x hx => hL x (List.mem_of_mem_take hx))
  rw [hlen] at hV
  have hp : ∀ k : Nat, (0 : Int) < 2 ^ k := fun k => Int.pow_pos (by decide)
  have hpm : ∀ k m : Nat, k ≤ m → (2 : Int) ^ k ≤ 2 ^ m := fun k m h => by
    obtain ⟨d, rfl⟩ : ∃ d, m = k + d := ⟨m - k, by omega⟩
    rw [Int.pow_add]
    have h1 := hp d
    have h2 := hp k
    calc (2 : Int) ^ k = 2 ^ k * 1 := by rw [Int.mul_one]
      _ ≤ 2 ^ k * 2 ^ d := Int.mul_le_mul_of_nonneg_left (by omega) (by omega)
  have h64 : (2 : Int) ^ 64 = 18446744073709551616 := by decide
  unfold numSt
  rw [hsn]
  generalize L.getD i 0 = x at *
  cases hi
  · simp only [if_false, Bool.false_eq_true]
    have hV := hV false
    rw [numOf_append, numOf_one]
    simp only [if_false, Bool.false_eq_true, hlen]
    generalize numOf false (L.take i) = V at *
    have hi64 := hpm (i + 1) 64 (by omega)
    rw [Int.pow_succ, h64] at hi64
    have hxp : 0 ≤ x * 2 ^ i ∧ x * 2 ^ i ≤ 2 ^ i := by rcases hx with rfl | rfl <;> have := hp i <;> omega
    rw [Int.emod_eq_of_lt hxp.1 (by omega), or_comm64 _ _ hV.1 (by omega) hxp.1 (by omega), or_join i x V (by omega) hV.1 hV.2 (by omega), Int.mul_comm x, Int.add_comm]
  · simp only [if_true]
    have hV := hV true
    rw [numOf_append, numOf_one]
    simp only [if_true, List.length_singleton, Int.pow_one]
    generalize numOf true (L.take i) = V at *
    have e1 : n - i = (n - 1 - i) + 1 := by omega
    have e2 : n - (i + 1) = n - 1 - i := by omega
    rw [e1, e2]
    obtain ⟨m, hm⟩ : ∃ m, m = n - 1 - i := ⟨_, rfl⟩
    rw [← hm]
    have hb : (2 : Int) ^ i * 2 ^ (m + 1) ≤ 18446744073709551616 := by rw [← Int.pow_add, ← h64]; exact hpm _ _ (by omega)
    have hxp : 0 ≤ x * 2 ^ m ∧ x * 2 ^ m ≤ 2 ^ m := by rcases hx with rfl | rfl <;> have := hp m <;> omega
    have hm64 := hpm (m + 1) 64 (by omega)
    rw [Int.pow_succ, h64] at hm64
    have hxlt : x * 2 ^ m < 2 ^ (m + 1) := by rw [Int.pow_succ]; have := hp m; omega
    have hside := side_lt V (2 ^ (m + 1)) (2 ^ i) (x * 2 ^ m) hV.2 hxlt (hp _) hb
    rw [Int.emod_eq_of_lt hxp.1 (by omega), or_join (m + 1) V (x * 2 ^ m) hV.1 hxp.1 hxlt hside]
    rw [Int.pow_succ, Int.add_mul, Int.mul_assoc, Int.mul_comm (2 ^ m : Int) 2]

end Go.Proofs.Ytofalbbbnhnadaa
