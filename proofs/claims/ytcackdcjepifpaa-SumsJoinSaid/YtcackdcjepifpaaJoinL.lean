/- The document's join: the walk; the law SumsJoin. -/
import Derived.Test.YtcackdcjepifpaaJoinR
import Derived.Test.YtcackdcjepifpaaRd
namespace Go.Proofs.Ytcackdcjepifpaa
open Go.RowKit
set_option linter.unusedVariables false
set_option linter.unusedSimpArgs false

theorem shl_one (i : Nat) (hi : i < 32) : IntKind.u32.wrap (2 ^ i) = ((2 ^ i : Nat) : Int) := by
  have h : (2 : Int) ^ i = ((2 ^ i : Nat) : Int) := by rw [Int.natCast_pow]; rfl
  have h2 : 2 ^ i < 4294967296 := Nat.pow_lt_pow_right (n := 32) (by decide) hi
  rw [h, IntKind.wrap_u32]
  generalize 2 ^ i = y at *
  omega
theorem pow_lt32 (i : Nat) (hi : i < 32) : 2 ^ i < 4294967296 := Nat.pow_lt_pow_right (n := 32) (by decide) hi
theorem mat_congr {f g : Nat → Nat} (h : ∀ i, i < 32 → f i = g i) : mat f = mat g := by
  apply Array.ext_getElem?
  intro j
  by_cases hj : j < 32
  · rw [mat_get _ j hj, mat_get _ j hj, h j hj]
  · rw [Array.getElem?_eq_none (by simp [mat]; omega), Array.getElem?_eq_none (by simp [mat]; omega)]
theorem Mt.congr {w : World} {g : Nat} {f h : Nat → Nat} (k : Mt w g f) (e : ∀ i, i < 32 → f i = h i) : Mt w g h := by
  unfold Mt at k ⊢
  rw [← mat_congr e]
  exact k
theorem Mt.storeCells {w : World} {g : Nat} {m : Nat → Nat} (h : Mt w g m) (m' : Nat → Nat) : (storeCells ⟨g, 0, none⟩ (mat m').toList).run Try.prog w = .ok () (w.setCells g 0 (mat m').toList) := by
  have := run_storeCells_cells (P := Try.prog) g 0 (mat m').toList 0 w (fun j hj => by
    have hj : j < 32 := by simpa [mat] using hj
    rw [show 0 + 0 + j = j from by omega, h.cell j hj]; rfl) (fun j hj => by exact blk_frozen h _)
    (fun v hv => (Array.all_eq_true_iff_forall_mem.1 (mat_one m')) v (by simpa using hv))
  simpa using this
/-- A whole matrix is stored: what the walk asks, and what it comes to. -/
theorem Mt.over {w : World} {g : Nat} {m : Nat → Nat} (h : Mt w g m) (m' : Nat → Nat) : ∃ w', (Go.storeCells ⟨g, 0, none⟩ (mat m').toList).run Try.prog w = .ok () w' ∧ Mt w' g m' ∧ Keeps (fun k => k = g) w w' :=
  ⟨_, h.storeCells m', h.stored m', keeps_setCells (S := fun k => k = g) rfl _ _ _ _ (Keeps.refl _ _)⟩
/-- The matrix of a map. -/
def colz (n : Nat) (i : Nat) : Nat := if i < 32 then Zn n (2 ^ i) else 0
theorem colz_lt (n i : Nat) : colz n i < 4294967296 := by
  unfold colz
  split
  · rename_i h; exact Zn_lt n _ (pow_lt32 i h)
  · decide
theorem ofk_congr {f g : Nat → Nat} (r : Nat) : ∀ k, (∀ i, i < k → f i = g i) → ofk f r k = ofk g r k
  | 0, _ => rfl
  | k + 1, h => by
    unfold ofk
    rw [ofk_congr r k (fun i hi => h i (by omega)), h k (by omega)]
theorem ofk_colz (n r : Nat) (hr : r < 4294967296) : ofk (colz n) r 32 = Zn n r := by
  rw [ofk_congr (g := fun i => Zn n (2 ^ i)) r 32 (fun i hi => by unfold colz; rw [if_pos hi]), ofk_lin (Zn_lin n) r 32, Nat.mod_eq_of_lt hr]
theorem twice_colz (n i : Nat) (hi : i < 32) : ofk (colz n) (colz n i) 32 = colz (n + n) i := by
  rw [ofk_colz n _ (colz_lt n i)]
  unfold colz
  rw [if_pos hi, if_pos hi, Zn_add]

set_option maxRecDepth 4000 in
set_option maxHeartbeats 1000000 in
theorem refJoin_is (w : World) (a b : Nat) (n : Int) (ha : a < 4294967296) (hb : b < 4294967296) (hn : n ≤ 9223372036854775807) :
    Calls Try.prog 9 #[.int .u32 a, .int .u32 b, .int .i64 n] w fun e w' => e = .returned (if n < 0 then .tuple #[.int .u32 0, .int .i64 2] else .tuple #[.int .u32 (Zn (8 * n.toNat) a ^^^ b : Nat), .int .i64 0]) ∧ Grow w w' := by
  by_cases hneg : n < 0
  · rw [if_pos hneg]
    go_enter Try.func9, Try.ntmps9
    go_wp2_with fail
    go_ret2
    exact ⟨rfl, Grow.refl _⟩
  rw [if_neg hneg]
  obtain ⟨q, rfl⟩ := Int.eq_ofNat_of_zero_le (show 0 ≤ n by omega)
  rw [Int.toNat_natCast]
  have HA := Lib.hid ha
  have HB := Lib.hid hb
  clear ha hb hneg
  go_enter Try.func9, Try.ntmps9
  go_wp2_with fail
  rw [mat_zero]
  obtain ⟨w1, hw1⟩ : ∃ w1, w1 = w.alloc (.cells (mat fun _ => 0) 40) := ⟨_, rfl⟩
  have hM : Mt w1 w.heap.size (fun _ => 0) := by subst hw1; exact heap_alloc_new w _
  have hK : Grow w w1 := by subst hw1; exact (Keeps.refl (fun _ => False) _).alloc _
  rw [← hw1]
  clear hw1
  go_loopw [9] (fun vi wr => ∃ (i : Nat), i ≤ 32 ∧ vi = .int .i64 i ∧ Mt wr w.heap.size (fun j => if j < i then colz 1 j else 0) ∧ Grow w wr) (fun vi _ => 32 - (intOf vi).toNat)
  case atStart => exact ⟨0, by omega, rfl, by simpa using hM, hK⟩
  case round =>
    obtain ⟨i, hi, rfl, hM, hK⟩ := hrel
    by_cases h32 : i < 32
    · have h32' : (i : Int) < 32 := by omega
      have hsh := shl_one i h32
      have hcc := hM.cell i h32
      have hff := blk_frozen hM i
      have hcz : ZZ (2 ^ i) = colz 1 i := by unfold colz; rw [if_pos h32]; rfl
      go_wp2_with fail
      refine (zero_is wr (2 ^ i) (pow_lt32 i h32)).mono ?_
      rintro e w2 ⟨rfl, rfl⟩
      rw [hcz]
      go_wp2_with fail
      go_roundw
      case rel =>
        refine ⟨i + 1, by omega, by go_num, Mt.congr (hM.put i (colz 1 i) h32) ?_, Keeps.setCell hK (p := ⟨w.heap.size, i, none⟩) (fun h => by simp at h) _⟩
        intro j hj
        by_cases h1 : j = i
        · subst h1; rw [if_pos rfl, if_pos (by omega)]
        · rw [if_neg h1]
          by_cases h2 : j < i
          · rw [if_pos h2, if_pos (by omega)]
          · rw [if_neg h2, if_neg (by omega)]
      case measure => simp [intOf]; omega
    · obtain rfl : i = 32 := by omega
      go_wp2_with fail
      have hM1 : Mt wr w.heap.size (colz 1) := hM.congr fun j hj => by rw [if_pos hj]
      clear hM
      go_loopw [10] (fun vi wr => ∃ (i : Nat), i ≤ 3 ∧ vi = .int .i64 i ∧ Mt wr w.heap.size (colz (2 ^ i)) ∧ Grow w wr) (fun vi _ => 3 - (intOf vi).toNat)
      case atStart => exact ⟨0, by omega, rfl, hM1, hK⟩
      case round =>
        obtain ⟨i, hi, rfl, hM, hK⟩ := hrel
        by_cases h3 : i < 3
        · have h3' : (i : Int) < 3 := by omega
          go_upto_region 11 with fail
          refine wp_region_lit ?_
          refine wpList_load_mat rfl _ rfl w.heap.size rfl _ hM ?_
          go_wp2_with fail
          refine (twice_is _ (colz (2 ^ i)) (colz_lt _)).mono ?_
          rintro e w5 ⟨rfl, k5⟩
          have hM5 := hM.keep k5 (fun h => h)
          obtain ⟨w6, hst, hM6, hk6⟩ := hM5.over (fun i_1 => ofk (colz (2 ^ i)) (colz (2 ^ i) i_1) 32)
          have hM7 : Mt w6 w.heap.size (colz (2 ^ (i + 1))) := hM6.congr (fun j hj => by rw [twice_colz _ _ hj, Nat.pow_succ, Nat.mul_two])
          have hK6 : Grow w w6 := Keeps.trans (Grow.trans _ _ _ hK k5) hk6 (fun j hj h => by omega)
          clear hM5 hM6 hk6
          go_wp2_with fail
          clear hst
          go_roundw
          case rel => (repeat apply Exists.intro); exact ⟨⟨i + 1, by omega, by go_num, hM7, hK6⟩, rfl⟩
          case measure => simp [intOf]; omega
        · obtain rfl : i = 3 := by omega
          have hM8 : Mt wr w.heap.size (colz 8) := hM
          clear hM
          go_wp2_with fail
          go_loopw [0, 2] (fun va vn wr => ∃ (k p x : Nat), k ≤ q ∧ vn = .int .i64 k ∧ va = .int .u32 (Zn p a : Nat) ∧ Mt wr w.heap.size (colz x) ∧ Hid (p + x * k = 8 * q) ∧ Grow w wr) (fun _ vn _ => (intOf vn).toNat)
          case atStart => exact ⟨q, 0, 8, by omega, rfl, rfl, hM8, (by omega : 0 + 8 * q = 8 * q), hK⟩
          case round =>
            obtain ⟨k, p, x, hk, rfl, rfl, hM, hpx, hK⟩ := hrel
            by_cases hk0 : k = 0
            · subst hk0
              have hp8 : p = 8 * q := by have : p + x * 0 = 8 * q := hpx; omega
              subst hp8
              clear hpx
              have hx := xor_u32 (Zn (8 * q) a) b (Zn_lt _ _ HA.out) HB.out
              go_wp2_with fail
              go_ret2
              exact ⟨rfl, hK⟩
            · have h1 : (0 : Int) < k := by omega
              have hk2 : k = 2 * (k / 2) + k % 2 := by omega
              have hmul : x * k = (x + x) * (k / 2) + x * (k % 2) := by
                conv => lhs; rw [hk2]
                rw [Nat.mul_add, Nat.add_mul, ← Nat.mul_assoc, Nat.mul_comm x 2, Nat.two_mul, Nat.add_mul]
              have hpx' : p + x * k = 8 * q := hpx
              have HE : Hid (p + ((x + x) * (k / 2) + x * (k % 2)) = 8 * q) := by show _ = _; rw [← hmul]; exact hpx'
              have hof : ofk (colz x) (Zn p a) 32 = Zn (p + x) a := by rw [ofk_colz _ _ (Zn_lt _ _ HA.out), ← Zn_add]
              have HO := Lib.hid hof
              clear hk2 hmul hpx' hpx hof
              rcases Nat.mod_two_eq_zero_or_one k with hm | hm
              · rw [hm] at HE
                have hmi : (k : Int) % 2 = 0 := by omega
                clear hm
                go_upto_region 15 with fail
                refine wp_region_lit ?_
                refine wpList_load_mat rfl _ rfl w.heap.size rfl _ hM ?_
                go_wp2_with fail
                refine (twice_is _ (colz x) (colz_lt _)).mono ?_
                rintro e w7 ⟨rfl, k7⟩
                have hM7 := hM.keep k7 (fun h => h)
                obtain ⟨w8, hst, hM8, hk8⟩ := hM7.over (fun i_1 => ofk (colz x) (colz x i_1) 32)
                have hM9 : Mt w8 w.heap.size (colz (x + x)) := hM8.congr (fun j hj => by rw [twice_colz _ _ hj])
                have hK8 : Grow w w8 := Keeps.trans (Grow.trans _ _ _ hK k7) hk8 (fun j hj h => by omega)
                clear hM8 hk8 k7 hM7
                go_wp2_with fail
                clear hst
                go_roundw
                case rel => (repeat apply Exists.intro); exact ⟨⟨k / 2, p, x + x, by omega, rfl, rfl, hM9, by have := HE.out; show p + (x + x) * (k / 2) = 8 * q; omega, hK8⟩, rfl⟩
                case measure => simp [intOf]; omega
              · rw [hm] at HE
                have hmi : (k : Int) % 2 = 1 := by omega
                clear hm
                go_upto_region 14 with fail
                refine wp_region_lit ?_
                refine wpList_load_mat rfl _ rfl w.heap.size rfl _ hM ?_
                go_wp2_with fail
                refine (of_is _ (colz x) (colz_lt _) (Zn p a) (Zn_lt _ _ HA.out)).mono ?_
                rintro e w5 ⟨rfl, k5⟩
                rw [HO.out]
                have hM5 := hM.keep k5 (fun h => h)
                have hK5 : Grow w w5 := Grow.trans _ _ _ hK k5
                clear hM hK k5
                go_upto_region 15 with fail
                refine wp_region_lit ?_
                refine wpList_load_mat rfl _ rfl w.heap.size rfl _ hM5 ?_
                go_wp2_with fail
                refine (twice_is _ (colz x) (colz_lt _)).mono ?_
                rintro e w7 ⟨rfl, k7⟩
                have hM7 := hM5.keep k7 (fun h => h)
                obtain ⟨w8, hst, hM8, hk8⟩ := hM7.over (fun i_1 => ofk (colz x) (colz x i_1) 32)
                have hM9 : Mt w8 w.heap.size (colz (x + x)) := hM8.congr (fun j hj => by rw [twice_colz _ _ hj])
                have hK8 : Grow w w8 := Keeps.trans (Grow.trans _ _ _ hK5 k7) hk8 (fun j hj h => by omega)
                clear hM8 hk8 k7 hM7
                go_wp2_with fail
                clear hst
                go_roundw
                case rel => (repeat apply Exists.intro); exact ⟨⟨k / 2, (p + x), x + x, by omega, rfl, rfl, hM9, by have := HE.out; show (p + x) + (x + x) * (k / 2) = 8 * q; omega, hK8⟩, rfl⟩
                case measure => simp [intOf]; omega
end Go.Proofs.Ytcackdcjepifpaa
