/- A number's bits are its parts' bits, one behind the other, in either order: the law BitsParts. -/
import Derived.Test.YtofalbbbnhnadaaBitsW
import Derived.Test.YtofalbbbnhnadaaHold
namespace Go.Proofs.Ytofalbbbnhnadaa
open Go.RowKit
set_option linter.unusedVariables false

theorem run_str {P : Program} {w : World} {b n : Nat} {e' src dst e : TypeId} {A : Option Addr} {c : Nat} {xs : List Int} (hs : P.underlying src = some (.slice e)) (he : P.underlying e = some (.int .u8)) (hd : P.underlying dst = some .string)
    (h : w.ownsRow b e' 1 (.slice A n c) n (xs.map (Value.int .u8))) : (convert src dst (.slice A n c)).run P w = .ok (.string (strOfNums xs)) w := by
  have hl : xs.length = n := by have := h.1; simpa using this
  rcases h.2 with ⟨hv, hn⟩ | ⟨g, cap, cur, hv, _⟩
  · injection hv with h1 h2 h3
    subst h1; subst h2; subst h3
    obtain rfl : xs = [] := List.eq_nil_of_length_eq_zero hl
    exact run_convert_bytes_nil w src e hs he 0 0 dst hd
  · injection hv with h1 h2 h3
    subst h1
    refine run_convert_bytes_arg w src e hs he g 0 n c xs hl (fun i hi => ?_) dst hd
    have hc := h.cells (g := g) rfl i (.int .u8 (xs.getD i 0)) (by simp [List.getElem?_eq_getElem (show i < xs.length by omega), List.getD_eq_getElem?_getD])
    rwa [Go.WideShapes.add_plain] at hc

/-- Two rows lie in two blocks. -/
def Apart (v v' : Value) : Prop := ∀ i, v.ownBlock = some i → v'.ownBlock ≠ some i
theorem Apart.nil (v : Value) (n c : Nat) : Apart v (.slice none n c) := fun _ _ h => by simp [Value.ownBlock] at h
theorem Apart.symm {v v' : Value} (h : Apart v v') : Apart v' v := fun i h1 h2 => h i h2 h1
/-- The row is the call's own. -/
def Far (W : World) (v : Value) : Prop := ∀ i, v.ownBlock = some i → W.heap.size ≤ i
theorem Far.nil (W : World) (n c : Nat) : Far W (.slice none n c) := fun _ h => by simp [Value.ownBlock] at h

/-- A writer stands while another is written. -/
theorem Wr.step {w w' : World} {g1 g2 : Nat} {h1 h2 : Bool} {v1 v2 v2' : Value} {l1 l2 : List Int} (ha : Wr w g1 h1 v1 l1) (hb : Wr w g2 h2 v2 l2) (hg : g1 ≠ g2) (hap : Apart v1 v2) (k : WrKeep w w' g2 v2 v2') :
    Wr w' g1 h1 v1 l1 ∧ Apart v1 v2' := by
  refine ⟨ha.keep k.1 ?_ ?_, ?_⟩
  · rintro (h | h)
    · exact hg h
    · exact row_ne hb.2.2 ha.2.1 (by decide) h
  · rintro i hi (h | h)
    · subst h; exact row_ne ha.2.2 hb.2.1 (by decide) hi
    · exact hap i hi h
  · intro i hi h
    rcases k.2 with e | ⟨j, e, hj⟩
    · rw [e] at h; exact hap i hi h
    · rw [e] at h
      injection h with h
      have := row_lt ha.2.2 i hi
      omega
/-- What was there ahead of the call stands. -/
theorem WrKeep.far {W w w' : World} {g : Nat} {v v' : Value} (h : Keeps (fun _ => False) W w) (hg : W.heap.size ≤ g) (hv : Far W v) (k : WrKeep w w' g v v') : Keeps (fun _ => False) W w' ∧ Far W v' := by
  refine ⟨h.trans k.1 (fun i hi hs => ?_), fun i hi => ?_⟩
  · rcases hs with hs | hs
    · omega
    · have := hv i hs; omega
  · rcases k.2 with e | ⟨j, e, hj⟩
    · rw [e] at hi; exact hv i hi
    · rw [e] at hi
      injection hi with hi
      have := h.size
      omega

/-- The bits of a number and of its two parts. -/
theorem bitsOf_parts (hi : Bool) (v : Int) (k : Nat) (hk : k ≤ 64) (h0 : 0 ≤ v) (h1 : v < 18446744073709551616) :
    bitsOf hi v 64 = if hi then bitsOf hi (v / 2 ^ k) (64 - k) ++ bitsOf hi (v % 2 ^ k) k else bitsOf hi (v % 2 ^ k) k ++ bitsOf hi (v / 2 ^ k) (64 - k) := by
  have hp : ∀ j : Nat, (0 : Int) < 2 ^ j := fun j => Int.pow_pos (by decide)
  have low : ∀ i, i < k → v % 2 ^ k / 2 ^ i % 2 = v / 2 ^ i % 2 := fun i hi => by
    obtain ⟨d, rfl⟩ : ∃ d, k = i + 1 + d := ⟨k - (i + 1), by omega⟩
    have e1 : v = 2 ^ (i + 1 + d) * (v / 2 ^ (i + 1 + d)) + v % 2 ^ (i + 1 + d) := (Int.mul_ediv_add_emod v _).symm
    have e2 : v / 2 ^ i = v % 2 ^ (i + 1 + d) / 2 ^ i + 2 * (2 ^ d * (v / 2 ^ (i + 1 + d))) := by
      conv => lhs; rw [e1]
      rw [show (2 : Int) ^ (i + 1 + d) * (v / 2 ^ (i + 1 + d)) + v % 2 ^ (i + 1 + d) = v % 2 ^ (i + 1 + d) + (2 * (2 ^ d * (v / 2 ^ (i + 1 + d)))) * 2 ^ i from by rw [Int.pow_add, Int.pow_add, Int.pow_one]; rw [Int.add_comm]; congr 1; rw [Int.mul_assoc, Int.mul_assoc, Int.mul_comm]]
      rw [Int.add_mul_ediv_right _ _ (by have := hp i; omega)]
    omega
  have top : ∀ i, v / 2 ^ k / 2 ^ i % 2 = v / 2 ^ (k + i) % 2 := fun i => by
    rw [Int.pow_add, Int.ediv_ediv_of_nonneg (Int.le_of_lt (hp k))]
  apply List.ext_getElem?
  intro i
  by_cases hi64 : i < 64
  case neg =>
    rw [List.getElem?_eq_none (by simp [bitsOf]; omega)]
    cases hi <;> simp only [if_true, if_false, Bool.false_eq_true] <;> rw [List.getElem?_eq_none (by simp [bitsOf]; omega)]
  cases hi
  · simp only [if_false, Bool.false_eq_true]
    by_cases h : i < k
    · rw [List.getElem?_append_left (by simp [bitsOf]; exact h)]
      simp only [bitsOf, List.getElem?_map, List.getElem?_range hi64, List.getElem?_range h, Option.map_some, Bool.false_eq_true, if_false]
      rw [low i h]
    · rw [List.getElem?_append_right (by simp [bitsOf]; omega)]
      have h2 : i - k < 64 - k := by omega
      have hlen : (bitsOf false (v % 2 ^ k) k).length = k := by simp [bitsOf]
      rw [hlen]
      simp only [bitsOf, List.getElem?_map, List.getElem?_range hi64, List.getElem?_range h2, Option.map_some, Bool.false_eq_true, if_false]
      rw [top, show k + (i - k) = i from by omega]
  · simp only [if_true]
    have hlen : (bitsOf true (v / 2 ^ k) (64 - k)).length = 64 - k := by simp [bitsOf]
    by_cases h : i < 64 - k
    · rw [List.getElem?_append_left (by omega)]
      simp only [bitsOf, List.getElem?_map, List.getElem?_range hi64, List.getElem?_range h, Option.map_some, if_true]
      rw [top, show k + (64 - k - 1 - i) = 64 - 1 - i from by omega]
    · rw [List.getElem?_append_right (by omega), hlen]
      have h2 : i - (64 - k) < k := by omega
      simp only [bitsOf, List.getElem?_map, List.getElem?_range hi64, List.getElem?_range h2, Option.map_some, if_true]
      rw [low _ (by omega), show k - 1 - (i - (64 - k)) = 64 - 1 - i from by omega]

theorem wf_u64 {x : Int} (h : (Lit.int .u64 x).wf = true) : 0 ≤ x ∧ x < 18446744073709551616 := by
  simp [Lit.wf] at h
  have h1 : IntKind.u64.min = 0 := rfl
  have h2 : IntKind.u64.max = 18446744073709551615 := rfl
  omega
theorem wf_i64 {x : Int} (h : (Lit.int .i64 x).wf = true) : -9223372036854775808 ≤ x ∧ x ≤ 9223372036854775807 := by
  simp [Lit.wf] at h
  have h1 : IntKind.i64.min = -9223372036854775808 := rfl
  have h2 : IntKind.i64.max = 9223372036854775807 := rfl
  omega
theorem two64 (x : Int) (h0 : 0 ≤ x) (h1 : x < 18446744073709551616) : x % 2 ^ 64 = x ∧ x / 2 ^ 64 = 0 := by omega
theorem bitsOf_zero (hi : Bool) (x : Int) : bitsOf hi x 0 = [] := rfl
theorem mod_pow_range (x : Int) (k : Nat) (h0 : 0 ≤ x) (h1 : x < 18446744073709551616) : 0 ≤ x % 2 ^ k ∧ x % 2 ^ k < 18446744073709551616 := by
  have hp : (0 : Int) < 2 ^ k := Int.pow_pos (by decide)
  refine ⟨Int.emod_nonneg _ (by omega), ?_⟩
  obtain ⟨n, rfl⟩ := Int.eq_ofNat_of_zero_le h0
  have h2 : ((n % 2 ^ k : Nat) : Int) = (n : Int) % 2 ^ k := by rw [Int.natCast_emod, Int.natCast_pow]; rfl
  rw [← h2]
  have := Nat.mod_le n (2 ^ k)
  omega
theorem top_fits (x : Int) (k : Nat) (hk : k ≤ 64) (h0 : 0 ≤ x) (h1 : x < 18446744073709551616) : x / 2 ^ k / 2 ^ (64 - k) = 0 := by
  rw [Int.ediv_ediv_of_nonneg (Int.le_of_lt (Int.pow_pos (by decide))), ← Int.pow_add, show k + (64 - k) = 64 from by omega]
  exact (two64 x h0 h1).2
theorem low_fits (x : Int) (k : Nat) : x % 2 ^ k / 2 ^ k = 0 :=
  Int.ediv_eq_zero_of_lt (Int.emod_nonneg _ (Int.ne_of_gt (Int.pow_pos (by decide)))) (Int.emod_lt_of_pos _ (Int.pow_pos (by decide)))

end Go.Proofs.Ytofalbbbnhnadaa
