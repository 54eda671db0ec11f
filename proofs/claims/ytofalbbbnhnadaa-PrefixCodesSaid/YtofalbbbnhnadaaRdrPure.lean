/- Numbers out of bits, bits out of bytes: plain laws, with no program in sight. -/
import Derived.Test.YtofalbbbnhnadaaBitsPure
namespace Go.Proofs.Ytofalbbbnhnadaa
open Go.RowKit
set_option linter.unusedVariables false

/-- The number that bits are, in an order. -/
def numOf : Bool → List Int → Int
  | true, l => l.foldl (fun a b => 2 * a + b) 0
  | false, l => l.foldr (fun b a => b + 2 * a) 0
def bitAt (hi : Bool) (xs : List Int) (i : Nat) : Int := xs.getD (i / 8) 0 / 2 ^ (if hi then 7 - i % 8 else i % 8) % 2
/-- The bits of bytes. -/
def unpk (hi : Bool) (xs : List Int) : List Int := (List.range (8 * xs.length)).map (bitAt hi xs)

theorem unpk_length (hi : Bool) (xs : List Int) : (unpk hi xs).length = 8 * xs.length := by simp [unpk]
theorem unpk_isBits (hi : Bool) (xs : List Int) : IsBits (unpk hi xs) := fun x hx => by
  obtain ⟨i, _, rfl⟩ := List.mem_map.1 hx
  unfold bitAt
  omega
theorem unpk_get (hi : Bool) (xs : List Int) (i : Nat) (h : i < 8 * xs.length) : (unpk hi xs)[i]? = some (bitAt hi xs i) := by
  unfold unpk
  rw [List.getElem?_map, List.getElem?_range h]
  rfl

theorem pow_pos' (k : Nat) : (0 : Int) < 2 ^ k := Int.pow_pos (by decide)
theorem foldl_from (l : List Int) : ∀ a : Int, l.foldl (fun a b => 2 * a + b) a = a * 2 ^ l.length + l.foldl (fun a b => 2 * a + b) 0 := by
  induction l with
  | nil => intro a; simp
  | cons x l ih =>
    intro a
    simp only [List.foldl_cons, List.length_cons]
    rw [ih, ih (2 * 0 + x), Int.pow_succ, Int.add_mul, ← Int.add_assoc]
    congr 1
    simp only [Int.mul_zero, Int.zero_add]
    rw [Int.mul_comm (2 ^ l.length) 2, Int.mul_comm 2 a, Int.mul_assoc]
theorem foldr_append (l1 l2 : List Int) : (l1 ++ l2).foldr (fun b a => b + 2 * a) 0 = l1.foldr (fun b a => b + 2 * a) 0 + 2 ^ l1.length * l2.foldr (fun b a => b + 2 * a) 0 := by
  induction l1 with
  | nil => simp
  | cons x l ih =>
    simp only [List.cons_append, List.foldr_cons, List.length_cons]
    rw [ih, Int.pow_succ, Int.mul_add, Int.add_assoc, Int.mul_comm (2 ^ l.length) 2, Int.mul_assoc]
theorem numOf_append (hi : Bool) (l1 l2 : List Int) : numOf hi (l1 ++ l2) = if hi then numOf hi l1 * 2 ^ l2.length + numOf hi l2 else numOf hi l1 + 2 ^ l1.length * numOf hi l2 := by
  cases hi
  · simpa [numOf] using foldr_append l1 l2
  · simp only [numOf, if_true, List.foldl_append]
    exact foldl_from l2 _
theorem numOf_one (hi : Bool) (x : Int) : numOf hi [x] = x := by cases hi <;> simp [numOf]
theorem numOf_nil (hi : Bool) : numOf hi [] = 0 := by cases hi <;> rfl
theorem numOf_cons (hi : Bool) (x : Int) (l : List Int) : numOf hi (x :: l) = if hi then x * 2 ^ l.length + numOf hi l else x + 2 * numOf hi l := by
  have := numOf_append hi [x] l
  rw [numOf_one] at this
  simpa using this
theorem numOf_range (hi : Bool) (l : List Int) (h : IsBits l) : 0 ≤ numOf hi l ∧ numOf hi l < 2 ^ l.length := by
  induction l with
  | nil => rw [numOf_nil]; simp
  | cons x l ih =>
    obtain ⟨h1, h2⟩ := ih fun y hy => h y (List.mem_cons_of_mem _ hy)
    have hx := h x List.mem_cons_self
    have hp := pow_pos' l.length
    rw [numOf_cons, List.length_cons, Int.pow_succ]
    generalize (2 : Int) ^ l.length = p at *
    cases hi
    · simp only [Bool.false_eq_true, if_false]
      generalize numOf false l = y at *
      omega
    · simp only [if_true]
      generalize numOf true l = y at *
      rcases hx with rfl | rfl <;> omega

theorem bitsOf_cons_hi (v : Int) (n : Nat) : bitsOf true v (n + 1) = (v / 2 ^ n % 2) :: bitsOf true v n := by
  simp only [bitsOf, List.range_succ_eq_map, List.map_cons, List.map_map, if_true]
  congr 1
  apply List.map_congr_left
  intro i hi
  simp only [Function.comp]
  rw [show n + 1 - 1 - (i + 1) = n - 1 - i from by omega]
theorem bitsOf_snoc_lo (v : Int) (n : Nat) : bitsOf false v (n + 1) = bitsOf false v n ++ [v / 2 ^ n % 2] := by
  simp only [bitsOf, List.range_succ, List.map_append, List.map_cons, List.map_nil, Bool.false_eq_true, if_false]
theorem mod_pow_succ (v : Int) (n : Nat) : v % 2 ^ (n + 1) = v / 2 ^ n % 2 * 2 ^ n + v % 2 ^ n := by
  have hp := pow_pos' n
  have e1 : v = 2 ^ n * (v / 2 ^ n) + v % 2 ^ n := (Int.mul_ediv_add_emod v _).symm
  have h1 := Int.emod_nonneg v (Int.ne_of_gt hp)
  have h2 := Int.emod_lt_of_pos v hp
  rw [Int.pow_succ]
  generalize hq : v / 2 ^ n = q at *
  generalize hr : v % 2 ^ n = r at *
  generalize (2 : Int) ^ n = p at *
  subst e1
  have e2 : q = 2 * (q / 2) + q % 2 := by omega
  have h3 : q % 2 = 0 ∨ q % 2 = 1 := by omega
  have e3 : p * q + r = (q % 2 * p + r) + (p * 2) * (q / 2) := by
    conv => lhs; rw [e2]
    rw [Int.mul_add, Int.mul_comm (q % 2) p, ← Int.mul_assoc]
    omega
  rw [e3, Int.add_mul_emod_self_left]
  apply Int.emod_eq_of_lt
  · rcases h3 with h | h <;> rw [h] <;> omega
  · rcases h3 with h | h <;> rw [h] <;> omega
/-- The number of a number's lowest bits. -/
theorem numOf_bitsOf (hi : Bool) (v : Int) (n : Nat) : numOf hi (bitsOf hi v n) = v % 2 ^ n := by
  induction n with
  | zero => rw [show bitsOf hi v 0 = [] from rfl, numOf_nil]; simp
  | succ n ih =>
    rw [mod_pow_succ]
    cases hi
    · rw [bitsOf_snoc_lo, numOf_append, numOf_one, ih]
      simp only [Bool.false_eq_true, if_false]
      rw [show (bitsOf false v n).length = n from by simp [bitsOf], Int.mul_comm, Int.add_comm]
    · rw [bitsOf_cons_hi, numOf_cons, ih]
      simp only [if_true]
      rw [show (bitsOf true v n).length = n from by simp [bitsOf]]
/-- The bits that lie in one byte. -/
theorem unpk_chunk (hi : Bool) (xs : List Int) (at' k : Nat) (h : at' / 8 < xs.length) (hk : at' % 8 + k ≤ 8) :
    ((unpk hi xs).drop at').take k = bitsOf hi (xs.getD (at' / 8) 0 / 2 ^ (if hi then 8 - at' % 8 - k else at' % 8)) k := by
  apply List.ext_getElem?
  intro i
  by_cases hik : i < k
  · rw [List.getElem?_take_of_lt hik, List.getElem?_drop, unpk_get hi xs _ (by omega)]
    simp only [bitsOf, List.getElem?_map, List.getElem?_range hik, Option.map_some]
    unfold bitAt
    rw [show (at' + i) / 8 = at' / 8 from by omega, show (at' + i) % 8 = at' % 8 + i from by omega, Int.ediv_ediv_of_nonneg (Int.le_of_lt (pow_pos' _)), ← Int.pow_add]
    cases hi
    · simp only [Bool.false_eq_true, if_false]
    · simp only [if_true]
      rw [show 8 - at' % 8 - k + (k - 1 - i) = 7 - (at' % 8 + i) from by omega]
  · rw [List.getElem?_eq_none (by simp; omega), List.getElem?_eq_none (by simp [bitsOf]; omega)]

theorem byte8_bit (hi : Bool) (d0 d1 d2 d3 d4 d5 d6 d7 : Int) (h0 : d0 = 0 ∨ d0 = 1) (h1 : d1 = 0 ∨ d1 = 1) (h2 : d2 = 0 ∨ d2 = 1) (h3 : d3 = 0 ∨ d3 = 1) (h4 : d4 = 0 ∨ d4 = 1) (h5 : d5 = 0 ∨ d5 = 1) (h6 : d6 = 0 ∨ d6 = 1) (h7 : d7 = 0 ∨ d7 = 1) (r : Nat) (hr : r < 8) :
    byte8 hi d0 d1 d2 d3 d4 d5 d6 d7 / 2 ^ (if hi then 7 - r else r) % 2 = if r = 0 then d0 else if r = 1 then d1 else if r = 2 then d2 else if r = 3 then d3 else if r = 4 then d4 else if r = 5 then d5 else if r = 6 then d6 else d7 := by
  have g0 : 0 ≤ d0 ∧ d0 ≤ 1 := by omega
  have g1 : 0 ≤ d1 ∧ d1 ≤ 1 := by omega
  have g2 : 0 ≤ d2 ∧ d2 ≤ 1 := by omega
  have g3 : 0 ≤ d3 ∧ d3 ≤ 1 := by omega
  have g4 : 0 ≤ d4 ∧ d4 ≤ 1 := by omega
  have g5 : 0 ≤ d5 ∧ d5 ≤ 1 := by omega
  have g6 : 0 ≤ d6 ∧ d6 ≤ 1 := by omega
  have g7 : 0 ≤ d7 ∧ d7 ≤ 1 := by omega
  clear h0 h1 h2 h3 h4 h5 h6 h7
  obtain rfl | rfl | rfl | rfl | rfl | rfl | rfl | rfl : r = 0 ∨ r = 1 ∨ r = 2 ∨ r = 3 ∨ r = 4 ∨ r = 5 ∨ r = 6 ∨ r = 7 := by omega
  all_goals
    clear hr
    cases hi
    all_goals
      simp only [byte8, Bool.false_eq_true, if_false, if_true, Nat.reduceSub, Int.reducePow, Nat.reduceEqDiff]
      omega
/-- Bits, packed and unpacked, are themselves, with noughts behind. -/
theorem unpk_pk (hi : Bool) (l : List Int) (h : IsBits l) (i : Nat) (hi8 : i < 8 * ((l.length + 7) / 8)) : (unpk hi (pk hi l))[i]? = some (l.getD i 0) := by
  rw [unpk_get hi _ _ (by rw [pk_length]; exact hi8)]
  unfold bitAt
  rw [show (pk hi l).getD (i / 8) 0 = byteAt hi l (i / 8) from by rw [List.getD_eq_getElem?_getD, pk_get hi l _ (by omega)]; rfl]
  unfold byteAt
  rw [byte8_bit hi _ _ _ _ _ _ _ _ (isBits_getD h _) (isBits_getD h _) (isBits_getD h _) (isBits_getD h _) (isBits_getD h _) (isBits_getD h _) (isBits_getD h _) (isBits_getD h _) (i % 8) (by omega)]
  obtain h | h | h | h | h | h | h | h : i % 8 = 0 ∨ i % 8 = 1 ∨ i % 8 = 2 ∨ i % 8 = 3 ∨ i % 8 = 4 ∨ i % 8 = 5 ∨ i % 8 = 6 ∨ i % 8 = 7 := by omega
  all_goals
    simp only [h, if_true, Nat.reduceEqDiff, if_false]
    congr 2
    omega
theorem unpk_pk_take (hi : Bool) (l : List Int) (h : IsBits l) : (unpk hi (pk hi l)).take l.length = l := by
  apply List.ext_getElem?
  intro i
  by_cases hl : i < l.length
  · rw [List.getElem?_take_of_lt hl, unpk_pk hi l h i (by omega), List.getD_eq_getElem?_getD, List.getElem?_eq_getElem hl]
    rfl
  · rw [List.getElem?_eq_none (by simp; omega), List.getElem?_eq_none (by omega)]

/-! ### In the program's words -/
theorem shl1_mask' (k : Nat) (hk : k ≤ 8) (v : Int) (h0 : 0 ≤ v) (h1 : v < 18446744073709551616) : bits .and .u64 v (2 ^ k - 1) = v % 2 ^ k := by
  have hq : (2 : Int) ^ k = ((2 ^ k : Nat) : Int) := by rw [Int.natCast_pow]; rfl
  have h2 : 2 ^ k ≤ 2 ^ 8 := Nat.pow_le_pow_right (by decide) hk
  have h3 := Nat.two_pow_pos k
  rw [u64_and _ _ h0 h1 (by rw [hq]; omega) (by rw [hq]; omega), show ((2 : Int) ^ k - 1).toNat = 2 ^ k - 1 from by rw [hq]; omega, Nat.and_two_pow_sub_one_eq_mod]
  obtain ⟨n, rfl⟩ := Int.eq_ofNat_of_zero_le h0
  rw [Int.toNat_natCast, Int.natCast_emod, Int.natCast_pow]
  rfl
/-- Two numbers side by side. -/
theorem or_join (k : Nat) (a b : Int) (ha : 0 ≤ a) (hb : 0 ≤ b) (hbk : b < 2 ^ k) (hab : a * 2 ^ k + b < 18446744073709551616) : bits .or .u64 (a * 2 ^ k) b = a * 2 ^ k + b := by
  obtain ⟨m, rfl⟩ := Int.eq_ofNat_of_zero_le ha
  obtain ⟨n, rfl⟩ := Int.eq_ofNat_of_zero_le hb
  have hq : (2 : Int) ^ k = ((2 ^ k : Nat) : Int) := by rw [Int.natCast_pow]; rfl
  rw [hq] at hbk hab ⊢
  have e : (m : Int) * ((2 ^ k : Nat) : Int) = ((m * 2 ^ k : Nat) : Int) := by rw [Int.natCast_mul]
  rw [e] at hab ⊢
  rw [u64_or _ _ (by omega) (by omega) (by omega) (by omega), Int.toNat_natCast, Int.toNat_natCast, nat_join k _ _ (Nat.mul_mod_left m (2 ^ k)) (by omega)]
  omega
theorem or_comm64 (a b : Int) (h1 : 0 ≤ a) (h2 : a < 18446744073709551616) (h3 : 0 ≤ b) (h4 : b < 18446744073709551616) : bits .or .u64 a b = bits .or .u64 b a := by
  rw [u64_or _ _ h1 h2 h3 h4, u64_or _ _ h3 h4 h1 h2, Nat.or_comm]
theorem pow_add_le (a b : Nat) (h : a + b ≤ 64) : (2 : Int) ^ a * 2 ^ b ≤ 18446744073709551616 := by
  rw [← Int.pow_add]
  obtain ⟨d, hd⟩ : ∃ d, 64 = a + b + d := ⟨64 - (a + b), by omega⟩
  have h1 : (2 : Int) ^ 64 = 2 ^ (a + b) * 2 ^ d := by rw [hd, Int.pow_add]
  have h2 := pow_pos' (a + b)
  have h3 := pow_pos' d
  have h4 : (2 : Int) ^ (a + b) * 1 ≤ 2 ^ (a + b) * 2 ^ d := Int.mul_le_mul_of_nonneg_left (by omega) (by omega)
  omega
theorem side_lt (V p q ch : Int) (hV : V < q) (hch : ch < p) (hp : 0 < p) (h : q * p ≤ 18446744073709551616) : V * p + ch < 18446744073709551616 := by
  have h1 : (V + 1) * p ≤ q * p := Int.mul_le_mul_of_nonneg_right (by omega) (by omega)
  rw [Int.add_mul, Int.one_mul] at h1
  omega
theorem take_more (l : List Int) (at' k kk : Nat) : (l.drop at').take (k + kk) = (l.drop at').take k ++ (l.drop (at' + k)).take kk := by
  rw [List.take_add, List.drop_drop]
theorem wrap_id (y : Int) (h0 : 0 ≤ y) (h1 : y < 18446744073709551616) : IntKind.u64.wrap y = y := by rw [IntKind.wrap_u64]; omega
/-- A reader's step: what was read, and the bits of one byte more. -/
theorem get_step (hi : Bool) (xs : List Int) (at' k kk : Nat) (hq : (at' + k) / 8 < xs.length) (hk8 : (at' + k) % 8 + kk ≤ 8) (hn : k + kk ≤ 64) :
    let V := numOf hi ((unpk hi xs).drop at' |>.take k)
    let ch := xs.getD ((at' + k) / 8) 0 / 2 ^ (if hi then 8 - (at' + k) % 8 - kk else (at' + k) % 8) % 2 ^ kk
    let V' := numOf hi ((unpk hi xs).drop at' |>.take (k + kk))
    (0 ≤ V ∧ V < 2 ^ k) ∧ (0 ≤ ch ∧ ch < 2 ^ kk) ∧
      (hi = true → IntKind.u64.wrap (V * 2 ^ kk) = V * 2 ^ kk ∧ bits .or .u64 (V * 2 ^ kk) ch = V') ∧ (hi = false → IntKind.u64.wrap (ch * 2 ^ k) = ch * 2 ^ k ∧ bits .or .u64 V (ch * 2 ^ k) = V') := by
  intro V ch V'
  have hlen : ((unpk hi xs).drop at' |>.take k).length = k := by
    simp [unpk_length]
    omega
  have hbt : IsBits ((unpk hi xs).drop at' |>.take k) := fun x hx => unpk_isBits hi xs x (List.mem_of_mem_drop (List.mem_of_mem_take hx))
  have hV := numOf_range hi _ hbt
  rw [hlen] at hV
  have hp := pow_pos' kk
  have hP := pow_pos' k
  have hch : 0 ≤ ch ∧ ch < 2 ^ kk := ⟨Int.emod_nonneg _ (Int.ne_of_gt hp), Int.emod_lt_of_pos _ hp⟩
  have hV' : V' = if hi then V * 2 ^ kk + ch else V + 2 ^ k * ch := by
    show numOf hi _ = _
    rw [take_more, numOf_append, hlen, unpk_chunk hi xs (at' + k) kk hq hk8, numOf_bitsOf, show (bitsOf hi _ kk).length = kk from by simp [bitsOf]]
  have hle := pow_add_le k kk hn
  have hle' := pow_add_le kk k (by omega)
  refine ⟨hV, hch, fun e => ?_, fun e => ?_⟩
  · rw [if_pos e] at hV'
    have h1 := side_lt V _ _ ch hV.2 hch.2 hp hle
    have h0 : 0 ≤ V * 2 ^ kk := Int.mul_nonneg hV.1 (by omega)
    refine ⟨wrap_id _ h0 (by omega), ?_⟩
    rw [hV', or_join kk V ch hV.1 hch.1 hch.2 h1]
  · rw [if_neg (by rw [e]; exact Bool.false_ne_true)] at hV'
    have h1 := side_lt ch _ _ V hch.2 hV.2 hP hle'
    have h0 : 0 ≤ ch * 2 ^ k := Int.mul_nonneg hch.1 (by omega)
    have h2 : V < 18446744073709551616 := by have := hV.1; omega
    refine ⟨wrap_id _ h0 (by have := hV.1; omega), ?_⟩
    rw [hV', or_comm64 V _ hV.1 h2 h0 (by have := hV.1; omega), or_join k ch V hch.1 hV.1 hV.2 h1, Int.mul_comm (2 ^ k) ch, Int.add_comm]
end Go.Proofs.Ytofalbbbnhnadaa
