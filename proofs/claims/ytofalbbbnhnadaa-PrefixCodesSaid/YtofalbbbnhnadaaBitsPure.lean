/- Bits and bytes as lists: plain laws, with no program in sight. -/
import Derived.Laws.BitsLemmas
import Derived.Laws.Bits64
import Derived.Laws.BitsAllLaws
import Derived.RowKit
namespace Go.Proofs.Ytofalbbbnhnadaa
open Go.RowKit
set_option linter.unusedVariables false

/-- A list of bits. -/
def IsBits (l : List Int) : Prop := ∀ x ∈ l, x = 0 ∨ x = 1
/-- A byte of eight bits. -/
def byte8 (hi : Bool) (d0 d1 d2 d3 d4 d5 d6 d7 : Int) : Int :=
  if hi then 128 * d0 + 64 * d1 + 32 * d2 + 16 * d3 + 8 * d4 + 4 * d5 + 2 * d6 + d7 else d0 + 2 * d1 + 4 * d2 + 8 * d3 + 16 * d4 + 32 * d5 + 64 * d6 + 128 * d7
/-- The j-th byte of bits; what lacks is 0. -/
def byteAt (hi : Bool) (l : List Int) (j : Nat) : Int :=
  byte8 hi (l.getD (8 * j) 0) (l.getD (8 * j + 1) 0) (l.getD (8 * j + 2) 0) (l.getD (8 * j + 3) 0) (l.getD (8 * j + 4) 0) (l.getD (8 * j + 5) 0) (l.getD (8 * j + 6) 0) (l.getD (8 * j + 7) 0)
/-- Bits as bytes. -/
def pk (hi : Bool) (l : List Int) : List Int := (List.range ((l.length + 7) / 8)).map (byteAt hi l)
/-- The lowest n bits of a number, in an order. -/
def bitsOf (hi : Bool) (v : Int) (n : Nat) : List Int := (List.range n).map fun i => v / 2 ^ (if hi then n - 1 - i else i) % 2

theorem pk_length (hi : Bool) (l : List Int) : (pk hi l).length = (l.length + 7) / 8 := by simp [pk]
theorem isBits_getD {l : List Int} (h : IsBits l) (i : Nat) : l.getD i 0 = 0 ∨ l.getD i 0 = 1 := by
  rw [List.getD_eq_getElem?_getD]
  cases hi : l[i]? with
  | none => simp
  | some x => simpa using h x (List.mem_of_getElem? hi)
theorem isBits_append {a b : List Int} (ha : IsBits a) (hb : IsBits b) : IsBits (a ++ b) := fun x hx => by
  rcases List.mem_append.1 hx with h | h
  · exact ha x h
  · exact hb x h
theorem isBits_bitsOf (hi : Bool) (v : Int) (n : Nat) : IsBits (bitsOf hi v n) := fun x hx => by
  obtain ⟨i, _, rfl⟩ := List.mem_map.1 hx
  omega
theorem isBits_zeros (n : Nat) : IsBits (List.replicate n 0) := fun x hx => .inl (List.eq_of_mem_replicate hx)
theorem byteAt_range {l : List Int} (h : IsBits l) (hi : Bool) (j : Nat) : 0 ≤ byteAt hi l j ∧ byteAt hi l j ≤ 255 := by
  have h0 := isBits_getD h (8 * j)
  have h1 := isBits_getD h (8 * j + 1)
  have h2 := isBits_getD h (8 * j + 2)
  have h3 := isBits_getD h (8 * j + 3)
  have h4 := isBits_getD h (8 * j + 4)
  have h5 := isBits_getD h (8 * j + 5)
  have h6 := isBits_getD h (8 * j + 6)
  have h7 := isBits_getD h (8 * j + 7)
  unfold byteAt byte8
  split <;> omega

/-- A bit put into a byte in which it and all that come behind it are 0. -/
theorem or_bit (hi : Bool) (r : Nat) (hr : r < 8) (d0 d1 d2 d3 d4 d5 d6 d7 x : Int) (h0 : d0 = 0 ∨ d0 = 1) (h1 : d1 = 0 ∨ d1 = 1) (h2 : d2 = 0 ∨ d2 = 1) (h3 : d3 = 0 ∨ d3 = 1) (h4 : d4 = 0 ∨ d4 = 1) (h5 : d5 = 0 ∨ d5 = 1) (h6 : d6 = 0 ∨ d6 = 1) (h7 : d7 = 0 ∨ d7 = 1) (hx : x = 0 ∨ x = 1)
    (z0 : r ≤ 0 → d0 = 0) (z1 : r ≤ 1 → d1 = 0) (z2 : r ≤ 2 → d2 = 0) (z3 : r ≤ 3 → d3 = 0) (z4 : r ≤ 4 → d4 = 0) (z5 : r ≤ 5 → d5 = 0) (z6 : r ≤ 6 → d6 = 0) (z7 : r ≤ 7 → d7 = 0) :
    bits .or .u8 (byte8 hi d0 d1 d2 d3 d4 d5 d6 d7) (IntKind.u8.wrap (x * 2 ^ (if hi then 7 - r else r))) =
      byte8 hi (if r = 0 then x else d0) (if r = 1 then x else d1) (if r = 2 then x else d2) (if r = 3 then x else d3) (if r = 4 then x else d4) (if r = 5 then x else d5) (if r = 6 then x else d6) (if r = 7 then x else d7) := by
  have key : ∀ b y : Int, 0 ≤ b → b < 256 → 0 ≤ y → y < 256 → (∃ i : Nat, (y.toNat % 2 ^ i = 0 ∧ b.toNat < 2 ^ i) ∨ (b.toNat % 2 ^ i = 0 ∧ y.toNat < 2 ^ i)) → bits .or .u8 b y = b + y := by
    intro b y hb hb2 hy hy2 ⟨i, h⟩
    rw [u8_or b y hb hb2 hy hy2]
    rcases h with ⟨ha, hc⟩ | ⟨ha, hc⟩
    · rw [Nat.or_comm, nat_join i _ _ ha hc]; omega
    · rw [nat_join i _ _ ha hc]; omega
  have hw : ∀ y : Int, 0 ≤ y → y < 256 → IntKind.u8.wrap y = y := fun y a b => by rw [IntKind.wrap_u8]; omega
  obtain rfl | rfl | rfl | rfl | rfl | rfl | rfl | rfl : r = 0 ∨ r = 1 ∨ r = 2 ∨ r = 3 ∨ r = 4 ∨ r = 5 ∨ r = 6 ∨ r = 7 := by omega
  all_goals
    simp at z0 z1 z2 z3 z4 z5 z6 z7
    subst_vars
    cases hi
    all_goals
      simp only [byte8, Bool.false_eq_true, if_false, if_true, Nat.reduceSub, Int.reducePow, Nat.reduceEqDiff]
      rw [hw _ (by omega) (by omega), key _ _ (by omega) (by omega) (by omega) (by omega) (by first | exact ⟨0, by omega⟩ | exact ⟨1, by omega⟩ | exact ⟨2, by omega⟩ | exact ⟨3, by omega⟩ | exact ⟨4, by omega⟩ | exact ⟨5, by omega⟩ | exact ⟨6, by omega⟩ | exact ⟨7, by omega⟩ | exact ⟨8, by omega⟩)]
      try omega

theorem getD_snoc (l : List Int) (x : Int) (k : Nat) : (l ++ [x]).getD k 0 = if k = l.length then x else l.getD k 0 := by
  simp only [List.getD_eq_getElem?_getD]
  by_cases h : k < l.length
  · rw [List.getElem?_append_left h, if_neg (by omega)]
  · rw [List.getElem?_append_right (by omega)]
    by_cases h2 : k = l.length
    · subst h2; simp
    · rw [if_neg h2, List.getElem?_eq_none (by simp; omega), List.getElem?_eq_none (by omega)]
theorem getD_out (l : List Int) (k : Nat) (h : l.length ≤ k) : l.getD k 0 = 0 := by
  rw [List.getD_eq_getElem?_getD, List.getElem?_eq_none h]; rfl
theorem pk_get (hi : Bool) (l : List Int) (j : Nat) (h : j < (l.length + 7) / 8) : (pk hi l)[j]? = some (byteAt hi l j) := by
  unfold pk
  rw [List.getElem?_map, List.getElem?_range h]
  rfl
theorem byteAt_snoc_old (hi : Bool) (l : List Int) (x : Int) (j : Nat) (h : 8 * j + 7 < l.length) : byteAt hi (l ++ [x]) j = byteAt hi l j := by
  unfold byteAt
  simp only [getD_snoc]
  rw [if_neg (by omega), if_neg (by omega), if_neg (by omega), if_neg (by omega), if_neg (by omega), if_neg (by omega), if_neg (by omega), if_neg (by omega)]
theorem byteAt_snoc_new (hi : Bool) (l : List Int) (x : Int) (hl : IsBits l) (hx : x = 0 ∨ x = 1) :
    byteAt hi (l ++ [x]) (l.length / 8) = bits .or .u8 (byteAt hi l (l.length / 8)) (IntKind.u8.wrap (x * 2 ^ (if hi then 7 - l.length % 8 else l.length % 8))) := by
  unfold byteAt
  rw [or_bit hi (l.length % 8) (by omega) _ _ _ _ _ _ _ _ x (isBits_getD hl _) (isBits_getD hl _) (isBits_getD hl _) (isBits_getD hl _) (isBits_getD hl _) (isBits_getD hl _) (isBits_getD hl _) (isBits_getD hl _) hx
    (fun h => getD_out _ _ (by omega)) (fun h => getD_out _ _ (by omega)) (fun h => getD_out _ _ (by omega)) (fun h => getD_out _ _ (by omega)) (fun h => getD_out _ _ (by omega)) (fun h => getD_out _ _ (by omega)) (fun h => getD_out _ _ (by omega)) (fun h => getD_out _ _ (by omega))]
  have e : ∀ i, i < 8 → (l ++ [x]).getD (8 * (l.length / 8) + i) 0 = if l.length % 8 = i then x else l.getD (8 * (l.length / 8) + i) 0 := fun i hi => by
    rw [getD_snoc]
    by_cases h : l.length % 8 = i
    · rw [if_pos (by omega), if_pos h]
    · rw [if_neg (by omega), if_neg h]
  rw [e 1 (by omega), e 2 (by omega), e 3 (by omega), e 4 (by omega), e 5 (by omega), e 6 (by omega), e 7 (by omega), show 8 * (l.length / 8) = 8 * (l.length / 8) + 0 from rfl, e 0 (by omega)]

/-- The bytes behind one bit more. -/
theorem pk_snoc (hi : Bool) (l : List Int) (x : Int) (hl : IsBits l) (hx : x = 0 ∨ x = 1) :
    pk hi (l ++ [x]) = (if l.length % 8 = 0 then pk hi l ++ [0] else pk hi l).set (l.length / 8) (bits .or .u8 ((if l.length % 8 = 0 then pk hi l ++ [0] else pk hi l).getD (l.length / 8) 0) (IntKind.u8.wrap (x * 2 ^ (if hi then 7 - l.length % 8 else l.length % 8)))) := by
  have hb : (if l.length % 8 = 0 then pk hi l ++ [0] else pk hi l).length = l.length / 8 + 1 := by
    split <;> simp [pk_length] <;> omega
  have hg : (if l.length % 8 = 0 then pk hi l ++ [0] else pk hi l).getD (l.length / 8) 0 = byteAt hi l (l.length / 8) := by
    split
    · rename_i h
      rw [getD_snoc, pk_length, if_pos (by omega)]
      unfold byteAt
      rw [getD_out _ _ (by omega), getD_out _ _ (by omega), getD_out _ _ (by omega), getD_out _ _ (by omega), getD_out _ _ (by omega), getD_out _ _ (by omega), getD_out _ _ (by omega), getD_out _ _ (by omega)]
      cases hi <;> rfl
    · rw [List.getD_eq_getElem?_getD, pk_get hi l _ (by omega)]; rfl
  apply List.ext_getElem?
  intro j
  rw [hg, ← byteAt_snoc_new hi l x hl hx]
  by_cases hj : j < l.length / 8 + 1
  · rw [pk_get _ _ _ (by simp; omega)]
    by_cases hq : j = l.length / 8
    · subst hq
      rw [List.getElem?_set_self (by omega)]
    · rw [List.getElem?_set_ne (by omega), byteAt_snoc_old hi l x j (by omega)]
      split
      · rw [List.getElem?_append_left (by rw [pk_length]; omega), pk_get hi l j (by omega)]
      · rw [pk_get hi l j (by omega)]
  · rw [List.getElem?_eq_none (by simp [pk_length]; omega), List.getElem?_eq_none (by simp only [List.length_set]; omega)]

theorem byteAt_zeros (hi : Bool) (l : List Int) (n j : Nat) : byteAt hi (l ++ List.replicate n 0) j = byteAt hi l j := by
  have e : ∀ k, (l ++ List.replicate n 0).getD k 0 = l.getD k 0 := fun k => by
    simp only [List.getD_eq_getElem?_getD]
    by_cases h : k < l.length
    · rw [List.getElem?_append_left h]
    · rw [List.getElem?_append_right (by omega), List.getElem?_eq_none (l := l) (by omega)]
      by_cases h2 : k - l.length < n
      · rw [List.getElem?_replicate, if_pos h2]; rfl
      · rw [List.getElem?_eq_none (by simp; omega)]
  unfold byteAt
  simp only [e]
/-- Noughts up to the next whole byte turn no byte. -/
theorem pk_align (hi : Bool) (l : List Int) (n : Nat) (h : (l.length + n + 7) / 8 = (l.length + 7) / 8) : pk hi (l ++ List.replicate n 0) = pk hi l := by
  unfold pk
  rw [List.length_append, List.length_replicate, h]
  exact List.map_congr_left fun j _ => byteAt_zeros hi l n j

theorem pk_isByte (hi : Bool) (l : List Int) (h : IsBits l) : ∀ y ∈ pk hi l, 0 ≤ y ∧ y ≤ 255 := fun y hy => by
  obtain ⟨j, _, rfl⟩ := List.mem_map.1 hy
  exact byteAt_range h hi j

/-- The bits of bytes. -/
def ofBytes (hi : Bool) (b : List Int) : List Int := (List.range (8 * b.length)).map fun i => b.getD (i / 8) 0 / 2 ^ (if hi then 7 - i % 8 else i % 8) % 2
theorem isBits_ofBytes (hi : Bool) (b : List Int) : IsBits (ofBytes hi b) := fun x hx => by
  obtain ⟨i, _, rfl⟩ := List.mem_map.1 hx
  omega
theorem ofBytes_length (hi : Bool) (b : List Int) : (ofBytes hi b).length = 8 * b.length := by simp [ofBytes]
theorem byte8_bits (hi : Bool) (y : Int) (h0 : 0 ≤ y) (h1 : y ≤ 255) : byte8 hi (y / 2 ^ (if hi then 7 else 0) % 2) (y / 2 ^ (if hi then 6 else 1) % 2) (y / 2 ^ (if hi then 5 else 2) % 2) (y / 2 ^ (if hi then 4 else 3) % 2) (y / 2 ^ (if hi then 3 else 4) % 2) (y / 2 ^ (if hi then 2 else 5) % 2) (y / 2 ^ (if hi then 1 else 6) % 2) (y / 2 ^ (if hi then 0 else 7) % 2) = y := by
  cases hi <;> simp only [byte8, Bool.false_eq_true, if_false, if_true, Int.reducePow] <;> omega
/-- Whole bytes behind whole bytes. -/
theorem pk_bytes (hi : Bool) (l b : List Int) (hl : l.length % 8 = 0) (hb : ∀ y ∈ b, 0 ≤ y ∧ y ≤ 255) : pk hi (l ++ ofBytes hi b) = pk hi l ++ b := by
  apply List.ext_getElem?
  intro j
  by_cases h1 : j < l.length / 8
  · rw [List.getElem?_append_left (by rw [pk_length]; omega), pk_get _ _ _ (by simp [ofBytes_length]; omega), pk_get _ _ _ (by omega)]
    congr 1
    have e : ∀ k, k < l.length → (l ++ ofBytes hi b).getD k 0 = l.getD k 0 := fun k hk => by
      simp only [List.getD_eq_getElem?_getD]
      rw [List.getElem?_append_left hk]
    unfold byteAt
    rw [e _ (by omega), e _ (by omega), e _ (by omega), e _ (by omega), e _ (by omega), e _ (by omega), e _ (by omega), e _ (by omega)]
  · by_cases h2 : j < l.length / 8 + b.length
    · rw [List.getElem?_append_right (by rw [pk_length]; omega), pk_get _ _ _ (by simp [ofBytes_length]; omega)]
      have hj : j - (pk hi l).length < b.length := by rw [pk_length]; omega
      rw [List.getElem?_eq_getElem hj]
      congr 1
      have hy := hb _ (List.getElem_mem hj)
      have e : ∀ i, i < 8 → (l ++ ofBytes hi b).getD (8 * j + i) 0 = b[j - (pk hi l).length] / 2 ^ (if hi then 7 - i else i) % 2 := fun i hi' => by
        simp only [List.getD_eq_getElem?_getD]
        rw [List.getElem?_append_right (by omega)]
        unfold ofBytes
        have hk : 8 * j + i - l.length < 8 * b.length := by omega
        rw [List.getElem?_map, List.getElem?_range hk]
        have h3 : (8 * j + i - l.length) / 8 = j - (pk hi l).length := by rw [pk_length]; omega
        have h4 : (8 * j + i - l.length) % 8 = i := by omega
        simp only [Option.map_some, Option.getD_some, h3, h4]
        rw [List.getD_eq_getElem?_getD, List.getElem?_eq_getElem hj]
        rfl
      have := byte8_bits hi _ hy.1 hy.2
      unfold byteAt
      rw [show 8 * j = 8 * j + 0 from rfl, e 0 (by omega), Nat.add_zero, e 1 (by omega), e 2 (by omega), e 3 (by omega), e 4 (by omega), e 5 (by omega), e 6 (by omega), e 7 (by omega)]
      exact this
    · rw [List.getElem?_eq_none (by simp [pk_length, ofBytes_length]; omega), List.getElem?_eq_none (by simp [pk_length]; omega)]
end Go.Proofs.Ytofalbbbnhnadaa
