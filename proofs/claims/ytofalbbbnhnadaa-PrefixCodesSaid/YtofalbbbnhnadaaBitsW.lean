/- The writer of bits: its calls. -/
import Derived.Test.YtofalbbbnhnadaaBits
namespace Go.Proofs.Ytofalbbbnhnadaa
open Go.RowKit
set_option linter.unusedVariables false

theorem wnone_made (w : World) (g : Nat) (hi : Bool) (v : Value) (l : List Int) (h : Wr w g hi v l) :
    Calls Try.prog 36 #[.pointer (some ⟨g, 0, none⟩)] w fun e w' => e = .returned (.bool false) ∧ w = w' := by
  have c0 := blk_cell h.2.1 0
  simp at c0
  clear h
  go_enter Try.func36, Try.ntmps36
  go_wp2
  go_ret
  exact ⟨rfl, rfl⟩

/-- May n bits be those of v? -/
def mayPut (v n : Int) : Bool := decide (0 ≤ n ∧ n ≤ 64 ∧ (n = 64 ∨ v / 2 ^ n.toNat = 0))

theorem and1_u64 (x : Int) (h0 : 0 ≤ x) (h1 : x < 18446744073709551616) : bits .and .u64 x 1 = x % 2 := by
  rw [u64_and x 1 h0 h1 (by decide) (by decide)]
  have := nat_mask1 x.toNat
  simp only [Int.toNat_one]
  rw [this]
  omega

theorem div_pow_range (v : Int) (k : Nat) (h0 : 0 ≤ v) (h1 : v < 18446744073709551616) : 0 ≤ v / 2 ^ k ∧ v / 2 ^ k < 18446744073709551616 := by
  have hp : (0 : Int) < 2 ^ k := Int.pow_pos (by decide)
  refine ⟨Int.ediv_nonneg h0 (Int.le_of_lt hp), ?_⟩
  have : v / 2 ^ k ≤ v := Int.ediv_le_self _ h0
  omega

set_option maxHeartbeats 1000000 in
theorem put_yes (w : World) (g : Nat) (hi : Bool) (v : Value) (l : List Int) (x : Int) (n : Nat) (h : Wr w g hi v l) (hx0 : 0 ≤ x) (hx1 : x < 18446744073709551616) (hn : n ≤ 64) (hm : n = 64 ∨ x / 2 ^ n = 0) (hl : l.length ≤ 1000000000000000 - 64) :
    Calls Try.prog 35 #[.pointer (some ⟨g, 0, none⟩), .int .u64 x, .int .i64 n] w fun e w' => e = .returned (.int .i64 0) ∧ ∃ v', Wr w' g hi v' (l ++ bitsOf hi x n) ∧ WrKeep w w' g v v' := by
  have t1 : (decide ((n : Int) < 0)) = false := by simp
  have t2 : (decide ((64 : Int) < n)) = false := by simp; omega
  have hlen : (bitsOf hi x n).length = n := by simp [bitsOf]
  have HT : Hid (∀ k, k < n → (bitsOf hi x n).take (k + 1) = (bitsOf hi x n).take k ++ [x / 2 ^ (if hi then n - 1 - k else k) % 2]) := fun k hk => by
    rw [List.take_succ_eq_append_getElem (by rw [hlen]; exact hk)]
    simp [bitsOf]
  have HA : Hid (l ++ (bitsOf hi x n).take n = l ++ bitsOf hi x n) := by show _ = _; rw [List.take_of_length_le (by omega)]
  have hlt : ∀ k, (l ++ (bitsOf hi x n).take k).length ≤ 1000000000000000 := fun k => by rw [List.length_append, List.length_take, hlen]; omega
  have HL := Lib.hid hlt
  clear hlen hlt
  have hm : 64 ≤ n ∨ (n < 64 ∧ Hid ((x / 2 ^ n != 0) = false)) := by
    rcases hm with rfl | hm
    · exact .inl (by omega)
    · by_cases h64 : n < 64
      · exact .inr ⟨h64, by show _ = _; simp [hm]⟩
      · exact .inl (by omega)
  rcases hm with hm | ⟨hm, H5⟩
  case' inr => have t5 := H5.out; clear H5
  all_goals
    go_enter Try.func35, Try.ntmps35
    go_wp2_with (go_at_call 36; refine (wnone_made _ g hi v l h).mono ?_; rintro e w1 ⟨rfl, rfl⟩)
    go_loopw [27] (fun i wr => ∃ (k : Nat) (v' : Value), k ≤ n ∧ i = .int .i64 k ∧ Wr wr g hi v' (l ++ (bitsOf hi x n).take k) ∧ WrKeep w wr g v v') (fun i _ => n - (intOf i).toNat)
    case atStart => exact ⟨0, v, by omega, rfl, by simpa using h, WrKeep.refl _ _ _⟩
    case round =>
      obtain ⟨k, v', hk, rfl, hW, hK⟩ := hrel
      have c1 := blk_cell hW.2.1 1
      simp at c1
      have hlW := HL.out k
      by_cases hk2 : k < n
      · have hr := div_pow_range x (if hi then n - 1 - k else k) hx0 hx1
        have ht := HT.out k hk2
        have ha := and1_u64 _ hr.1 hr.2
        cases hi
        all_goals
          simp only [if_true, if_false, Bool.false_eq_true] at hr ht ha
          have HT1 := Lib.hid ht
          have HA1 := Lib.hid ha
          clear ht ha
          go_wp2_with fail
          rw [HA1.out, show ∀ y : Int, y % 2 % 256 = y % 2 from fun y => by omega]
          refine (bit_any wr g _ v' _ _ hW (by omega) hlW).mono ?_
          rintro e w1 ⟨rfl, v1, hW1, hK1⟩
          go_wp2
          go_roundw
          case rel => exact ⟨k + 1, v1, by omega, by go_num, by rw [HT1.out, ← List.append_assoc]; exact hW1, hK.trans hK1⟩
          case measure => simp [intOf]; omega
      · obtain rfl : k = n := by omega
        go_wp2
        go_ret
        exact ⟨rfl, v', by rw [← HA.out]; exact hW, hK⟩

set_option maxHeartbeats 1000000 in
theorem put_no (w : World) (g : Nat) (hi : Bool) (v : Value) (l : List Int) (x n : Int) (h : Wr w g hi v l) (hx0 : 0 ≤ x) (hx1 : x < 18446744073709551616) (hm : n < 0 ∨ 64 < n ∨ (0 ≤ n ∧ n < 64 ∧ x / 2 ^ n.toNat ≠ 0)) :
    Calls Try.prog 35 #[.pointer (some ⟨g, 0, none⟩), .int .u64 x, .int .i64 n] w fun e w' => e = .returned (.int .i64 2) ∧ w = w' := by
  rcases hm with hm | hm | ⟨h0, h64, hm⟩
  case' inr.inr =>
    have t5 : (x / 2 ^ n.toNat != 0) = true := by simpa using hm
    clear hm
  all_goals
    go_enter Try.func35, Try.ntmps35
    go_wp2_with (go_at_call 36; refine (wnone_made _ g hi v l h).mono ?_; rintro e w1 ⟨rfl, rfl⟩)
    go_ret
    exact ⟨rfl, rfl⟩

theorem len_any (w : World) (g : Nat) (hi : Bool) (v : Value) (l : List Int) (h : Wr w g hi v l) :
    Calls Try.prog 20 #[.pointer (some ⟨g, 0, none⟩)] w fun e w' => e = .returned (.int .i64 l.length) ∧ w = w' := by
  have c3 := blk_cell h.2.1 3
  simp at c3
  go_enter Try.func20, Try.ntmps20
  go_wp2_with (go_at_call 36; refine (wnone_made _ g hi v l h).mono ?_; rintro e w1 ⟨rfl, rfl⟩)
  go_ret
  exact ⟨rfl, rfl⟩

/-- Noughts up to a whole byte. -/
def aligned (l : List Int) : List Int := l ++ List.replicate ((8 - l.length % 8) % 8) 0
theorem aligned_length (l : List Int) : (aligned l).length = 8 * ((l.length + 7) / 8) := by simp [aligned]; omega

theorem row_form {w : World} {b e size n : Nat} {v : Value} {xs : List Value} (h : w.ownsRow b e size v n xs) : ∃ A c, v = .slice A n c := by
  rcases h.2 with ⟨rfl, rfl⟩ | ⟨g, cap, cur, rfl, _⟩
  · exact ⟨none, 0, rfl⟩
  · exact ⟨_, cap, rfl⟩

theorem new_any (w : World) (hi : Bool) :
    Calls Try.prog 16 #[.bool hi] w fun e w' => e = .returned (.pointer (some ⟨w.heap.size, 0, none⟩)) ∧ Wr w' w.heap.size hi (.slice none 0 0) [] ∧ Keeps (fun _ => False) w w' := by
  go_enter Try.func16, Try.ntmps16
  go_wp2
  go_ret
  exact ⟨rfl, ⟨(fun x hx => by cases hx), heap_alloc_new w _, ⟨rfl, .inl ⟨rfl, rfl⟩⟩⟩, (Keeps.refl _ w).alloc _⟩

/-- slices.Clone of bytes. -/
theorem clone_any (w : World) (A : Option Addr) (m c : Nat) (xs : List Value) (h : Src w 1 A m c xs) (hm : m ≤ 140737488355328) :
    Calls Try.prog 32 #[.slice A m c] w fun e w' => ∃ A' c', e = .returned (.slice A' m c') ∧ w'.ownsRow w.heap.size 5 1 (.slice A' m c') m xs ∧ Keeps (fun _ => False) w w' := by
  have hq := fun (w : World) (a : Option Addr) (n c : Nat) => Lib.run_eql_slice_nil (P := Try.prog) w 49 5 a n c 0 0 Try.underlying49
  cases A with
  | none =>
    obtain ⟨rfl, rfl⟩ := h.2.1 rfl
    have hx : xs = [] := List.eq_nil_of_length_eq_zero (by simpa using h.1)
    subst hx
    clear h
    go_enter Try.func32, Try.ntmps32
    go_wp2
    go_ret
    exact ⟨none, 0, rfl, ⟨rfl, .inl ⟨rfl, rfl⟩⟩, Keeps.refl _ _⟩
  | some ad =>
    have hlt : ∀ k, ((⟨w.heap.size, 0, none⟩ : Addr)).block = k → w.heap.size ≤ k := fun k hk => by subst hk; exact Nat.le_refl _
    have h2 : Src (w.alloc (.cells #[] 5)) 1 (some ad) m c xs := ⟨h.1, h.2.1, fun b hb j u hj => by
      have hc := h.2.2.1 b hb j u hj
      rw [← hc]
      exact World.cell?_of_block (Below.heap_alloc _ _ _ (World.block_lt_of_cell? w _ hc)), h.2.2.2⟩
    have H2 := Lib.hid h2
    have ho : (w.alloc (.cells #[] 5)).ownsRow 0 5 1 (.slice (some ⟨w.heap.size, 0, none⟩) 0 0) 0 [] := ⟨rfl, .inr ⟨w.heap.size, 0, #[], rfl, Nat.zero_le _, heap_alloc_new w _, Nat.le_refl _, Nat.zero_le _, rfl, rfl⟩⟩
    clear h h2 hlt
    go_enter Try.func32, Try.ntmps32
    go_wp2_with (at_builtin; refine wpList_app_any rfl (.tmp 5) (.tmp 6) 49 5 rfl Try.underlying49 Try.infoU8 rfl (by decide) _ _ _ rfl ho (some ad) m c xs rfl H2.out (by unfold maxLen; omega) (by omega) ?_)
    intro A' c' w' ho' hg' hm'
    (try simp only [Nat.zero_add, List.nil_append] at ho')
    (try simp only [Nat.zero_add] at hm')
    (try simp only [Nat.zero_add])
    have hfresh : ∀ k, (Value.slice A' m c').ownBlock = some k → w.heap.size ≤ k := fun k hk => by
      rcases hm' with e | ⟨j, e, hj⟩
      · rw [e] at hk
        simp [Value.ownBlock] at hk
        omega
      · rw [e] at hk
        injection hk with hk
        simp at hj
        omega
    have HF := Lib.hid (owns_base ho' hfresh)
    have HG := Lib.hid hg'
    clear ho' hg' hm' ho hfresh
    go_wp2
    go_ret
    exact ⟨A', c', rfl, HF.out, ((Keeps.refl _ w).alloc _).grown HG.out (fun k hk e => by simp [Value.ownBlock] at e; omega)⟩

theorem src_u8 {w : World} {b n c : Nat} {A : Option Addr} {l : List Int} (h : w.ownsRow b 5 1 (.slice A n c) n (l.map (Value.int .u8))) : Src w 1 A n c (l.map (Value.int .u8)) :=
  src_own h (fun u hu => by obtain ⟨y, _, rfl⟩ := List.mem_map.1 hu; rfl)

theorem bytes_any (w : World) (g : Nat) (hi : Bool) (v : Value) (l : List Int) (h : Wr w g hi v l) (hl : l.length ≤ 1000000000000000) :
    Calls Try.prog 23 #[.pointer (some ⟨g, 0, none⟩)] w fun e w' => ∃ A' c', e = .returned (.slice A' ((l.length + 7) / 8) c') ∧ w'.ownsRow w.heap.size 5 1 (.slice A' ((l.length + 7) / 8) c') ((l.length + 7) / 8) ((pk hi l).map (Value.int .u8)) ∧ Keeps (fun _ => False) w w' := by
  obtain ⟨A, c, rfl⟩ := row_form h.2.2
  have c2 := blk_cell h.2.1 2
  simp at c2
  have hs := src_u8 h.2.2
  have hb : ((l.length + 7) / 8 : Nat) ≤ 140737488355328 := by omega
  generalize hq : (l.length + 7) / 8 = q at *
  clear hq
  go_enter Try.func23, Try.ntmps23
  go_wp2_with (go_at_call 36; refine (wnone_made _ g hi _ l h).mono ?_; rintro e w1 ⟨rfl, rfl⟩)
  refine (clone_any _ A q c _ hs hb).mono ?_
  rintro e w1 ⟨A', c', rfl, h1, h2⟩
  have H1 := Lib.hid h1
  have H2 := Lib.hid h2
  clear h1 h2
  go_wp2
  go_ret
  exact ⟨A', c', rfl, H1.out, H2.out⟩

end Go.Proofs.Ytofalbbbnhnadaa
