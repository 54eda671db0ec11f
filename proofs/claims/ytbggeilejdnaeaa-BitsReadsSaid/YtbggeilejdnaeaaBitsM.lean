/- bits.Writer.PutBytes; bits.Reader's Get where it tells an error, Align and Bytes. -/
import Derived.Test.YtbggeilejdnaeaaRef01
import Derived.Test.YtbggeilejdnaeaaBack
namespace Go.Proofs.Ytbggeilejdnaeaa
open Go.RowKit
set_option linter.unusedVariables false
set_option linter.unusedSimpArgs false

theorem andNot7 (n : Nat) (h : n < 4611686018427387904) : bits .andNot .i64 (n : Int) 7 = ((n / 8 * 8 : Nat) : Int) := by
  show IntKind.i64.wrap ((BitVec.ofInt 64 (n : Int) &&& ~~~BitVec.ofInt 64 7).toNat : Int) = _
  have h1 : (BitVec.ofInt 64 7).toNat = 7 := by decide
  have h2 : (BitVec.ofInt 64 (n : Int)).toNat = n := by
    rw [BitVec.toNat_ofInt]
    omega
  rw [BitVec.toNat_and, BitVec.toNat_not, h1, h2, show 2 ^ 64 - 1 - 7 = 18446744073709551608 from by decide]
  have := nat_midmask 64 3 n (by decide)
  rw [show (2 : Nat) ^ 64 - 2 ^ 3 = 18446744073709551608 from by decide, Nat.mod_eq_of_lt (by omega), show (2 : Nat) ^ 3 = 8 from rfl] at this
  rw [this, IntKind.wrap_i64]
  omega

/-- A writer's cells, whatever number of bits stands there. -/
theorem wnone_raw (w : World) (g : Nat) (u1 u2 u3 : Value) (h : w.heap[g]? = some (.cells #[.bool true, u1, u2, u3] 53 (0, 0))) :
    Calls Try.prog 26 #[.pointer (some ⟨g, 0, none⟩)] w fun e w' => e = .returned (.bool false) ∧ w = w' := by
  have c0 := blk_cell h 0
  simp at c0
  clear h
  go_enter Try.func26, Try.ntmps26
  go_wp2
  go_ret
  exact ⟨rfl, rfl⟩
theorem align_raw (w : World) (g : Nat) (hi : Bool) (A : Option Addr) (m c : Nat) (n0 : Int) (h : w.heap[g]? = some (.cells #[.bool true, .bool hi, .slice A m c, .int .i64 n0] 53 (0, 0))) (hm : m ≤ 200000000000000) :
    Calls Try.prog 15 #[.pointer (some ⟨g, 0, none⟩)] w fun e w' => e = .returned (.int .i64 0) ∧ w' = w.setCell ⟨g, 3, none⟩ (.int .i64 (8 * m)) := by
  have c2 := blk_cell h 2
  have c3 := blk_cell h 3
  have f3 := blk_frozen h 3
  simp at c2 c3
  have H := Lib.hid h
  clear h
  go_enter Try.func15, Try.ntmps15
  go_wp2_with (go_at_call 26; refine (wnone_raw _ g _ _ _ H.out).mono ?_; rintro e w1 ⟨rfl, rfl⟩)
  go_ret
  exact ⟨rfl, rfl⟩

set_option maxRecDepth 4000 in
set_option maxHeartbeats 1000000 in
theorem putBytes_yes (w : World) (g : Nat) (hi : Bool) (v : Value) (l : List Int) (A : Option Addr) (n c : Nat) (b : List Int) (h : Wr w g hi v l) (hs : Nums .u8 w A n c b) (h8 : l.length % 8 = 0) (hl : l.length + 8 * n ≤ 1000000000000000) :
    Calls Try.prog 16 #[.pointer (some ⟨g, 0, none⟩), .slice A n c] w fun e w' => e = .returned (.int .i64 0) ∧ ∃ v', Wr w' g hi v' (l ++ ofBytes hi b) ∧ WrKeep w w' g v v' := by
  have hne := h.ne
  have H := Lib.hid h
  have HS := Lib.hid hs.src
  have HB := Lib.hid hs
  obtain ⟨hbits, hb, ho⟩ := h
  obtain ⟨A0, c0, rfl⟩ := row_form ho
  have c1 := blk_cell hb 1
  have c2 := blk_cell hb 2
  have c3 := blk_cell hb 3
  simp at c1 c2 c3
  have e7 := and7 (l.length : Int) (by omega) (by omega)
  have e70 : (l.length : Int) % 8 = 0 := by omega
  rw [e70] at e7
  have HO := Lib.hid ho
  have HBK := Lib.hid hb
  have HNE := Lib.hid hne
  generalize hq : (l.length + 7) / 8 = q at *
  have HQ := Lib.hid hq
  have hqn : q + n ≤ 140000000000000 := by omega
  clear hs hb ho e70 hne hq
  go_enter Try.func16, Try.ntmps16
  go_wp2_with (first
    | (go_at_call 26; refine (wnone_made _ g hi _ l H.out).mono ?_; rintro e w1 ⟨rfl, rfl⟩)
    | (at_builtin; refine wpList_app_any rfl (.tmp 19) (.tmp 20) 29 5 rfl Try.underlying29 Try.infoU8 rfl (by decide) _ q _ rfl HO.out A n c _ rfl HS.out (by unfold maxLen; omega) (by omega) ?_))
  intro A1 c1' w1 ho1 hg1 hm1
  have hb1 := blk_grown HBK.out hg1 HNE.out
  have hne1 := row_ne ho1 hb1 (by decide)
  have d1 := blk_cell hb1 1
  have d2 := blk_cell hb1 2
  have d3 := blk_cell hb1 3
  have f2 := blk_frozen hb1 2
  simp at d1 d2 d3
  have hb2 := blk_set hb1 2 (.slice A1 (q + n) c1')
  simp at hb2
  have ho2 := row_set_far (p := ⟨g, 2, none⟩) ho1 hne1 (.slice A1 (q + n) c1')
  have hk : Keeps (fun k => k = g ∨ (Value.slice A0 q c0).ownBlock = some k) w w1 := (Keeps.refl _ w).grown hg1 fun k _ e => .inr e
  have HB2 := Lib.hid hb2
  have HO2 := Lib.hid ho2
  have HK := Lib.hid hk
  have HM := Lib.hid hm1
  have HN1 := Lib.hid hne1
  clear ho1 hg1 hb1 hne1 hb2 ho2 hk hm1 c1 c2 c3
  go_wp2_with (go_at_call 15; refine (align_raw _ g hi A1 (q + n) c1' _ HB2.out (by omega)).mono ?_; rintro e w2 ⟨rfl, rfl⟩)
  go_ret
  have hpk := pk_bytes hi l b (by have := HQ.out; omega) (fun y hy => by have := inKind_u8 (HB.out.rng y hy); omega)
  have hlen : (l ++ ofBytes hi b).length = 8 * (q + n) := by rw [List.length_append, ofBytes_length, HB.out.len]; have := HQ.out; omega
  have hb3 := blk_set HB2.out 3 (.int .i64 (8 * ((q : Int) + (n : Int))))
  simp at hb3
  refine ⟨rfl, .slice A1 (q + n) c1', ⟨isBits_append hbits (isBits_ofBytes _ _), ?_, ?_⟩, ?_, HM.out⟩
  · rw [hlen]
    simpa using hb3
  · rw [hlen, show (8 * (q + n) + 7) / 8 = q + n from by omega, hpk, List.map_append]
    exact row_set_far (p := ⟨g, 3, none⟩) HO2.out HN1.out _
  · exact ((HK.out.setCell (p := ⟨g, 2, none⟩) (fun _ => .inl rfl) _).setCell (p := ⟨g, 3, none⟩) (fun _ => .inl rfl) _)

theorem putBytes_no (w : World) (g : Nat) (hi : Bool) (v : Value) (l : List Int) (A : Option Addr) (n c : Nat) (h : Wr w g hi v l) (h8 : l.length % 8 ≠ 0) (hl : l.length ≤ 1000000000000000) :
    Calls Try.prog 16 #[.pointer (some ⟨g, 0, none⟩), .slice A n c] w fun e w' => e = .returned (.int .i64 2) ∧ w = w' := by
  have H := Lib.hid h
  obtain ⟨hbits, hb, ho⟩ := h
  have c3 := blk_cell hb 3
  simp at c3
  have e7 := and7 (l.length : Int) (by omega) (by omega)
  obtain ⟨r, hr⟩ : ∃ r : Nat, (l.length : Int) % 8 = r := ⟨l.length % 8, by omega⟩
  rw [hr] at e7
  have hrb : 1 ≤ r ∧ r ≤ 7 := by omega
  have b0 : (((r : Int)) == 0) = false := by rw [beq_eq_false_iff_ne]; omega
  have b0' : (((r : Int)) != 0) = true := by rw [bne, b0]; rfl
  clear hb ho hr
  go_enter Try.func16, Try.ntmps16
  go_wp2_with (go_at_call 26; refine (wnone_made _ g hi _ l H.out).mono ?_; rintro e w1 ⟨rfl, rfl⟩)
  go_ret
  exact ⟨rfl, rfl⟩

/-! ### The reader -/
theorem get_arg (w : World) (g m c at' : Nat) (hi : Bool) (A : Option Addr) (xs : List Int) (n : Int) (h : Rr w g hi A m c xs at') (hn : n < 0 ∨ 64 < n) (hn2 : inKind .i64 n) :
    Calls Try.prog 22 #[.pointer (some ⟨g, 0, none⟩), .int .i64 n] w fun e w' => e = .returned (.tuple #[.int .u64 0, .int .i64 2]) ∧ w = w' := by
  have hn2 := inKind_i64 hn2
  rcases hn with hn | hn
  all_goals
    go_enter Try.func22, Try.ntmps22
    go_wp2_with fail
    go_step3
    go_wp2_with (go_at_call 29; refine (rnone_made _ g m c at' hi A xs h).mono ?_; rintro e w1 ⟨rfl, rfl⟩)
    rw [Exit.noGoto_ret]
    go_ret2
    exact ⟨rfl, rfl⟩
theorem get_end (w : World) (g m c at' : Nat) (hi : Bool) (A : Option Addr) (xs : List Int) (n : Nat) (h : Rr w g hi A m c xs at') (hm : m ≤ 140737488355328) (ha : at' ≤ 8 * m) (hn : n ≤ 64) (hl : 8 * m < at' + n) :
    Calls Try.prog 22 #[.pointer (some ⟨g, 0, none⟩), .int .i64 n] w fun e w' => e = .returned (.tuple #[.int .u64 0, .int .i64 10]) ∧ w' = w.drew := by
  have t1 : (decide ((n : Int) < 0)) = false := by simp
  have t2 : (decide ((64 : Int) < n)) = false := by simp; omega
  have t3 : (decide (((8 * m - at' : Nat) : Int) < n)) = true := by simp; omega
  go_enter Try.func22, Try.ntmps22
  go_wp2_with fail
  go_step3
  go_wp2_with (first
    | (go_at_call 29; refine (rnone_made _ g m c at' hi A xs h).mono ?_; rintro e w1 ⟨rfl, rfl⟩)
    | (go_at_call 21; refine (left_any _ g m c at' hi A xs h hm (by omega)).mono ?_; rintro e w1 ⟨rfl, rfl⟩))
  rw [Exit.noGoto_ret]
  go_ret2
  exact ⟨rfl, rfl⟩
theorem ralign_any (w : World) (g m c at' : Nat) (hi : Bool) (A : Option Addr) (xs : List Int) (h : Rr w g hi A m c xs at') (ha : at' ≤ 2000000000000000) :
    Calls Try.prog 24 #[.pointer (some ⟨g, 0, none⟩)] w fun e w' => e = .returned (.int .i64 0) ∧ Rr w' g hi A m c xs ((at' + 7) / 8 * 8) ∧ Keeps (fun k => k = g) w w' := by
  have c3 := blk_cell h.1 3
  have f3 := blk_frozen h.1 3
  simp at c3
  have e7 := andNot7 (at' + 7) (by omega)
  rw [Int.natCast_add] at e7
  have H := Lib.hid h
  clear h
  go_enter Try.func24, Try.ntmps24
  go_wp2_with (go_at_call 29; refine (rnone_made _ g m c at' hi A xs H.out).mono ?_; rintro e w1 ⟨rfl, rfl⟩)
  go_ret
  exact ⟨rfl, H.out.set _ _ (by exact e7), (Keeps.refl (fun k => k = g) w).setCell (p := ⟨g, 3, none⟩) (fun _ => rfl) _⟩

theorem rbytes_arg (w : World) (g m c at' : Nat) (hi : Bool) (A : Option Addr) (xs : List Int) (n : Int) (h : Rr w g hi A m c xs at') (ha : at' ≤ 2000000000000000) (hn : n < 0 ∨ at' % 8 ≠ 0) (hn2 : inKind .i64 n) :
    Calls Try.prog 25 #[.pointer (some ⟨g, 0, none⟩), .int .i64 n] w fun e w' => e = .returned (.tuple #[.slice none 0 0, .int .i64 2]) ∧ w = w' := by
  have hn2 := inKind_i64 hn2
  have c3 := blk_cell h.1 3
  simp at c3
  have H := Lib.hid h
  clear h
  by_cases h0 : n < 0
  · clear hn
    go_enter Try.func25, Try.ntmps25
    go_wp2_with (go_at_call 29; refine (rnone_made _ g m c at' hi A xs H.out).mono ?_; rintro e w1 ⟨rfl, rfl⟩)
    go_ret2
    exact ⟨rfl, rfl⟩
  · have h8 : at' % 8 ≠ 0 := by omega
    have e7 := and7 (at' : Int) (by omega) (by omega)
    obtain ⟨r, hr⟩ : ∃ r : Nat, (at' : Int) % 8 = r := ⟨at' % 8, by omega⟩
    rw [hr] at e7
    have hrb : 1 ≤ r ∧ r ≤ 7 := by omega
    have b0 : (((r : Int)) == 0) = false := by rw [beq_eq_false_iff_ne]; omega
    have b0' : (((r : Int)) != 0) = true := by rw [bne, b0]; rfl
    clear hn hr h8
    go_enter Try.func25, Try.ntmps25
    go_wp2_with (go_at_call 29; refine (rnone_made _ g m c at' hi A xs H.out).mono ?_; rintro e w1 ⟨rfl, rfl⟩)
    go_ret2
    exact ⟨rfl, rfl⟩
set_option maxRecDepth 4000 in
set_option maxHeartbeats 1000000 in
theorem rbytes_end (w : World) (g m c at' : Nat) (hi : Bool) (A : Option Addr) (xs : List Int) (n : Nat) (h : Rr w g hi A m c xs at') (hm : m ≤ 140737488355328) (ha : at' ≤ 8 * m) (h8 : at' % 8 = 0) (hl : (8 * m - at') / 8 < n) (hn : n ≤ 9223372036854775807) :
    Calls Try.prog 25 #[.pointer (some ⟨g, 0, none⟩), .int .i64 n] w fun e w' => e = .returned (.tuple #[.slice none 0 0, .int .i64 10]) ∧ w' = w.drew := by
  have c3 := blk_cell h.1 3
  simp at c3
  have H := Lib.hid h
  have e7 := and7 (at' : Int) (by omega) (by omega)
  have e70 : (at' : Int) % 8 = 0 := by omega
  rw [e70] at e7
  have t3 : (((8 * m - at' : Nat) : Int)) / 8 < n := by omega
  obtain ⟨L, hL⟩ : ∃ L, L = 8 * m - at' := ⟨_, rfl⟩
  have HL := Lib.hid hL
  have hLb : L ≤ 1200000000000000 := by omega
  rw [← hL] at t3
  clear h h8 e70 hl
  go_enter Try.func25, Try.ntmps25
  clear hL
  go_wp2_with (first
    | (go_at_call 29; refine (rnone_made _ g m c at' hi A xs H.out).mono ?_; rintro e w1 ⟨rfl, rfl⟩)
    | (go_at_call 21; refine (left_any _ g m c at' hi A xs H.out hm (by omega)).mono ?_; rw [← HL.out]; rintro e w1 ⟨rfl, rfl⟩))
  go_ret2
  exact ⟨rfl, rfl⟩
set_option maxRecDepth 4000 in
set_option maxHeartbeats 1000000 in
theorem rbytes_yes (w : World) (g m c at' : Nat) (hi : Bool) (A : Option Addr) (xs : List Int) (n : Nat) (h : Rr w g hi A m c xs at') (hm : m ≤ 140737488355328) (ha : at' ≤ 8 * m) (h8 : at' % 8 = 0) (hl : n ≤ (8 * m - at') / 8) :
    Calls Try.prog 25 #[.pointer (some ⟨g, 0, none⟩), .int .i64 n] w fun e w' => ∃ A' c', e = .returned (.tuple #[.slice A' n c', .int .i64 0]) ∧ w'.ownsRow w.heap.size 5 1 (.slice A' n c') n (((xs.drop (at' / 8)).take n).map (Value.int .u8)) ∧ Rr w' g hi A m c xs (at' + 8 * n) ∧ Keeps (fun k => k = g) w w' := by
  have c2 := blk_cell h.1 2
  have c3 := blk_cell h.1 3
  have f3 := blk_frozen h.1 3
  simp at c2 c3
  have H := Lib.hid h
  have e7 := and7 (at' : Int) (by omega) (by omega)
  have e70 : (at' : Int) % 8 = 0 := by omega
  rw [e70] at e7
  have t3 : ¬ (((8 * m - at' : Nat) : Int)) / 8 < n := by omega
  obtain ⟨L, hL⟩ : ∃ L, L = 8 * m - at' := ⟨_, rfl⟩
  have HL := Lib.hid hL
  have hLb : L ≤ 1200000000000000 := by omega
  rw [← hL] at t3
  obtain ⟨q, hq⟩ : ∃ q, q = at' / 8 := ⟨_, rfl⟩
  have eq8 : (at' : Int) / 8 = (q : Int) := by omega
  have hqn : q + n ≤ m := by omega
  have hN : Nums .u8 w A m c xs := Nums.of_own h.2.1 (fun x hx => by have := h.2.2 x hx; exact mk_u8 this.1 this.2)
  have hmc := hN.cap
  have hsl : ∀ w, (Instr.slice 29 (.slice A m c) (some (.int .i64 (q : Int))) (some (.int .i64 ((q : Int) + (n : Int)))) none).run Try.prog w = .ok (.slice (Nums.off A c q) n (c - q)) w := fun w => by
    have h := run_mid (P := Try.prog) (t := 29) Try.underlying29 rfl rfl A m c q (q + n) (by omega) (by omega) w
    rw [Int.natCast_add, Nat.add_sub_cancel_left] at h
    exact h
  have HQ := Lib.hid hq
  have hset : Rr (w.setCell ⟨g, 3, none⟩ (.int .i64 ((at' : Int) + 8 * n))).drew g hi A m c xs (at' + 8 * n) := H.out.set (at' + 8 * n) ((at' : Int) + 8 * n) (by omega)
  have hN2 : Nums .u8 (w.setCell ⟨g, 3, none⟩ (.int .i64 ((at' : Int) + 8 * n))).drew A m c xs := Nums.of_own hset.2.1 hN.rng
  have hsub := ((hN2.take (q + n) hqn).drop q (by omega))
  rw [show q + n - q = n from by omega, List.drop_take, show q + n - q = n from by omega] at hsub
  have hkk : Keeps (fun k => k = g) w (w.setCell ⟨g, 3, none⟩ (.int .i64 ((at' : Int) + 8 * n))).drew := ((Keeps.refl (fun k => k = g) w).setCell (p := ⟨g, 3, none⟩) (fun _ => rfl) _).drew
  have HKK := Lib.hid hkk
  have HSUB := Lib.hid hsub
  have HSET := Lib.hid hset
  clear h h8 e70 hl hN hmc hsub hset hN2 hkk
  go_enter Try.func25, Try.ntmps25
  clear hL hq
  go_wp2_with (first
    | (go_at_call 29; refine (rnone_made _ g m c at' hi A xs H.out).mono ?_; rintro e w1 ⟨rfl, rfl⟩)
    | (go_at_call 21; refine (left_any _ g m c at' hi A xs H.out hm (by omega)).mono ?_; rw [← HL.out]; rintro e w1 ⟨rfl, rfl⟩))
  refine (clone_any _ _ n _ _ HSUB.out.src (by omega)).mono ?_
  rintro e w2 ⟨A', c', rfl, ho, hk⟩
  have HO := Lib.hid ho
  have HK2 := Lib.hid hk
  clear ho hk
  go_wp2_with fail
  go_ret2
  refine ⟨A', c', rfl, ?_, ?_, ?_⟩
  · rw [← HQ.out]
    have h1 := owns_base HO.out (b' := w.heap.size) (fun k hk => Nat.le_trans HKK.out.size (own_ge HO.out k hk))
    exact h1
  · exact HSET.out.keep HK2.out (fun h => h) (fun _ _ h => h)
  · exact HKK.out.trans HK2.out (fun _ _ h => h.elim)
end Go.Proofs.Ytbggeilejdnaeaa
