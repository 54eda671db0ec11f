/- The encoder: trees of chances. -/
import Derived.Test.YtiikbpcaeoodjaaEnD
namespace Go.Proofs.Ytiikbpcaeoodjaa
open Go.RowKit
set_option linter.unusedVariables false
set_option linter.unusedSimpArgs false

/-- May a tree of n bits stand at base? -/
def mayT (base n : Int) (len : Nat) : Bool := decide (0 ≤ base ∧ 0 ≤ n ∧ n ≤ 16 ∧ base + 2 ^ n.toNat ≤ len)
theorem mayT_iff {base n : Int} {len : Nat} : mayT base n len = true ↔ 0 ≤ base ∧ 0 ≤ n ∧ n ≤ 16 ∧ base + 2 ^ n.toNat ≤ len := by simp [mayT]
theorem pow16 (m : Nat) (h : m ≤ 16) : (1 : Int) ≤ 2 ^ m ∧ (2 : Int) ^ m ≤ 65536 := by
  have h1 : 2 ^ m ≤ 2 ^ 16 := Nat.pow_le_pow_right (by omega) h
  have h2 : 0 < 2 ^ m := Nat.two_pow_pos m
  have e : (2 : Int) ^ m = ((2 ^ m : Nat) : Int) := by rw [Int.natCast_pow]; rfl
  rw [e]
  omega

theorem wrap_small (t : Int) (h0 : 1 ≤ t) (h1 : t ≤ 65536) : IntKind.i64.wrap t = t := by
  rw [IntKind.wrap_i64]
  omega
theorem bits_or_i64_nat (a b : Nat) (ha : a < 9223372036854775808) (hb : b < 9223372036854775808) : bits .or .i64 (a : Int) (b : Int) = ((a ||| b : Nat) : Int) := by
  have hx : a ||| b < 2 ^ 63 := Nat.or_lt_two_pow (by omega) (by omega)
  have h1 : (BitVec.ofInt 64 (a : Int)).toNat = a := by
    rw [BitVec.ofInt_natCast, BitVec.toNat_ofNat]; exact Nat.mod_eq_of_lt (by omega)
  have h2 : (BitVec.ofInt 64 (b : Int)).toNat = b := by
    rw [BitVec.ofInt_natCast, BitVec.toNat_ofNat]; exact Nat.mod_eq_of_lt (by omega)
  show IntKind.i64.wrap ((BitVec.ofInt 64 (a : Int) ||| BitVec.ofInt 64 (b : Int)).toNat : Int) = _
  rw [BitVec.toNat_or, h1, h2, IntKind.wrap_i64]
  omega
theorem or_low (a x : Nat) (hx : x ≤ 1) (ha : a < 1000000000000) : bits .or .i64 ((a : Int) * 2) (x : Int) = ((2 * a + x : Nat) : Int) := by
  rw [show ((a : Int) * 2) = ((2 * a : Nat) : Int) by omega, bits_or_i64_nat _ _ (by omega) (by omega)]
  have h := Nat.two_pow_add_eq_or_of_lt (i := 1) (b := x) (by omega) a
  rw [show 2 ^ 1 * a = 2 * a by omega] at h
  rw [← h]

set_option maxRecDepth 8000 in
theorem tree_is (w : World) (gc cc len : Nat) (base n : Int) (hlen : len ≤ 65536) (hb : inKind .i64 base) (hn : inKind .i64 n) :
    Calls Try.prog 65 #[.slice (some ⟨gc, 0, none⟩) len cc, .int .i64 base, .int .i64 n] w fun e' w' => e' = .returned (.bool (mayT base n len)) ∧ w = w' := by
  have hb := inKind_i64 hb
  have hn := inKind_i64 hn
  by_cases h1 : base < 0
  · have hM : mayT base n len = false := by cases h : mayT base n len; rfl; have := (mayT_iff.1 h); omega
    rw [hM]
    clear hM
    go_enter Try.func65, Try.ntmps65
    go_wp2_with fail
    go_ret
    exact ⟨rfl, rfl⟩
  by_cases h2 : n < 0
  · have hM : mayT base n len = false := by cases h : mayT base n len; rfl; have := (mayT_iff.1 h); omega
    rw [hM]
    clear hM
    go_enter Try.func65, Try.ntmps65
    go_wp2_with fail
    go_ret
    exact ⟨rfl, rfl⟩
  by_cases h3 : 16 < n
  · have hM : mayT base n len = false := by cases h : mayT base n len; rfl; have := (mayT_iff.1 h); omega
    rw [hM]
    clear hM
    go_enter Try.func65, Try.ntmps65
    go_wp2_with fail
    go_ret
    exact ⟨rfl, rfl⟩
  obtain ⟨m, rfl⟩ : ∃ m : Nat, n = (m : Int) := ⟨n.toNat, by omega⟩
  have hm : m ≤ 16 := by omega
  have hM : mayT base m len = decide (base ≤ (len : Int) - 2 ^ m) := by
    rw [Bool.eq_iff_iff, mayT_iff, decide_eq_true_iff]
    simp only [Int.toNat_natCast]
    omega
  obtain ⟨p1, p2⟩ := pow16 m hm
  have ei : IntKind.i64.wrap (2 ^ m) = 2 ^ m := wrap_small _ p1 p2
  have hb0 : 0 ≤ base := by omega
  have hm2 : (m : Int) ≤ 16 := by omega
  rw [hM]
  clear hM hb hn h1 h2 h3 hm
  go_enter Try.func65, Try.ntmps65
  go_wp2_with fail
  go_ret
  exact ⟨rfl, rfl⟩

/-- A function value that tells the bits of a number, in order, in whatever world is later than w but for S. -/
def TellsBits (P : Program) (S : Nat → Prop) (w : World) (fv : Value) (bs : List Nat) : Prop :=
  ∃ (f : FuncId) (cap : Array Value), fv = .func (.func f) #[] cap ∧ (∀ args w', (callFunc f args).run P w' = .ok (.enter f args) w') ∧
    ∀ w7, Keeps S w w7 → ∀ i, i < bs.length → Calls P f (#[.int .i64 (i : Nat)] ++ cap) w7 fun e w' => e = .returned (.int .i64 (bs.getD i 0 : Nat)) ∧ w7 = w'

set_option maxRecDepth 8000 in
theorem walk_bad (w : World) (g gc cc : Nat) (vo : Value) (e : Enc) (h : EncAt w g gc cc vo e) (hlen : e.ch.length ≤ 65536) (base v n : Int) (fv : Value) (hbk : inKind .i64 base) (hnk : inKind .i64 n)
    (hb : mayT base n e.ch.length = false ∨ v < 0 ∨ (0 ≤ n ∧ n ≤ 16 ∧ 0 ≤ v ∧ v / 2 ^ n.toNat ≠ 0)) :
    Calls Try.prog 49 #[.pointer (some ⟨g, 0, none⟩), .int .i64 base, .int .i64 v, .int .i64 n, fv] w fun e' w' => e' = .returned (.int .i64 2) ∧ w = w' := by
  have HN := Lib.hid (none_is w g gc cc vo e h)
  have HT := Lib.hid (tree_is w gc cc e.ch.length base n hlen hbk hnk)
  have d1 := blk_cell h.blk 1
  simp at d1
  generalize hM : mayT base n e.ch.length = M at *
  have hMX : M = true → 0 ≤ n ∧ n ≤ 16 := fun h9 => by rw [h9] at hM; have := mayT_iff.1 hM; omega
  generalize e.ch.length = len at *
  clear h hlen hbk hnk hM
  go_enter Try.func49, Try.ntmps49
  go_wp2_with fail
  refine HN.out.mono ?_
  rintro x w1 ⟨rfl, rfl⟩
  go_wp2_with fail
  refine HT.out.mono ?_
  rintro x w1 ⟨rfl, rfl⟩
  cases M
  · clear hb hMX
    go_wp2_with fail
    go_ret
    exact ⟨rfl, rfl⟩
  obtain ⟨hn0, hn1⟩ := hMX rfl
  by_cases h3 : v < 0
  · clear hb hMX
    go_wp2_with fail
    go_ret
    exact ⟨rfl, rfl⟩
  obtain ⟨m, rfl⟩ : ∃ m : Nat, n = (m : Int) := ⟨n.toNat, by omega⟩
  have h4 : v / 2 ^ m ≠ 0 := by
    rcases hb with h | h | ⟨_, _, _, h⟩
    · cases h
    · omega
    · simpa using h
  have h5 : (v / 2 ^ m != 0) = true := by simpa using h4
  clear hb h4 hMX
  go_wp2_with fail
  go_ret
  exact ⟨rfl, rfl⟩

set_option maxRecDepth 8000 in
set_option maxHeartbeats 4000000 in
theorem walk_is (w : World) (g gc cc : Nat) (vo : Value) (e : Enc) (h : EncAt w g gc cc vo e) (hok : e.Ok) (hlen : e.ch.length ≤ 65536) (base v n : Nat) (fv : Value) (hn : n ≤ 16) (hbn : base + 2 ^ n ≤ e.ch.length) (hv : v / 2 ^ n = 0)
    (bs : List Nat) (hbs : bs.length = n) (hb1 : ∀ x ∈ bs, x ≤ 1) (ht : TellsBits Try.prog (fun k => k = g ∨ k = gc ∨ vo.ownBlock = some k) w fv bs) (hb : e.out.length + e.waiting ≤ 99999999999900) :
    Calls Try.prog 49 #[.pointer (some ⟨g, 0, none⟩), .int .i64 base, .int .i64 v, .int .i64 n, fv] w fun e' w' => e' = .returned (.int .i64 0) ∧ EncTo2 w g gc cc vo (e.walk base 1 bs) w' := by
  obtain ⟨f, cap, rfl, hcall, hp⟩ := ht
  have HP := Lib.hid hp
  have HN := Lib.hid (none_is w g gc cc vo e h)
  have hM : mayT base n e.ch.length = true := mayT_iff.2 ⟨by omega, by omega, by omega, by
    have e1 : (2 : Int) ^ ((n : Int)).toNat = ((2 ^ n : Nat) : Int) := by rw [Int.toNat_natCast, Int.natCast_pow]; rfl
    rw [e1]
    omega⟩
  have HT := Lib.hid (tree_is w gc cc e.ch.length base n hlen (mk_i64 (by omega) (by have := Nat.two_pow_pos n; omega)) (mk_i64 (by omega) (by omega)))
  rw [hM] at HT
  have d1 := blk_cell h.blk 1
  simp at d1
  have hvi : (v : Int) / 2 ^ n = 0 := by
    have h1 : ((v / 2 ^ n : Nat) : Int) = ((v : Int) / ((2 ^ n : Nat) : Int)) := Int.natCast_ediv v (2 ^ n)
    rw [hv] at h1
    rw [Int.natCast_pow] at h1
    exact h1.symm
  have t3 : decide ((v : Int) < 0) = false := by simp
  have H := Lib.hid h
  have HOK := Lib.hid hok
  have HB := Lib.hid hb
  have HLEN := Lib.hid (And.intro hlen hbn)
  have HBS := Lib.hid hbs
  have HB1 := Lib.hid hb1
  obtain ⟨E, hE⟩ : ∃ E, E = e.walk base 1 bs := ⟨_, rfl⟩
  have HE := Lib.hid hE
  rw [← hE]
  clear h hok hb hE hv hM hlen hbn hbs hb1 hp
  obtain ⟨len, hle⟩ : ∃ len, len = e.ch.length := ⟨_, rfl⟩
  have HLE := Lib.hid hle
  rw [← hle] at d1 HLEN HT
  clear hle
  go_enter Try.func49, Try.ntmps49
  go_wp2_with fail
  refine HN.out.mono ?_
  rintro x w1 ⟨rfl, rfl⟩
  go_wp2_with fail
  refine HT.out.mono ?_
  rintro x w1 ⟨rfl, rfl⟩
  go_wp2_with fail
  clear t3 hvi d1 HN HT
  go_loopw [11, 37] (fun vm vi wr => ∃ (i m : Nat) (vo' : Value) (e1 : Enc), i ≤ n ∧ vm = .int .i64 m ∧ vi = .int .i64 i ∧ Hid (EncAt wr g gc cc vo' e1) ∧ Hid (e1.Ok ∧ e1.ch.length = len ∧ e1.walk base m (bs.drop i) = E ∧ m < 2 ^ (i + 1) ∧ e1.out.length + e1.waiting ≤ e.out.length + e.waiting + i) ∧ Hid (Keeps (fun k => k = g ∨ k = gc ∨ vo.ownBlock = some k) w wr) ∧ Hid (Moved w vo vo')) (fun _ vi _ => n - (intOf vi).toNat)
  case atStart => exact ⟨0, 1, vo, e, by omega, rfl, rfl, H.out, ⟨HOK.out, HLE.out.symm, by rw [List.drop_zero]; exact HE.out.symm, by decide, by omega⟩, Keeps.refl _ _, Moved.refl _ _⟩
  case round =>
    obtain ⟨i, m, vo', e1, hi, rfl, rfl, H1, HX, HK, HM⟩ := hrel
    by_cases hin : i < n
    · obtain ⟨hok1, hch1, hd1, hm1, hl1⟩ := HX.out
      have hpw : 2 ^ (i + 1) ≤ 2 ^ n := Nat.pow_le_pow_right (by omega) (by omega)
      have hp16 : 2 ^ n ≤ 2 ^ 16 := Nat.pow_le_pow_right (by omega) hn
      have hlb := HLEN.out
      have hx1 : bs.getD i 0 ≤ 1 := HB1.out _ (by simp [List.getD_eq_getElem?_getD, show i < bs.length by rw [HBS.out]; exact hin])
      have hdrop : bs.drop i = bs.getD i 0 :: bs.drop (i + 1) := by
        rw [List.drop_eq_getElem_cons (by rw [HBS.out]; exact hin)]
        simp [List.getD_eq_getElem?_getD, show i < bs.length by rw [HBS.out]; exact hin]
      rw [hdrop] at hd1
      have HF := Lib.hid (HP.out wr HK.out i (by rw [HBS.out]; exact hin))
      obtain ⟨x, hx⟩ : ∃ x, x = bs.getD i 0 := ⟨_, rfl⟩
      rw [← hx] at HF hx1 hd1
      have hbm : base + m < len := by omega
      have hm64 : m < 65536 := by omega
      have HC := Lib.hid (chance_is wr g gc cc vo' e1 H1.out hok1 (base + m) x (by rw [hch1]; exact hbm) (by rw [hch1]; omega) hx1 (by have := HB.out; omega))
      have HOK2 := Lib.hid (Enc.put_ok e1 hok1 (base + m) x (by rw [hch1]; exact hbm))
      have HL2 := Lib.hid (Enc.put_len e1 hok1 (base + m) x)
      have HC2 := Lib.hid ((Enc.put_chlen e1 (base + m) x).trans hch1)
      have HD2 : Hid ((e1.put (base + m) x).walk base (2 * m + x) (bs.drop (i + 1)) = E) := hd1
      have HM2 : Hid (2 * m + x < 2 ^ (i + 1 + 1)) := by show _ < _; rw [Nat.pow_succ]; omega
      have HL1 := Lib.hid hl1
      have hor := or_low m x hx1 (by omega)
      rw [show (((base + m : Nat)) : Int) = (base : Int) + (m : Int) by omega] at HC
      obtain ⟨m2, hm2⟩ : ∃ m2, m2 = 2 * m + x := ⟨_, rfl⟩
      rw [← hm2] at HD2 HM2 hor
      clear hm2
      have hmi : (m : Int) * 2 < 1000000 := by omega
      generalize e1.put (base + m) x = E2 at *
      have hbz : (base : Int) + (m : Int) < 1000000 := by have := HLEN.out.1; omega
      have HLS := Lib.hid (And.intro hbm hm64)
      clear hx hdrop hd1 hlb hp16 hpw hok1 hch1 hm1 hl1 HX hx1 hbm hm64
      go_wp2_with fail
      refine HF.out.mono ?_
      rintro y w2 ⟨rfl, rfl⟩
      go_wp2_with fail
      refine HC.out.mono ?_
      rintro y w4 ⟨rfl, vo4, h4, hk4, hm4⟩
      have H4 := Lib.hid h4
      have HK5 : Hid (Keeps (fun k => k = g ∨ k = gc ∨ vo.ownBlock = some k) w w4) := Keeps.trans HK.out hk4 fun i hi h => by
        rcases h with h | h | h
        · exact .inl h
        · exact .inr (.inl h)
        · rcases HM.out with h9 | ⟨j, h9, hj⟩
          · rw [h9] at h; exact .inr (.inr h)
          · rw [h9] at h; injection h with h; omega
      have HM5 : Hid (Moved w vo vo4) := HM.out.trans hm4 HK.out.size
      clear h4 hk4 hm4 HC HF
      go_wp2_with fail
      go_roundw
      case rel => exact ⟨i + 1, m2, vo4, E2, by omega, rfl, by go_num, H4.out, ⟨HOK2.out, HC2.out, HD2.out, HM2.out, by have h1 := HL1.out; have h2 := HL2.out; omega⟩, HK5.out, HM5.out⟩
      case measure => simp [intOf]; omega
    · obtain rfl : n = i := by omega
      have hE : E = e1 := by
        have h1 := HX.out.2.2.1
        rw [List.drop_eq_nil_of_le (by rw [HBS.out]; exact Nat.le_refl _)] at h1
        exact h1.symm
      subst hE
      clear HX HE
      go_wp2_with fail
      go_ret
      exact ⟨rfl, vo', H1.out, HK.out, HM.out⟩

/-- The bits of a number, the highest first or last. -/
def bitsT (high : Bool) (v n : Nat) : List Nat := (List.range n).map fun i => v / 2 ^ (if high then n - 1 - i else i) % 2
theorem bitsT_len (high : Bool) (v n : Nat) : (bitsT high v n).length = n := by simp [bitsT]
theorem bitsT_le (high : Bool) (v n : Nat) : ∀ x ∈ bitsT high v n, x ≤ 1 := fun x hx => by
  obtain ⟨i, _, rfl⟩ := List.mem_map.1 hx
  have := Nat.mod_lt (v / 2 ^ (if high then n - 1 - i else i)) (show 2 > 0 by omega)
  omega
theorem bitsT_get (high : Bool) (v n i : Nat) (h : i < n) : (bitsT high v n).getD i 0 = v / 2 ^ (if high then n - 1 - i else i) % 2 := by
  simp [bitsT, List.getD_eq_getElem?_getD, h]
theorem bit_and (v m : Nat) (hv : v < 4611686018427387904) : bits .and .i64 ((v : Int) / 2 ^ m) 1 = ((v / 2 ^ m % 2 : Nat) : Int) := by
  obtain ⟨y, hy⟩ : ∃ y, y = v / 2 ^ m := ⟨_, rfl⟩
  have h1 : (v : Int) / 2 ^ m = (y : Int) := by rw [hy, Int.natCast_ediv, Int.natCast_pow]; rfl
  have hyv : y ≤ v := by rw [hy]; exact Nat.div_le_self _ _
  rw [h1, and1_i64 _ (by omega) (by omega), ← hy]
  omega

set_option maxRecDepth 8000 in
theorem treeBit_is (w : World) (gv gn v n i : Nat) (hv : w.cell? ⟨gv, 0, none⟩ = some (.int .i64 (v : Nat))) (hn : w.cell? ⟨gn, 0, none⟩ = some (.int .i64 (n : Nat))) (hi : i < n) (hn2 : n ≤ 16) (hv2 : v < 65536) :
    Calls Try.prog 50 #[.int .i64 i, .pointer (some ⟨gv, 0, none⟩), .pointer (some ⟨gn, 0, none⟩)] w fun e w' => e = .returned (.int .i64 ((bitsT true v n).getD i 0 : Nat)) ∧ w = w' := by
  obtain ⟨m, hm⟩ : ∃ m, m = n - 1 - i := ⟨_, rfl⟩
  have em : (n : Int) - 1 - (i : Int) = (m : Int) := by omega
  have hb := bit_and v m (by omega)
  have HG : Hid ((bitsT true v n).getD i 0 = v / 2 ^ m % 2) := by show _ = _; rw [bitsT_get true v n i hi, if_pos rfl, hm]
  rw [HG.out]
  generalize v / 2 ^ m % 2 = x at *
  clear hm hv2 HG
  go_enter Try.func50, Try.ntmps50
  go_wp2_with fail
  go_ret
  exact ⟨rfl, rfl⟩
set_option maxRecDepth 8000 in
theorem revBit_is (w : World) (gv v n i : Nat) (hv : w.cell? ⟨gv, 0, none⟩ = some (.int .i64 (v : Nat))) (hi : i < n) (hn2 : n ≤ 16) (hv2 : v < 65536) :
    Calls Try.prog 52 #[.int .i64 i, .pointer (some ⟨gv, 0, none⟩)] w fun e w' => e = .returned (.int .i64 ((bitsT false v n).getD i 0 : Nat)) ∧ w = w' := by
  have hb := bit_and v i (by omega)
  have hi64 : i < 64 := by omega
  have HG : Hid ((bitsT false v n).getD i 0 = v / 2 ^ i % 2) := by show _ = _; rw [bitsT_get false v n i hi]; rfl
  rw [HG.out]
  generalize v / 2 ^ i % 2 = x at *
  clear hv2 HG
  go_enter Try.func52, Try.ntmps52
  go_wp2_with fail
  go_ret
  exact ⟨rfl, rfl⟩
theorem EncAt.alloc {w : World} {g gc cc : Nat} {vo : Value} {e : Enc} (h : EncAt w g gc cc vo e) (o : Obj) : EncAt (w.alloc o) g gc cc vo e := h.keep (S := fun _ => False) ((Keeps.refl _ w).alloc o) (fun h => h) (fun h => h) (fun _ _ h => h)
theorem small_v {v n : Nat} (hn : n ≤ 16) (hv : v / 2 ^ n = 0) : v < 65536 := by
  have h1 : v < 2 ^ n := by
    rcases Nat.lt_or_ge v (2 ^ n) with h | h
    · exact h
    · have := Nat.div_pos h (Nat.two_pow_pos n); omega
  have h2 : 2 ^ n ≤ 2 ^ 16 := Nat.pow_le_pow_right (by omega) hn
  omega
theorem EncTo2.grow {w wa w' : World} {g gc cc : Nat} {vo : Value} {e : Enc} (q : Grow w wa) (h : EncTo2 wa g gc cc vo e w') : EncTo2 w g gc cc vo e w' := by
  obtain ⟨vo', h1, h2, h3⟩ := h
  exact ⟨vo', h1, Keeps.trans (gk q) h2 fun _ _ h => h, (Moved.refl w vo).trans h3 q.size⟩

theorem ckp {S : Nat → Prop} {w w' : World} {p : Addr} {u : Value} (h : w.cell? p = some u) (k : Keeps S w w') (hp : ¬ S p.block) : w'.cell? p = some u := by
  rw [← h]
  exact World.cell?_of_block (k.block _ (World.block_lt_of_cell? w _ h) hp)
set_option maxRecDepth 8000 in
set_option maxHeartbeats 1000000 in
theorem treeE_bad (w : World) (g gc cc : Nat) (vo : Value) (e : Enc) (h : EncAt w g gc cc vo e) (hlen : e.ch.length ≤ 65536) (base v n : Int) (hbk : inKind .i64 base) (hnk : inKind .i64 n)
    (hb : mayT base n e.ch.length = false ∨ v < 0 ∨ (0 ≤ n ∧ n ≤ 16 ∧ 0 ≤ v ∧ v / 2 ^ n.toNat ≠ 0)) :
    Calls Try.prog 20 #[.pointer (some ⟨g, 0, none⟩), .int .i64 base, .int .i64 v, .int .i64 n] w fun e' w' => e' = .returned (.int .i64 2) ∧ Grow w w' := by
  have HW := Lib.hid (walk_bad ((w.alloc (.cells #[.int .i64 v] 3)).alloc (.cells #[.int .i64 n] 3)) g gc cc vo e ((h.alloc _).alloc _) hlen base v n (.func (.func 50) #[] #[.pointer (some ⟨w.heap.size, 0, none⟩), .pointer (some ⟨w.heap.size + 1, 0, none⟩)]) hbk hnk hb)
  clear h hlen hbk hnk hb
  go_enter Try.func20, Try.ntmps20
  go_wp2_with fail
  refine HW.out.mono ?_
  rintro x w1 ⟨rfl, rfl⟩
  go_wp2_with fail
  go_ret
  exact ⟨rfl, ((Keeps.refl (fun _ => False) w).alloc _).alloc _⟩
set_option maxRecDepth 8000 in
set_option maxHeartbeats 1000000 in
theorem treeE_is (w : World) (g gc cc : Nat) (vo : Value) (e : Enc) (h : EncAt w g gc cc vo e) (hok : e.Ok) (hlen : e.ch.length ≤ 65536) (base v n : Nat) (hn : n ≤ 16) (hbn : base + 2 ^ n ≤ e.ch.length) (hv : v / 2 ^ n = 0) (hb : e.out.length + e.waiting ≤ 99999999999900) :
    Calls Try.prog 20 #[.pointer (some ⟨g, 0, none⟩), .int .i64 base, .int .i64 v, .int .i64 n] w fun e' w' => e' = .returned (.int .i64 0) ∧ EncTo2 w g gc cc vo (e.walk base 1 (bitsT true v n)) w' := by
  have c1 : ((w.alloc (.cells #[.int .i64 (v : Nat)] 3)).alloc (.cells #[.int .i64 (n : Nat)] 3)).cell? ⟨w.heap.size, 0, none⟩ = some (.int .i64 (v : Nat)) := by go_simp
  have c2 : ((w.alloc (.cells #[.int .i64 (v : Nat)] 3)).alloc (.cells #[.int .i64 (n : Nat)] 3)).cell? ⟨w.heap.size + 1, 0, none⟩ = some (.int .i64 (n : Nat)) := by go_simp
  have HNE1 : ¬ (w.heap.size = g ∨ w.heap.size = gc ∨ vo.ownBlock = some w.heap.size) := by have h1 := blk_lt h.blk; obtain ⟨cs, h2⟩ := h.chs_blk; have h3 := blk_lt h2; have h4 := h.out.lt w.heap.size; intro h5; rcases h5 with h5 | h5 | h5 <;> first | omega | (have := (h4 h5).2; omega)
  have HNE2 : ¬ (w.heap.size + 1 = g ∨ w.heap.size + 1 = gc ∨ vo.ownBlock = some (w.heap.size + 1)) := by have h1 := blk_lt h.blk; obtain ⟨cs, h2⟩ := h.chs_blk; have h3 := blk_lt h2; have h4 := h.out.lt (w.heap.size + 1); intro h5; rcases h5 with h5 | h5 | h5 <;> first | omega | (have := (h4 h5).2; omega)
  have HW := Lib.hid (walk_is ((w.alloc (.cells #[.int .i64 (v : Nat)] 3)).alloc (.cells #[.int .i64 (n : Nat)] 3)) g gc cc vo e ((h.alloc _).alloc _) hok hlen base v n (.func (.func 50) #[] #[.pointer (some ⟨w.heap.size, 0, none⟩), .pointer (some ⟨w.heap.size + 1, 0, none⟩)]) hn hbn hv (bitsT true v n) (bitsT_len _ _ _) (bitsT_le _ _ _)
    ⟨50, #[.pointer (some ⟨w.heap.size, 0, none⟩), .pointer (some ⟨w.heap.size + 1, 0, none⟩)], rfl, fun args w' => by go_simp, fun w7 h7 i hi => treeBit_is w7 w.heap.size (w.heap.size + 1) v n i (ckp c1 h7 HNE1) (ckp c2 h7 HNE2) (by rw [bitsT_len] at hi; exact hi) hn (small_v hn hv)⟩ hb)
  generalize e.walk base 1 (bitsT true v n) = E at *
  clear h hok hlen hbn hv hb c1 HNE1 c2 HNE2
  go_enter Try.func20, Try.ntmps20
  go_wp2_with fail
  refine HW.out.mono ?_
  rintro x w1 ⟨rfl, hE⟩
  have HE := Lib.hid hE
  clear hE HW
  go_wp2_with fail
  go_ret
  exact ⟨rfl, HE.out.grow (((Keeps.refl (fun _ => False) w).alloc _).alloc _)⟩
set_option maxRecDepth 8000 in
set_option maxHeartbeats 1000000 in
theorem rev_bad (w : World) (g gc cc : Nat) (vo : Value) (e : Enc) (h : EncAt w g gc cc vo e) (hlen : e.ch.length ≤ 65536) (base v n : Int) (hbk : inKind .i64 base) (hnk : inKind .i64 n)
    (hb : mayT base n e.ch.length = false ∨ v < 0 ∨ (0 ≤ n ∧ n ≤ 16 ∧ 0 ≤ v ∧ v / 2 ^ n.toNat ≠ 0)) :
    Calls Try.prog 22 #[.pointer (some ⟨g, 0, none⟩), .int .i64 base, .int .i64 v, .int .i64 n] w fun e' w' => e' = .returned (.int .i64 2) ∧ Grow w w' := by
  have HW := Lib.hid (walk_bad (w.alloc (.cells #[.int .i64 v] 3)) g gc cc vo e (h.alloc _) hlen base v n (.func (.func 52) #[] #[.pointer (some ⟨w.heap.size, 0, none⟩)]) hbk hnk hb)
  clear h hlen hbk hnk hb
  go_enter Try.func22, Try.ntmps22
  go_wp2_with fail
  refine HW.out.mono ?_
  rintro x w1 ⟨rfl, rfl⟩
  go_wp2_with fail
  go_ret
  exact ⟨rfl, (Keeps.refl (fun _ => False) w).alloc _⟩
set_option maxRecDepth 8000 in
set_option maxHeartbeats 1000000 in
theorem rev_is (w : World) (g gc cc : Nat) (vo : Value) (e : Enc) (h : EncAt w g gc cc vo e) (hok : e.Ok) (hlen : e.ch.length ≤ 65536) (base v n : Nat) (hn : n ≤ 16) (hbn : base + 2 ^ n ≤ e.ch.length) (hv : v / 2 ^ n = 0) (hb : e.out.length + e.waiting ≤ 99999999999900) :
    Calls Try.prog 22 #[.pointer (some ⟨g, 0, none⟩), .int .i64 base, .int .i64 v, .int .i64 n] w fun e' w' => e' = .returned (.int .i64 0) ∧ EncTo2 w g gc cc vo (e.walk base 1 (bitsT false v n)) w' := by
  have c1 : (w.alloc (.cells #[.int .i64 (v : Nat)] 3)).cell? ⟨w.heap.size, 0, none⟩ = some (.int .i64 (v : Nat)) := by go_simp
  have HNE1 : ¬ (w.heap.size = g ∨ w.heap.size = gc ∨ vo.ownBlock = some w.heap.size) := by have h1 := blk_lt h.blk; obtain ⟨cs, h2⟩ := h.chs_blk; have h3 := blk_lt h2; have h4 := h.out.lt w.heap.size; intro h5; rcases h5 with h5 | h5 | h5 <;> first | omega | (have := (h4 h5).2; omega)
  have HW := Lib.hid (walk_is (w.alloc (.cells #[.int .i64 (v : Nat)] 3)) g gc cc vo e (h.alloc _) hok hlen base v n (.func (.func 52) #[] #[.pointer (some ⟨w.heap.size, 0, none⟩)]) hn hbn hv (bitsT false v n) (bitsT_len _ _ _) (bitsT_le _ _ _)
    ⟨52, #[.pointer (some ⟨w.heap.size, 0, none⟩)], rfl, fun args w' => by go_simp, fun w7 h7 i hi => revBit_is w7 w.heap.size v n i (ckp c1 h7 HNE1) (by rw [bitsT_len] at hi; exact hi) hn (small_v hn hv)⟩ hb)
  generalize e.walk base 1 (bitsT false v n) = E at *
  clear h hok hlen hbn hv hb c1 HNE1
  go_enter Try.func22, Try.ntmps22
  go_wp2_with fail
  refine HW.out.mono ?_
  rintro x w1 ⟨rfl, hE⟩
  have HE := Lib.hid hE
  clear hE HW
  go_wp2_with fail
  go_ret
  exact ⟨rfl, HE.out.grow ((Keeps.refl (fun _ => False) w).alloc _)⟩
end Go.Proofs.Ytiikbpcaeoodjaa
