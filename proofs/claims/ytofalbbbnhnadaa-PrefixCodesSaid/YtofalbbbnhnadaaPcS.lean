/- prefix: a code that was made, its tables; Put. -/
import Derived.Test.YtofalbbbnhnadaaPcP
import Derived.Test.YtofalbbbnhnadaaPfC
import Derived.Test.YtofalbbbnhnadaaBack
namespace Go.Proofs.Ytofalbbbnhnadaa
open Go.RowKit
set_option linter.unusedVariables false
set_option linter.unusedSimpArgs false

/-- A code as New leaves it: all its blocks lie below B. -/
structure CodeX (w : World) (g m M B : Nat) (ls : List Nat) : Prop where
  at_ : ∃ (gw : Nat) (srt : Value) (F C P : Nat → Nat), CodeAt w g (.slice (some ⟨gw, 0, none⟩) m m) srt F C P M ∧ WordsAt w gw 73 (outK ls M).ws ∧ w.ownsRow 0 3 1 srt (outK ls M).srt.length ((outK ls M).srt.map fun s => .int .i64 (s : Nat)) ∧ (∀ k, 1 ≤ k → k ≤ M → F k = Ff ls k ∧ P k = Pp ls k ∧ C k = Cc ls k) ∧ g < B ∧ gw < B ∧ ∀ b, srt.ownBlock = some b → b < B
  len : ls.length = m
  most : M ≤ 20
  all : ∀ i, ls.getD i 0 ≤ M
  kraft : Kraft ls
theorem CodeX.keep {S : Nat → Prop} {w w' : World} {g m M B : Nat} {ls : List Nat} (h : CodeX w g m M B ls) (k : Keeps S w w') (hS : ∀ b, b < B → ¬ S b) : CodeX w' g m M B ls := by
  obtain ⟨gw, srt, F, C, P, h1, h2, h3, h4, h5, h6, h7⟩ := h.at_
  exact ⟨⟨gw, srt, F, C, P, h1.keep k (hS g h5), h2.keep k (hS gw h6), owns_keep h3 k (fun b hb => hS b (h7 b hb)), h4, h5, h6, h7⟩, h.len, h.most, h.all, h.kraft⟩
theorem CodeX.grow {w w' : World} {g m M B : Nat} {ls : List Nat} (h : CodeX w g m M B ls) (k : Grow w w') : CodeX w' g m M B ls := h.keep k fun _ _ h => h
theorem CodeX.codeW {w : World} {g m M B : Nat} {ls : List Nat} (h : CodeX w g m M B ls) : CodeW w g m (outK ls M).ws := by
  obtain ⟨gw, srt, F, C, P, h1, h2, h3, h4, h5, h6, h7⟩ := h.at_
  exact ⟨gw, srt, F, C, P, M, h1, h2, by rw [(outK_facts ls M).1, h.len]⟩
theorem cc_srt (ls : List Nat) (k : Nat) (h : 1 ≤ k) : (outK ls k).srt.length - (outK ls (k - 1)).srt.length = Cc ls k := by
  obtain ⟨j, rfl⟩ : ∃ j, k = j + 1 := ⟨k - 1, by omega⟩
  rw [outK_srt, List.length_append, idx_len, Nat.add_sub_cancel]
  unfold Cc
  omega
theorem Made.codeX {w w' : World} {m M g : Nat} {xs : List Int} (h : Made w m M g xs w') (hl : xs.length = m) (hm : M ≤ 20) (ha : ∀ i, 0 ≤ xs.getD i 0 ∧ xs.getD i 0 ≤ M) (hk : Kraft (toN xs)) : CodeX w' g m M w'.heap.size (toN xs) := by
  obtain ⟨gm, gw, B, srt, F, C, P, h1, h2⟩ := h
  refine ⟨⟨gw, srt, F, C, P, h1.code, h1.wds, owns_any_base h1.row (Nat.zero_le _), fun k hk1 hk2 => ?_, h1.code.lt, h1.wds.lt, fun b hb => (h1.row.lt b hb).2⟩, by rw [toN_len, hl], hm, fun i => ?_, hk⟩
  · obtain ⟨a, b, c⟩ := h2 k hk1 hk2
    exact ⟨a, b, by rw [c]; exact cc_srt _ k hk1⟩
  · have h3 := toN_get xs i (ha i).1
    have h4 := (ha i).2
    omega
/-- What a word is, as the words tell it. -/
theorem CodeX.word {w : World} {g m M B : Nat} {ls : List Nat} (h : CodeX w g m M B ls) (s : Nat) (hs : s < m) : (outK ls M).ws[s]? = some (if 0 < ls.getD s 0 then (wordN ls s, ls.getD s 0) else (0, 0)) := by
  rw [outK_word h.kraft M h.most s (by rw [h.len]; exact hs)]
  by_cases h0 : 0 < ls.getD s 0
  · rw [if_pos ⟨h0, h.all s⟩, if_pos h0]; rfl
  · rw [if_neg (fun h9 => h0 h9.1), if_neg h0]
theorem bitsOf_snoc (v : Int) (k : Nat) : bitsOf true v (k + 1) = bitsOf true (v / 2) k ++ [v % 2] := by
  unfold bitsOf
  rw [List.range_succ, List.map_append]
  congr 1
  · refine List.map_congr_left fun i hi => ?_
    have hi := List.mem_range.1 hi
    simp only [if_true]
    rw [show k + 1 - 1 - i = (k - 1 - i) + 1 by omega, Int.pow_succ, Int.mul_comm, Int.ediv_ediv_of_nonneg (by decide)]
  · simp
theorem ofInt32 (a : Nat) (ha : a < 4294967296) : (BitVec.ofInt 32 (a : Int)).toNat = a := by
  rw [BitVec.ofInt_natCast, BitVec.toNat_ofNat]; exact Nat.mod_eq_of_lt (by omega)
theorem and1_u32 (a : Nat) (ha : a < 4294967296) : bits .and .u32 (a : Int) 1 = ((a % 2 : Nat) : Int) := by
  show IntKind.u32.wrap ((BitVec.ofInt 32 (a : Int) &&& BitVec.ofInt 32 ((1 : Nat) : Int)).toNat : Int) = _
  rw [BitVec.toNat_and, ofInt32 a ha, ofInt32 1 (by omega), Nat.and_one_is_mod]
  show ((a % 2 : Nat) : Int) % 4294967296 = _
  omega
theorem or_bit32 (a x : Nat) (hx : x ≤ 1) (ha : a < 1073741824) : bits .or .u32 ((a : Int) * 2) (x : Int) = ((2 * a + x : Nat) : Int) := by
  rw [show ((a : Int) * 2) = ((2 * a : Nat) : Int) by omega]
  have h := Nat.two_pow_add_eq_or_of_lt (i := 1) (b := x) (by omega) a
  rw [show 2 ^ 1 * a = 2 * a by omega] at h
  show IntKind.u32.wrap ((BitVec.ofInt 32 ((2 * a : Nat) : Int) ||| BitVec.ofInt 32 (x : Int)).toNat : Int) = _
  rw [BitVec.toNat_or, ofInt32 _ (by omega), ofInt32 x (by omega), ← h]
  show ((2 * a + x : Nat) : Int) % 4294967296 = _
  omega
theorem powI4 (m : Nat) : ((2 : Int) ^ m) = ((2 ^ m : Nat) : Int) := by rw [Int.natCast_pow]; rfl
/-- The bits of a symbol's word. -/
def symBits (ls : List Nat) (s : Nat) : List Int := bitsOf true (wordN ls s : Nat) (ls.getD s 0)
set_option maxRecDepth 8000 in
set_option maxHeartbeats 2000000 in
theorem cPut_no (w : World) (g m M B : Nat) (ls : List Nat) (h : CodeX w g m M B ls) (gb : Nat) (hi : Bool) (v : Value) (l : List Int) (hw : Wr w gb hi v l) (hl : l.length ≤ 1000000000000000 - 128) (s : Int) (hs : s < 0 ∨ (m : Int) ≤ s ∨ ∃ k : Nat, s = k ∧ k < m ∧ ls.getD k 0 = 0)
    (hb : B ≤ gb) (hv : ∀ b, v.ownBlock = some b → B ≤ b) :
    Calls Try.prog 19 #[.pointer (some ⟨g, 0, none⟩), .pointer (some ⟨gb, 0, none⟩), .int .i64 s] w fun e w' => e = .returned (.int .i64 2) ∧ ∃ v', Wr w' gb hi v' l ∧ WrKeep w w' gb v v' := by
  have HN := Lib.hid (cNone_is w g m _ h.codeW)
  have HP := Lib.hid (put_yes w gb hi v l 0 0 hw (by decide) (by decide) (by decide) (.inr (by decide)) (by omega))
  have HX := Lib.hid h
  have HS := Lib.hid hs
  have HB := Lib.hid (And.intro hb hv)
  clear h hw hl hs hb hv
  go_enter Try.func19, Try.ntmps19
  go_wp2_with fail
  refine HN.out.mono ?_
  rintro x w1 ⟨rfl, rfl⟩
  go_wp2_with fail
  refine HP.out.mono ?_
  rintro x w2 ⟨rfl, v2, hw2, hk2⟩
  have HW2 : Hid (Wr w2 gb hi v2 l) := by
    have h9 : l ++ bitsOf hi 0 0 = l := by simp [bitsOf]
    rw [h9] at hw2
    exact hw2
  have HK2 := Lib.hid hk2
  have HX2 := Lib.hid (HX.out.keep hk2.1 (fun b hb9 h9 => by
    rcases h9 with h9 | h9
    · have := HB.out.1; omega
    · have := HB.out.2 b h9; omega))
  clear hw2 hk2 HN HP
  by_cases hout : s < 0 ∨ (m : Int) ≤ s
  · have HWD := Lib.hid (word_out w2 g m _ HX2.out.codeW s hout)
    clear hout
    go_wp2_with fail
    refine HWD.out.mono ?_
    rintro x w3 ⟨rfl, hg3⟩
    have HG3 := Lib.hid hg3
    clear hg3 HWD
    go_wp2_with fail
    go_ret
    exact ⟨rfl, v2, HW2.out.keep HG3.out (fun h => h) (fun _ _ h => h), ⟨Keeps.trans HK2.out.1 HG3.out fun _ _ h => h.elim, HK2.out.2⟩⟩
  · obtain ⟨k, rfl, hkm, hk0⟩ : ∃ k : Nat, s = k ∧ k < m ∧ ls.getD k 0 = 0 := by
      rcases HS.out with h9 | h9 | h9
      · exact absurd (Or.inl h9) hout
      · exact absurd (Or.inr h9) hout
      · exact h9
    have hwd := HX2.out.word k hkm
    rw [if_neg (by omega)] at hwd
    have HWD := Lib.hid (word_in w2 g m _ HX2.out.codeW k (0, 0) hwd (fun _ => rfl))
    clear hout hkm hk0 hwd
    go_wp2_with fail
    refine HWD.out.mono ?_
    rintro x w3 ⟨rfl, hg3⟩
    have HG3 := Lib.hid hg3
    clear hg3 HWD
    go_wp2_with fail
    go_ret
    exact ⟨rfl, v2, HW2.out.keep HG3.out (fun h => h) (fun _ _ h => h), ⟨Keeps.trans HK2.out.1 HG3.out fun _ _ h => h.elim, HK2.out.2⟩⟩
set_option maxRecDepth 8000 in
set_option maxHeartbeats 2000000 in
theorem cPut_is (w : World) (g m M B : Nat) (ls : List Nat) (h : CodeX w g m M B ls) (gb : Nat) (hi : Bool) (v : Value) (l : List Int) (hw : Wr w gb hi v l) (hl : l.length ≤ 1000000000000000 - 128) (s : Nat) (hs : s < m) (hs0 : 0 < ls.getD s 0)
    (hb : B ≤ gb) (hv : ∀ b, v.ownBlock = some b → B ≤ b) :
    Calls Try.prog 19 #[.pointer (some ⟨g, 0, none⟩), .pointer (some ⟨gb, 0, none⟩), .int .i64 s] w fun e w' => e = .returned (.int .i64 0) ∧ ∃ v', Wr w' gb hi v' (l ++ symBits ls s) ∧ WrKeep w w' gb v v' := by
  have HN := Lib.hid (cNone_is w g m _ h.codeW)
  have HP := Lib.hid (put_yes w gb hi v l 0 0 hw (by decide) (by decide) (by decide) (.inr (by decide)) (by omega))
  have HX := Lib.hid h
  have HB := Lib.hid (And.intro hb (And.intro hv (And.intro hl hs)))
  obtain ⟨n, hn⟩ : ∃ n, n = ls.getD s 0 := ⟨_, rfl⟩
  obtain ⟨x, hx⟩ : ∃ x, x = wordN ls s := ⟨_, rfl⟩
  have hn20 : n ≤ 20 := by rw [hn]; exact Nat.le_trans (h.all s) h.most
  have hxl := (wordN_lt h.kraft (by rw [h.len]; exact hs) hs0 (by rw [← hn]; exact hn20)).2.1
  rw [← hx, ← hn] at hxl
  have hx20 : x < 1048576 := by have : 2 ^ n ≤ 2 ^ 20 := Nat.pow_le_pow_right (by omega) hn20; omega
  have hwd := h.word s hs
  rw [if_pos hs0, ← hx, ← hn] at hwd
  have HWW := Lib.hid hwd
  have HSB : Hid (symBits ls s = bitsOf true (x : Nat) n) := by show _ = _; rw [hx, hn]; rfl
  rw [← hn] at hs0
  have HNX := Lib.hid (And.intro hn (And.intro hx (And.intro hn20 (And.intro hxl hx20))))
  clear h hw hl hs hb hv hn hx hwd
  go_enter Try.func19, Try.ntmps19
  go_wp2_with fail
  refine HN.out.mono ?_
  rintro y w1 ⟨rfl, rfl⟩
  go_wp2_with fail
  refine HP.out.mono ?_
  rintro y w2 ⟨rfl, v2, hw2, hk2⟩
  have HW2 : Hid (Wr w2 gb hi v2 l) := by
    have h9 : l ++ bitsOf hi 0 0 = l := by simp [bitsOf]
    rw [h9] at hw2
    exact hw2
  have HK2 := Lib.hid hk2
  have HX2 := Lib.hid (HX.out.keep hk2.1 (fun b hb9 h9 => by
    rcases h9 with h9 | h9
    · have := HB.out.1; omega
    · have := HB.out.2.1 b h9; omega))
  have HWD := Lib.hid (word_in w2 g m _ HX2.out.codeW s (x, n) HWW.out (fun h9 => by simp only at h9; omega))
  rw [if_pos hs0] at HWD
  clear hw2 hk2 HN HP
  go_wp2_with fail
  refine HWD.out.mono ?_
  rintro y w3 ⟨rfl, hg3⟩
  have HW3 := Lib.hid (HW2.out.keep hg3 (fun h => h) (fun _ _ h => h))
  have HK3 : Hid (WrKeep w w3 gb v v2) := ⟨Keeps.trans HK2.out.1 hg3 fun _ _ h => h.elim, HK2.out.2⟩
  have hni : (n : Int) ≤ 20 := by omega
  clear hg3 HWD HW2 HK2 hxl hx20 hn20 hs0
  go_wp2_with fail
  go_loopw [10] (fun vi wr => ∃ (i : Nat) (v' : Value), i ≤ n ∧ vi = .int .i64 ((i : Int) - 1) ∧ Hid (Wr wr gb hi v' (l ++ bitsOf true ((x / 2 ^ i : Nat) : Int) (n - i))) ∧ Hid (WrKeep w wr gb v v')) (fun vi _ => (intOf vi + 1).toNat)
  case atStart =>
    refine ⟨n, v2, Nat.le_refl _, rfl, ?_, HK3.out⟩
    rw [Nat.sub_self]
    have h9 : l ++ bitsOf true ((x / 2 ^ n : Nat) : Int) 0 = l := by simp [bitsOf]
    rw [h9]
    exact HW3.out
  case round =>
    clear HW3 HK3
    obtain ⟨i, v', hin, rfl, HW, HK⟩ := hrel
    by_cases hi0 : i = 0
    · subst hi0
      go_wp2_with fail
      go_ret
      refine ⟨rfl, v', ?_, HK.out⟩
      rw [HSB.out]
      have h9 := HW.out
      rw [Nat.pow_zero, Nat.div_one, Nat.sub_zero] at h9
      exact h9
    · obtain ⟨j, rfl⟩ : ∃ j, i = j + 1 := ⟨i - 1, by omega⟩
      rw [show (((j + 1 : Nat) : Int) - 1) = (j : Int) by omega]
      obtain ⟨y, hy⟩ : ∃ y, y = x / 2 ^ j := ⟨_, rfl⟩
      have hyx : y ≤ x := by rw [hy]; exact Nat.div_le_self _ _
      have ey : (x : Int) / 2 ^ j = (y : Int) := by rw [powI4, ← Int.natCast_ediv, hy]
      have hy20 : y < 1048576 := by have := HNX.out.2.2.2.2; omega
      have hand := and1_u32 y (by omega)
      obtain ⟨b, hb⟩ : ∃ b, b = y % 2 := ⟨_, rfl⟩
      have hb1 : b ≤ 1 := by omega
      rw [← hb] at hand
      have hbb : (b : Int) = 0 ∨ (b : Int) = 1 := by omega
      have hlen : (l ++ bitsOf true ((x / 2 ^ (j + 1) : Nat) : Int) (n - (j + 1))).length ≤ 1000000000000000 - 64 := by
        have h1 := HB.out.2.2.1
        have h2 := HNX.out.2.2.1
        rw [List.length_append]
        have h3 : (bitsOf true ((x / 2 ^ (j + 1) : Nat) : Int) (n - (j + 1))).length = n - (j + 1) := by simp [bitsOf]
        omega
      have HPU := Lib.hid (put_yes wr gb hi v' _ (b : Nat) 1 HW.out (by omega) (by omega) (by decide) (.inr (by rcases hbb with h | h <;> rw [h] <;> decide)) hlen)
      have HBIT : Hid (bitsOf true ((x / 2 ^ (j + 1) : Nat) : Int) (n - (j + 1)) ++ bitsOf hi (b : Nat) 1 = bitsOf true ((x / 2 ^ j : Nat) : Int) (n - j)) := by
        show _ = _
        rw [show n - j = (n - (j + 1)) + 1 by omega, bitsOf_snoc]
        congr 1
        · congr 1
          rw [Nat.pow_succ, ← Nat.div_div_eq_div_mul]
          omega
        · rw [← hy]
          have h9 : bitsOf hi (b : Nat) 1 = [(b : Int) % 2] := by cases hi <;> simp [bitsOf]
          rw [h9, hb]
          congr 1
          omega
      have hj64 : j < 64 := by have := HNX.out.2.2.1; omega
      have hji : (j : Int) < 20 := by have := HNX.out.2.2.1; omega
      have hyi : (y : Int) < 1048576 := by omega
      have hbi : (b : Int) ≤ 1 := by omega
      clear hy hyx hy20 hb hb1 hbb hlen hi0
      go_wp2_with fail
      refine HPU.out.mono ?_
      rintro z w4 ⟨rfl, v4, hw4, hk4⟩
      have HW4 : Hid (Wr w4 gb hi v4 (l ++ bitsOf true ((x / 2 ^ j : Nat) : Int) (n - j))) := by
        rw [List.append_assoc, HBIT.out] at hw4
        exact hw4
      have HK4 := Lib.hid (HK.out.trans hk4)
      clear hw4 hk4 HPU HW HK HBIT
      go_wp2_with fail
      go_roundw
      case rel => exact ⟨j, v4, by omega, by go_num, HW4.out, HK4.out⟩
      case measure => simp [intOf]
end Go.Proofs.Ytofalbbbnhnadaa
