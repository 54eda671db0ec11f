/- RangerBack: the acts. -/
import Derived.Test.YtiikbpcaeoodjaaBkD
import Derived.Test.YtiikbpcaeoodjaaRrP
import Derived.Test.YtiikbpcaeoodjaaWrK
namespace Go.Proofs.Ytiikbpcaeoodjaa
open Go.RowKit
set_option linter.unusedVariables false
set_option linter.unusedSimpArgs false

theorem valH_bitsT : ∀ (n v : Nat), valH (bitsT true v n) = v % 2 ^ n
  | 0, v => by simp [bitsT, valH, Nat.mod_one]
  | n + 1, v => by
    have h1 : bitsT true v (n + 1) = bitsT true (v / 2) n ++ [v % 2] := by
      unfold bitsT
      rw [List.range_succ, List.map_append]
      congr 1
      · refine List.map_congr_left fun i hi => ?_
        have hi := List.mem_range.1 hi
        simp only [if_true]
        rw [show n + 1 - 1 - i = (n - 1 - i) + 1 by omega, Nat.pow_succ, Nat.mul_comm, ← Nat.div_div_eq_div_mul]
      · simp
    rw [h1, valH_snoc, valH_bitsT n (v / 2), Nat.pow_succ, Nat.mul_comm (2 ^ n) 2, Nat.mod_mul]
    omega
theorem valL_bitsT : ∀ (n v : Nat), valL (bitsT false v n) = v % 2 ^ n
  | 0, v => by simp [bitsT, valL, Nat.mod_one]
  | n + 1, v => by
    have h1 : bitsT false v (n + 1) = bitsT false v n ++ [v / 2 ^ n % 2] := by
      unfold bitsT
      rw [List.range_succ, List.map_append]
      rfl
    rw [h1, valL_snoc, valL_bitsT n v, bitsT_len, Nat.pow_succ, Nat.mod_mul, Nat.mul_comm (2 ^ n)]
theorem mod_of_div {v n : Nat} (h : v / 2 ^ n = 0) : v % 2 ^ n = v := Nat.mod_eq_of_lt (pow2_lt v n h)

/-- An act is taken. -/
def Acc (n : Nat) (e : Enc) (kd bs v m : Int) (e' : Enc) : Prop :=
  (kd = 0 ∧ ∃ i b : Nat, bs = i ∧ v = b ∧ i < n ∧ b ≤ 1 ∧ e' = e.put i b) ∨
  (kd = 1 ∧ ∃ x k : Nat, v = x ∧ m = k ∧ k ≤ 31 ∧ x / 2 ^ k = 0 ∧ e' = e.direct x k) ∨
  (kd = 2 ∧ ∃ i x k : Nat, bs = i ∧ v = x ∧ m = k ∧ k ≤ 16 ∧ i + 2 ^ k ≤ n ∧ x / 2 ^ k = 0 ∧ e' = e.walk i 1 (bitsT true x k)) ∨
  (kd = 3 ∧ ∃ i x k : Nat, bs = i ∧ v = x ∧ m = k ∧ k ≤ 16 ∧ i + 2 ^ k ≤ n ∧ x / 2 ^ k = 0 ∧ e' = e.walk i 1 (bitsT false x k))
theorem Acc.okc {n : Nat} {e e' : Enc} {kd bs v m : Int} (h : Acc n e kd bs v m e') (ho : e.Okc) (hl : e.ch.length = n) : e'.Okc ∧ e'.ch.length = n ∧ Enc.Nest e e' ∧ e'.out.length + e'.waiting ≤ e.out.length + e.waiting + 31 := by
  rcases h with ⟨_, i, b, _, _, h1, h2, rfl⟩ | ⟨_, x, k, _, _, h1, h2, rfl⟩ | ⟨_, i, x, k, _, _, _, h1, h2, h3, rfl⟩ | ⟨_, i, x, k, _, _, _, h1, h2, h3, rfl⟩
  · have := Enc.put_len e ho.ok i b
    exact ⟨Enc.put_okc ho i b (by omega), (Enc.put_chlen e i b).trans hl, Enc.put_nest ho i b (by omega) h2, by omega⟩
  · obtain ⟨a, b⟩ := Enc.direct_nest x k e ho
    obtain ⟨o1, o2, o3⟩ := Enc.direct_ok x k e ho.ok
    exact ⟨a, (congrArg List.length o2).trans hl, b, by omega⟩
  · obtain ⟨a, b, c⟩ := Enc.walk_nest i (2 ^ k) n h2 (bitsT true x k) e 1 ho hl (bitsT_le _ _ _) (by rw [bitsT_len]; omega)
    obtain ⟨o1, o2, o3⟩ := Enc.walk_ok i (2 ^ k) n h2 (bitsT true x k) e 1 ho.ok hl (bitsT_le _ _ _) (by rw [bitsT_len]; omega)
    rw [bitsT_len] at o3
    exact ⟨a, b, c, by omega⟩
  · obtain ⟨a, b, c⟩ := Enc.walk_nest i (2 ^ k) n h2 (bitsT false x k) e 1 ho hl (bitsT_le _ _ _) (by rw [bitsT_len]; omega)
    obtain ⟨o1, o2, o3⟩ := Enc.walk_ok i (2 ^ k) n h2 (bitsT false x k) e 1 ho.ok hl (bitsT_le _ _ _) (by rw [bitsT_len]; omega)
    rw [bitsT_len] at o3
    exact ⟨a, b, c, by omega⟩
/-- An act as it lies in the row: its list is a slice. -/
abbrev ActV := Int × Int × Int × Int × (Option Addr × Nat × Nat)
/-- The acts of a row, one behind the other. -/
def Run (n : Nat) : Enc → List ActV → Enc → Prop
  | e, [], E => e = E
  | e, a :: L, E => ∃ e1, Acc n e a.1 a.2.1 a.2.2.1 a.2.2.2.1 e1 ∧ Run n e1 L E
theorem Run.snoc {n : Nat} {a : ActV} {E' : Enc} : ∀ {L : List ActV} {e E : Enc}, Run n e L E → Acc n E a.1 a.2.1 a.2.2.1 a.2.2.2.1 E' → Run n e (L ++ [a]) E'
  | [], e, E, h, ha => by
    obtain rfl : e = E := h
    exact ⟨E', ha, rfl⟩
  | b :: L, e, E, h, ha => by
    obtain ⟨e1, h1, h2⟩ := h
    exact ⟨e1, h1, Run.snoc h2 ha⟩
theorem Run.nest {n : Nat} : ∀ {L : List ActV} {e E : Enc}, Run n e L E → e.Okc → e.ch.length = n → Enc.Nest e E ∧ E.Okc ∧ E.ch.length = n
  | [], e, E, h, ho, hl => by
    obtain rfl : e = E := h
    exact ⟨Enc.Nest.refl _, ho, hl⟩
  | b :: L, e, E, h, ho, hl => by
    obtain ⟨e1, h1, h2⟩ := h
    obtain ⟨a1, a2, a3, _⟩ := h1.okc ho hl
    obtain ⟨b1, b2, b3⟩ := Run.nest h2 a1 a2
    exact ⟨a3.trans b1, b2, b3⟩
theorem new_okc (n : Nat) : (Enc.new n).Okc := ⟨Enc.new_ok n, .inl (by show 0 ≤ 254; omega)⟩
/-- The decoder of the whole stands at the first encoder. -/
theorem rel_new {n : Nat} {E : Enc} (hE : E.Okc) (hn : Enc.Nest (Enc.new n) E) : E.bytes.getD 0 0 = 0 ∧ 5 ≤ E.bytes.length ∧ Rel E.bytes ⟨List.replicate n 1024, 4294967295, code4 (toI E.bytes), toN ((toI E.bytes).drop 5), false⟩ (Enc.new n) := by
  have F := fin_bytes E hE
  have hP : (Enc.new n).P = 5 := rfl
  have hV : (Enc.new n).V = 0 := by simp [Enc.V, Enc.T, Enc.new, dig]
  have hw := F.within hn
  obtain ⟨k, hk, _, _⟩ := hn
  rw [hP, hV] at hw
  have hW : (Enc.new n).width < 4294967296 := (Enc.new_ok n).width
  have hl := F.len
  have hlt := F.lt
  generalize hB : E.bytes = B at *
  have h5 : 5 ≤ B.length := by omega
  have hd0 : ∃ ww : Nat, ww < 4294967296 ∧ dig (B.take 5) < ww := ⟨_, hW, by simpa using hw.2⟩
  clear hw hW hk hP F hlt hl
  obtain ⟨ww, hw1, hw2⟩ := hd0
  have hsplit : ∃ b0 b1 b2 b3 b4 r, B = b0 :: b1 :: b2 :: b3 :: b4 :: r := by
    match B, h5 with
    | b0 :: b1 :: b2 :: b3 :: b4 :: r, _ => exact ⟨b0, b1, b2, b3, b4, r, rfl⟩
  obtain ⟨b0, b1, b2, b3, b4, r, rfl⟩ := hsplit
  have hd : dig (List.take 5 (b0 :: b1 :: b2 :: b3 :: b4 :: r)) = (((b0 * 256 + b1) * 256 + b2) * 256 + b3) * 256 + b4 := by simp [dig]
  rw [hd] at hw2
  have hb0 : b0 = 0 := by omega
  subst hb0
  refine ⟨rfl, by simp, rfl, rfl, rfl, ?_, ?_⟩
  · show toN ((toI (0 :: b1 :: b2 :: b3 :: b4 :: r)).drop 5) = (0 :: b1 :: b2 :: b3 :: b4 :: r).drop 5
    simp [toI, toN]
    exact (List.map_congr_left fun a _ => by simp).trans (List.map_id r)
  · show code4 (toI (0 :: b1 :: b2 :: b3 :: b4 :: r)) + (Enc.new n).V = dig (List.take 5 (0 :: b1 :: b2 :: b3 :: b4 :: r))
    rw [hV, hd]
    simp [code4, toI]
/-- What the encoder does at an act. -/
def EActIs (fc : FuncId) (args : List Value) (n : Nat) (e : Enc) (kd bs v m : Int) : Prop :=
  (∃ e', Acc n e kd bs v m e' ∧ ∀ w cg cgc cvo, EncAt w cg cgc n cvo e → Calls Try.prog fc (Array.mk (Value.pointer (some ⟨cg, 0, none⟩) :: args)) w fun x w' => x = .returned (.int .i64 0) ∧ EncTo2 w cg cgc n cvo e' w') ∨
  (∀ w cg cgc cvo, EncAt w cg cgc n cvo e → Calls Try.prog fc (Array.mk (Value.pointer (some ⟨cg, 0, none⟩) :: args)) w fun x w' => x = .returned (.int .i64 2) ∧ EncTo2 w cg cgc n cvo e w')
theorem eact_bit (bs v m : Int) (n : Nat) (e : Enc) (hok : e.Ok) (hl : e.ch.length = n) (hn : n ≤ 65536) (hb : e.out.length + e.waiting ≤ 99999999999900) :
    EActIs 9 [.int .i64 bs, .int .i64 v] n e 0 bs v m := by
  rcases bit_cases bs v n with h | ⟨a, b, rfl, rfl, h1, h2⟩
  · refine .inr fun w cg cgc cvo hE => ?_
    refine (bit_bad w cg cgc n cvo e hE bs v (by rw [hl]; exact h)).mono ?_
    rintro x w' ⟨rfl, rfl⟩
    exact ⟨rfl, EncTo2.same hE (Keeps.refl _ _)⟩
  · exact .inl ⟨e.put a b, .inl ⟨rfl, a, b, rfl, rfl, h1, h2, rfl⟩, fun w cg cgc cvo hE => bit_is w cg cgc n cvo e hE hok a b (by omega) (by omega) h2 (by omega)⟩
theorem eact_direct (bs v m : Int) (n : Nat) (e : Enc) (hok : e.Ok) (hl : e.ch.length = n) (hn : n ≤ 65536) (hb : e.out.length + e.waiting ≤ 99999999999900) :
    EActIs 18 [.int .i64 v, .int .i64 m] n e 1 bs v m := by
  rcases direct_cases v m with h | ⟨a, b, rfl, rfl, h1, h2⟩
  · refine .inr fun w cg cgc cvo hE => ?_
    refine (direct_bad w cg cgc n cvo e hE v m h).mono ?_
    rintro x w' ⟨rfl, rfl⟩
    exact ⟨rfl, EncTo2.same hE (Keeps.refl _ _)⟩
  · exact .inl ⟨e.direct a b, .inr (.inl ⟨rfl, a, b, rfl, rfl, h1, h2, rfl⟩), fun w cg cgc cvo hE => direct_is w cg cgc n cvo e hE hok a b h1 h2 hb⟩
theorem eact_tree (bs v m : Int) (n : Nat) (e : Enc) (hok : e.Ok) (hl : e.ch.length = n) (hn : n ≤ 65536) (hb : e.out.length + e.waiting ≤ 99999999999900) (hbk : inKind .i64 bs) (hmk : inKind .i64 m) :
    EActIs 20 [.int .i64 bs, .int .i64 v, .int .i64 m] n e 2 bs v m := by
  rcases tree_cases bs v m n with h | ⟨a, b, c, rfl, rfl, rfl, h1, h2, h3⟩
  · refine .inr fun w cg cgc cvo hE => ?_
    refine (treeE_bad w cg cgc n cvo e hE (by omega) bs v m hbk hmk (by rw [hl]; exact h)).mono ?_
    rintro x w' ⟨rfl, hg⟩
    exact ⟨rfl, EncTo2.same hE hg⟩
  · exact .inl ⟨_, .inr (.inr (.inl ⟨rfl, a, b, c, rfl, rfl, rfl, h1, h2, h3, rfl⟩)), fun w cg cgc cvo hE => treeE_is w cg cgc n cvo e hE hok (by omega) a b c h1 (by rw [hl]; exact h2) h3 hb⟩
theorem eact_rev (bs v m : Int) (n : Nat) (e : Enc) (hok : e.Ok) (hl : e.ch.length = n) (hn : n ≤ 65536) (hb : e.out.length + e.waiting ≤ 99999999999900) (hbk : inKind .i64 bs) (hmk : inKind .i64 m) :
    EActIs 22 [.int .i64 bs, .int .i64 v, .int .i64 m] n e 3 bs v m := by
  rcases tree_cases bs v m n with h | ⟨a, b, c, rfl, rfl, rfl, h1, h2, h3⟩
  · refine .inr fun w cg cgc cvo hE => ?_
    refine (rev_bad w cg cgc n cvo e hE (by omega) bs v m hbk hmk (by rw [hl]; exact h)).mono ?_
    rintro x w' ⟨rfl, hg⟩
    exact ⟨rfl, EncTo2.same hE hg⟩
  · exact .inl ⟨_, .inr (.inr (.inr ⟨rfl, a, b, c, rfl, rfl, rfl, h1, h2, h3, rfl⟩)), fun w cg cgc cvo hE => rev_is w cg cgc n cvo e hE hok (by omega) a b c h1 (by rw [hl]; exact h2) h3 hb⟩
/-- What the decoder does at an act that was taken. -/
def DActIs (fc : FuncId) (args : List Value) (B : List Nat) (n : Nat) (d : Dec) (e' : Enc) (v : Int) : Prop :=
  ∃ d', Rel B d' e' ∧ d'.Ok ∧ d'.ch.length = n ∧ ∀ w cg cgc RB A c, DecAt w cg cgc n RB A c d → (∀ k, RB k → k < w.heap.size) → Calls Try.prog fc (Array.mk (Value.pointer (some ⟨cg, 0, none⟩) :: args)) w fun x w' => x = .returned (.tuple #[.int .i64 v, .int .i64 0]) ∧ DecTo2 w cg cgc n RB d' w'
section
variable {B : List Nat} {E e e' : Enc} {d : Dec} {n : Nat} {kd bs v m : Int}
theorem dact_bit (F : Fin B E) (ha : Acc n e 0 bs v m e') (hr : Rel B d e) (ho : e.Okc) (hl : e.ch.length = n) (hd : d.Ok) (hn : n ≤ 65536) (hN : Enc.Nest e' E) : DActIs 30 [.int .i64 bs] B n d e' v := by
  rcases ha with ⟨_, i, b, rfl, rfl, h1, h2, rfl⟩ | ⟨h, _⟩ | ⟨h, _⟩ | ⟨h, _⟩
  · obtain ⟨k1, k2⟩ := rel_bit F hr ho i b (by omega) h2 hN
    have hdl : d.ch.length = n := by rw [hr.ch, hl]
    obtain ⟨g1, g2, g3⟩ := Dec.get_ok d hd i (by omega)
    refine ⟨_, k2, g1, g3.trans hdl, fun w cg cgc RB A c hE hrb => ?_⟩
    have := dBit_is w cg cgc n RB A c d hE hd i (by omega) (by omega)
    rw [k2.over, k1] at this
    exact this
  · cases h
  · cases h
  · cases h
theorem dact_direct (F : Fin B E) (ha : Acc n e 1 bs v m e') (hr : Rel B d e) (ho : e.Okc) (hl : e.ch.length = n) (hd : d.Ok) (hn : n ≤ 65536) (hN : Enc.Nest e' E) : DActIs 32 [.int .i64 m] B n d e' v := by
  rcases ha with ⟨h, _⟩ | ⟨_, x, k, rfl, rfl, h1, h2, rfl⟩ | ⟨h, _⟩ | ⟨h, _⟩
  · cases h
  · obtain ⟨k1, k2⟩ := rel_direct F x k e d 0 hr ho hN
    have hdl : d.ch.length = n := by rw [hr.ch, hl]
    obtain ⟨g1, g2, g3⟩ := Dec.dirD_ok k d hd hr.over
    refine ⟨_, k2, g1, (congrArg List.length g3).trans hdl, fun w cg cgc RB A c hE hrb => ?_⟩
    have := dDirect_is w cg cgc n RB A c d hE hd hr.over k h1
    rw [k2.over, k1, Nat.zero_mul, Nat.zero_add, mod_of_div h2] at this
    exact this
  · cases h
  · cases h
theorem dact_tree (high : Bool) (fc : FuncId) (hfc : ∀ (w : World) (g : Nat) (base n : Int) (P : Nat → List Nat → World → Prop), (Calls Try.prog 60 #[.pointer (some ⟨g, 0, none⟩), .int .i64 base, .int .i64 n] w fun e' w' => ∃ (Al : Option Addr) (cl er : Nat) (l : List Nat), e' = .returned (.tuple #[.slice Al l.length cl, .int .i64 (er : Nat)]) ∧ w'.ownsRow w.heap.size 3 1 (.slice Al l.length cl) l.length ((toI l).map (Value.int .i64)) ∧ l.length ≤ 16 ∧ (∀ x ∈ l, x ≤ 1) ∧ P er l w') →
      Calls Try.prog fc #[.pointer (some ⟨g, 0, none⟩), .int .i64 base, .int .i64 n] w fun e' w' => ∃ (er : Nat) (l : List Nat), e' = .returned (.tuple #[.int .i64 (valT high l : Nat), .int .i64 (er : Nat)]) ∧ P er l w')
    (F : Fin B E) (i x k : Nat) (h1 : k ≤ 16) (h2 : i + 2 ^ k ≤ n) (h3 : x / 2 ^ k = 0) (hr : Rel B d e) (ho : e.Okc) (hl : e.ch.length = n) (hd : d.Ok) (hn : n ≤ 65536) (hN : Enc.Nest (e.walk i 1 (bitsT high x k)) E) :
    DActIs fc [.int .i64 i, .int .i64 k] B n d (e.walk i 1 (bitsT high x k)) x := by
  obtain ⟨k1, k2⟩ := rel_walk F i (2 ^ k) n h2 (bitsT high x k) e d 1 hr ho hl (bitsT_le _ _ _) (by rw [bitsT_len]; omega) hN
  rw [bitsT_len] at k1 k2
  have hdl : d.ch.length = n := by rw [hr.ch, hl]
  obtain ⟨g1, g2, g3⟩ := Dec.walkD_ok i (2 ^ k) n (by omega) k d 1 hd hdl (by omega)
  have hval : valT high (bitsT high x k) = x := by
    cases high
    · rw [valT_f, valL_bitsT, mod_of_div h3]
    · rw [valT_t, valH_bitsT, mod_of_div h3]
  refine ⟨_, k2, g1, g3, fun w cg cgc RB A c hE hrb => ?_⟩
  refine (hfc w cg i k _ (dWalk_of w cg cgc n RB A c d hE hd hr.over (by omega) i k h1 (by omega) hrb)).mono ?_
  rintro y w' ⟨er, l, rfl, q1, q2⟩
  refine ⟨?_, q2⟩
  rcases q1 with ⟨q3, _⟩ | ⟨q3, rfl, rfl⟩
  · rw [k2.over] at q3; cases q3
  · rw [k1, hval]; rfl
theorem dact_high (F : Fin B E) (ha : Acc n e 2 bs v m e') (hr : Rel B d e) (ho : e.Okc) (hl : e.ch.length = n) (hd : d.Ok) (hn : n ≤ 65536) (hN : Enc.Nest e' E) : DActIs 34 [.int .i64 bs, .int .i64 m] B n d e' v := by
  rcases ha with ⟨h, _⟩ | ⟨h, _⟩ | ⟨_, i, x, k, rfl, rfl, rfl, h1, h2, h3, rfl⟩ | ⟨h, _⟩
  · cases h
  · cases h
  · exact dact_tree true _ (fun w g base n P h => dTree_of w g base n P h) F i x k h1 h2 h3 hr ho hl hd hn hN
  · cases h
theorem dact_low (F : Fin B E) (ha : Acc n e 3 bs v m e') (hr : Rel B d e) (ho : e.Okc) (hl : e.ch.length = n) (hd : d.Ok) (hn : n ≤ 65536) (hN : Enc.Nest e' E) : DActIs 36 [.int .i64 bs, .int .i64 m] B n d e' v := by
  rcases ha with ⟨h, _⟩ | ⟨h, _⟩ | ⟨h, _⟩ | ⟨_, i, x, k, rfl, rfl, rfl, h1, h2, h3, rfl⟩
  · cases h
  · cases h
  · cases h
  · exact dact_tree false _ (fun w g base n P h => dRev_of w g base n P h) F i x k h1 h2 h3 hr ho hl hd hn hN
theorem Acc.kinds (h : Acc n e kd bs v m e') : kd = 0 ∨ kd = 1 ∨ kd = 2 ∨ kd = 3 := by
  rcases h with ⟨h, _⟩ | ⟨h, _⟩ | ⟨h, _⟩ | ⟨h, _⟩
  · exact .inl h
  · exact .inr (.inl h)
  · exact .inr (.inr (.inl h))
  · exact .inr (.inr (.inr h))
/-- At the end all is read. -/
theorem rel_end (F : Fin B E) (hr : Rel B d E) : d.done = true := by
  have h1 := hr.rest
  have h2 := hr.code
  rw [← F.len] at h1 h2
  rw [List.drop_length] at h1
  rw [List.take_length, F.dg] at h2
  have hc : d.code = 0 := by omega
  unfold Dec.done
  rw [h1, hc, hr.over]
  rfl
end
end Go.Proofs.Ytiikbpcaeoodjaa
