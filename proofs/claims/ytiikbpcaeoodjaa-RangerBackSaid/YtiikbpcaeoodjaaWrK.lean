/- RangerWrites: one act, both encoders. -/
import Derived.Test.YtiikbpcaeoodjaaWrP
namespace Go.Proofs.Ytiikbpcaeoodjaa
open Go.RowKit
set_option linter.unusedVariables false
set_option linter.unusedSimpArgs false

theorem u8s_toI (l : List Nat) : u8s l = (toI l).map (Value.int .u8) := by simp [u8s, toI]
theorem Enc.walk_ok (base N len : Nat) (hN : base + N ≤ len) : ∀ (bs : List Nat) (e : Enc) (m : Nat), e.Ok → e.ch.length = len → (∀ x ∈ bs, x ≤ 1) → (m + 1) * 2 ^ bs.length ≤ 2 * N →
    (e.walk base m bs).Ok ∧ (e.walk base m bs).ch.length = len ∧ (e.walk base m bs).out.length + (e.walk base m bs).waiting ≤ e.out.length + e.waiting + bs.length
  | [], e, m, h, hl, _, _ => ⟨h, hl, Nat.le_refl _⟩
  | x :: r, e, m, h, hl, hx, hm => by
    have hx1 := hx x (List.mem_cons_self ..)
    rw [List.length_cons, Nat.pow_succ] at hm
    have hp := Nat.two_pow_pos r.length
    have h1 : (m + 1) * 2 ^ r.length ≤ N := by
      rw [← Nat.mul_assoc] at hm
      omega
    have h2 : m + 1 ≤ (m + 1) * 2 ^ r.length := Nat.le_mul_of_pos_right _ hp
    have h3 : (2 * m + x + 1) * 2 ^ r.length ≤ 2 * N := by
      have h4 : (2 * m + x + 1) * 2 ^ r.length ≤ (2 * (m + 1)) * 2 ^ r.length := Nat.mul_le_mul_right _ (by omega)
      rw [Nat.mul_assoc] at h4
      omega
    have hb : base + m < e.ch.length := by omega
    obtain ⟨a1, a2, a3⟩ := walk_ok base N len hN r (e.put (base + m) x) (2 * m + x) (put_ok e h _ _ hb) ((put_chlen e _ _).trans hl) (fun y hy => hx y (List.mem_cons_of_mem _ hy)) h3
    have a4 := put_len e h (base + m) x
    refine ⟨a1, a2, ?_⟩
    show ((e.put (base + m) x).walk base (2 * m + x) r).out.length + _ ≤ _
    rw [List.length_cons]
    exact Nat.le_trans a3 (by omega)
theorem EncTo2.same {w w' : World} {g gc cc : Nat} {vo : Value} {e : Enc} (h : EncAt w g gc cc vo e) (q : Grow w w') : EncTo2 w g gc cc vo e w' :=
  ⟨vo, h.keep q (fun h => h) (fun h => h) (fun _ _ h => h), gk q, Moved.refl _ _⟩
theorem RefTo2.same {w w' : World} {g : Nat} {vc vo : Value} {e : Enc} (h : RefAt w g vc vo e) (q : Grow w w') : RefTo2 w g vc vo e w' :=
  ⟨vo, h.keep q (fun h => h) (fun _ _ h => h) (fun _ _ h => h), gk q, Moved.refl _ _⟩
/-- What an act comes to: the answer, the numbers. -/
def ActIs (fc fr : FuncId) (args argsR : List Value) (n : Nat) (e : Enc) : Prop :=
  ∃ (code : Int) (eN : Enc), eN.Ok ∧ eN.ch.length = n ∧ eN.out.length + eN.waiting ≤ e.out.length + e.waiting + 31 ∧
    (∀ w cg cgc cvo, EncAt w cg cgc n cvo e → Calls Try.prog fc (Array.mk (Value.pointer (some ⟨cg, 0, none⟩) :: args)) w fun e' w' => e' = .returned (.int .i64 code) ∧ EncTo2 w cg cgc n cvo eN w') ∧
    (∀ w rg rvc rvo, RefAt w rg rvc rvo e → Calls Try.prog fr (Array.mk (Value.pointer (some ⟨rg, 0, none⟩) :: argsR)) w fun e' w' => e' = .returned (.int .i64 code) ∧ RefTo2 w rg rvc rvo eN w')

theorem act_bit (bs v : Int) (n : Nat) (e : Enc) (hok : e.Ok) (hl : e.ch.length = n) (hn : n ≤ 65536) (hb : e.out.length + e.waiting ≤ 99999999999900) :
    ActIs 9 17 [.int .i64 bs, .int .i64 v] [.int .i64 bs, .int .i64 v] n e := by
  rcases bit_cases bs v n with h | ⟨a, b, rfl, rfl, h1, h2⟩
  · refine ⟨2, e, hok, hl, by omega, fun w cg cgc cvo hE => ?_, fun w rg rvc rvo hE => ?_⟩
    · refine (bit_bad w cg cgc n cvo e hE bs v (by rw [hl]; exact h)).mono ?_
      rintro x w' ⟨rfl, rfl⟩
      exact ⟨rfl, EncTo2.same hE (Keeps.refl _ _)⟩
    · refine (refBit_bad w rg rvc rvo e hE bs v (by rw [hl]; exact h)).mono ?_
      rintro x w' ⟨rfl, rfl⟩
      exact ⟨rfl, RefTo2.same hE (Keeps.refl _ _)⟩
  · refine ⟨0, e.put a b, Enc.put_ok e hok a b (by omega), (Enc.put_chlen e a b).trans hl, ?_, fun w cg cgc cvo hE => ?_, fun w rg rvc rvo hE => ?_⟩
    · have := Enc.put_len e hok a b
      omega
    · exact bit_is w cg cgc n cvo e hE hok a b (by omega) (by omega) h2 (by omega)
    · exact refBit_is w rg rvc rvo e hE hok a b (by omega) (by omega) h2 (by omega)
theorem act_direct (v m : Int) (n : Nat) (e : Enc) (hok : e.Ok) (hl : e.ch.length = n) (hn : n ≤ 65536) (hb : e.out.length + e.waiting ≤ 99999999999900) :
    ActIs 18 19 [.int .i64 v, .int .i64 m] [.int .i64 v, .int .i64 m] n e := by
  rcases direct_cases v m with h | ⟨a, b, rfl, rfl, h1, h2⟩
  · refine ⟨2, e, hok, hl, by omega, fun w cg cgc cvo hE => ?_, fun w rg rvc rvo hE => ?_⟩
    · refine (direct_bad w cg cgc n cvo e hE v m h).mono ?_
      rintro x w' ⟨rfl, rfl⟩
      exact ⟨rfl, EncTo2.same hE (Keeps.refl _ _)⟩
    · refine (refDirect_bad w rg v m h).mono ?_
      rintro x w' ⟨rfl, rfl⟩
      exact ⟨rfl, RefTo2.same hE (Keeps.refl _ _)⟩
  · obtain ⟨o1, o2, o3⟩ := Enc.direct_ok a b e hok
    refine ⟨0, e.direct a b, o1, (congrArg List.length o2).trans hl, by omega, fun w cg cgc cvo hE => ?_, fun w rg rvc rvo hE => ?_⟩
    · exact direct_is w cg cgc n cvo e hE hok a b h1 h2 hb
    · exact refDirect_is w rg rvc rvo e hE hok a b h1 h2 hb
theorem act_tree (bs v m : Int) (n : Nat) (e : Enc) (hok : e.Ok) (hl : e.ch.length = n) (hn : n ≤ 65536) (hb : e.out.length + e.waiting ≤ 99999999999900) (hbk : inKind .i64 bs) (hmk : inKind .i64 m) :
    ActIs 20 21 [.int .i64 bs, .int .i64 v, .int .i64 m] [.int .i64 bs, .int .i64 v, .int .i64 m, .bool true] n e := by
  rcases tree_cases bs v m n with h | ⟨a, b, c, rfl, rfl, rfl, h1, h2, h3⟩
  · refine ⟨2, e, hok, hl, by omega, fun w cg cgc cvo hE => ?_, fun w rg rvc rvo hE => ?_⟩
    · refine (treeE_bad w cg cgc n cvo e hE (by omega) bs v m hbk hmk (by rw [hl]; exact h)).mono ?_
      rintro x w' ⟨rfl, hg⟩
      exact ⟨rfl, EncTo2.same hE hg⟩
    · refine (refTree_bad w rg rvc rvo e hE (by omega) bs v m true hbk hmk (by rw [hl]; exact h)).mono ?_
      rintro x w' ⟨rfl, rfl⟩
      exact ⟨rfl, RefTo2.same hE (Keeps.refl _ _)⟩
  · obtain ⟨o1, o2, o3⟩ := Enc.walk_ok a (2 ^ c) n h2 (bitsT true b c) e 1 hok hl (bitsT_le _ _ _) (by rw [bitsT_len]; omega)
    rw [bitsT_len] at o3
    refine ⟨0, e.walk a 1 (bitsT true b c), o1, o2, by omega, fun w cg cgc cvo hE => ?_, fun w rg rvc rvo hE => ?_⟩
    · exact treeE_is w cg cgc n cvo e hE hok (by omega) a b c h1 (by rw [hl]; exact h2) h3 hb
    · exact refTree_high w rg rvc rvo e hE hok (by omega) a b c h1 (by rw [hl]; exact h2) h3 hb
theorem act_rev (bs v m : Int) (n : Nat) (e : Enc) (hok : e.Ok) (hl : e.ch.length = n) (hn : n ≤ 65536) (hb : e.out.length + e.waiting ≤ 99999999999900) (hbk : inKind .i64 bs) (hmk : inKind .i64 m) :
    ActIs 22 21 [.int .i64 bs, .int .i64 v, .int .i64 m] [.int .i64 bs, .int .i64 v, .int .i64 m, .bool false] n e := by
  rcases tree_cases bs v m n with h | ⟨a, b, c, rfl, rfl, rfl, h1, h2, h3⟩
  · refine ⟨2, e, hok, hl, by omega, fun w cg cgc cvo hE => ?_, fun w rg rvc rvo hE => ?_⟩
    · refine (rev_bad w cg cgc n cvo e hE (by omega) bs v m hbk hmk (by rw [hl]; exact h)).mono ?_
      rintro x w' ⟨rfl, hg⟩
      exact ⟨rfl, EncTo2.same hE hg⟩
    · refine (refTree_bad w rg rvc rvo e hE (by omega) bs v m false hbk hmk (by rw [hl]; exact h)).mono ?_
      rintro x w' ⟨rfl, rfl⟩
      exact ⟨rfl, RefTo2.same hE (Keeps.refl _ _)⟩
  · obtain ⟨o1, o2, o3⟩ := Enc.walk_ok a (2 ^ c) n h2 (bitsT false b c) e 1 hok hl (bitsT_le _ _ _) (by rw [bitsT_len]; omega)
    rw [bitsT_len] at o3
    refine ⟨0, e.walk a 1 (bitsT false b c), o1, o2, by omega, fun w cg cgc cvo hE => ?_, fun w rg rvc rvo hE => ?_⟩
    · exact rev_is w cg cgc n cvo e hE hok (by omega) a b c h1 (by rw [hl]; exact h2) h3 hb
    · exact refTree_low w rg rvc rvo e hE hok (by omega) a b c h1 (by rw [hl]; exact h2) h3 hb
end Go.Proofs.Ytiikbpcaeoodjaa
