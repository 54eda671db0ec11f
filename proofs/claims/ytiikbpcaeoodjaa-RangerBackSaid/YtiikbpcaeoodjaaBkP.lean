/- RangerBack: plain: what is written is read again. -/
import Derived.Test.YtiikbpcaeoodjaaDcT
import Derived.Test.YtiikbpcaeoodjaaEnT
namespace Go.Proofs.Ytiikbpcaeoodjaa
set_option linter.unusedVariables false
set_option linter.unusedSimpArgs false

/-- The number that bytes are. -/
def dig (l : List Nat) : Nat := l.foldl (fun a x => a * 256 + x) 0
theorem dig_acc : ∀ (r : List Nat) (a : Nat), r.foldl (fun a x => a * 256 + x) a = a * 256 ^ r.length + dig r
  | [], a => by simp [dig]
  | x :: r, a => by
    have h1 := dig_acc r (a * 256 + x)
    have h2 := dig_acc r (0 * 256 + x)
    show r.foldl _ (a * 256 + x) = _
    rw [h1, show dig (x :: r) = r.foldl (fun a x => a * 256 + x) (0 * 256 + x) from rfl, h2, List.length_cons, Nat.pow_succ, Nat.add_mul, Nat.zero_mul, Nat.zero_add, Nat.mul_assoc, Nat.mul_comm 256 (256 ^ r.length), Nat.add_assoc]
theorem dig_app (l r : List Nat) : dig (l ++ r) = dig l * 256 ^ r.length + dig r := by
  unfold dig
  rw [List.foldl_append]
  exact dig_acc r _
theorem dig_cons (x : Nat) (r : List Nat) : dig (x :: r) = x * 256 ^ r.length + dig r := by
  have h := dig_app [x] r
  simpa [dig] using h
theorem dig_snoc (l : List Nat) (x : Nat) : dig (l ++ [x]) = dig l * 256 + x := by
  rw [dig_app]; simp [dig]
theorem dig_rep1 : ∀ k, dig (List.replicate k 255) + 1 = 256 ^ k
  | 0 => rfl
  | k + 1 => by
    rw [List.replicate_succ, dig_cons, List.length_replicate, Nat.pow_succ]
    have := dig_rep1 k
    omega
theorem dig_rep0 : ∀ k, dig (List.replicate k 0) = 0
  | 0 => rfl
  | k + 1 => by
    rw [List.replicate_succ, dig_cons, dig_rep0 k]
    simp
theorem dig_lt : ∀ (l : List Nat), (∀ x ∈ l, x < 256) → dig l < 256 ^ l.length
  | [], _ => by decide
  | x :: r, h => by
    have h1 := dig_lt r (fun y hy => h y (List.mem_cons_of_mem _ hy))
    have h2 := h x (List.mem_cons_self ..)
    rw [dig_cons, List.length_cons, Nat.pow_succ]
    have h3 : x * 256 ^ r.length ≤ 255 * 256 ^ r.length := Nat.mul_le_mul_right _ (by omega)
    omega

namespace Enc
/-- What is out, and what waits: one more than the number. -/
def T (e : Enc) : Nat := (dig e.out * 256 + e.kept + 1) * 256 ^ (e.waiting - 1)
/-- The number written. -/
def V (e : Enc) : Nat := (e.T - 1) * 4294967296 + e.low
/-- Its digits. -/
def P (e : Enc) : Nat := e.out.length + e.waiting + 4
/-- No carry goes beyond what is kept. -/
def carry (e : Enc) : Prop := e.kept ≤ 254 ∨ e.low + e.width ≤ 4294967296
theorem T_pos (e : Enc) : 1 ≤ e.T := Nat.mul_pos (by omega) (Nat.pos_of_ne_zero (by simp))
theorem P_shift (e : Enc) (h : 1 ≤ e.waiting) : e.shift.P = e.P + 1 := by
  have := shift_len e h
  unfold P
  omega
theorem V_shift (e : Enc) (hw : 1 ≤ e.waiting) (hk : e.kept < 256) (hl : e.low < 8589934592) (hc : e.kept ≤ 254 ∨ e.low < 4294967296) : e.shift.V = 256 * e.V := by
  have hT := e.T_pos
  obtain ⟨ch, low, width, kept, waiting, out⟩ := e
  simp only at hw hk hl hc
  obtain ⟨k, rfl⟩ : ∃ k, waiting = k + 1 := ⟨waiting - 1, by omega⟩
  unfold V
  have hTe : (⟨ch, low, width, kept, k + 1, out⟩ : Enc).T = dig out * 256 ^ (k + 1) + kept * 256 ^ k + 256 ^ k := by
    unfold T
    simp only [Nat.add_sub_cancel]
    rw [Nat.add_mul, Nat.add_mul, Nat.one_mul, Nat.mul_assoc, Nat.pow_succ, Nat.mul_comm 256 (256 ^ k)]
  generalize hTT : (⟨ch, low, width, kept, k + 1, out⟩ : Enc).T = TT at *
  unfold shift
  simp only
  split
  · rename_i hcase
    have hq : low / 4294967296 = 0 ∨ low / 4294967296 = 1 := by omega
    have hT2 : ∀ (z : List Nat) (kp : Nat), (⟨ch, low % 16777216 * 256, width, kp, 1, out ++ z⟩ : Enc).T = dig (out ++ z) * 256 + kp + 1 := fun z kp => by
      unfold T
      simp
    rcases hq with hq | hq
    · rw [hq, hT2]
      simp only [Nat.add_sub_cancel]
      rw [dig_app, List.length_cons, List.length_replicate, dig_cons, List.length_replicate]
      have h1 : (kept + 0) % 256 = kept := by omega
      rw [h1, show (0 + 255) % 256 = 255 from rfl]
      have h2 := dig_rep1 k
      generalize dig (List.replicate k 255) = R at *
      generalize dig out * 256 ^ (k + 1) = D at *
      generalize kept * 256 ^ k = K at *
      omega
    · rw [hq, hT2]
      simp only [Nat.add_sub_cancel]
      rw [dig_app, List.length_cons, List.length_replicate, dig_cons, List.length_replicate]
      have h1 : (kept + 1) % 256 = kept + 1 := by omega
      rw [h1, show (1 + 255) % 256 = 0 from rfl, dig_rep0, show (kept + 1) * 256 ^ k = kept * 256 ^ k + 256 ^ k by rw [Nat.add_mul, Nat.one_mul]]
      generalize dig out * 256 ^ (k + 1) = D at *
      generalize kept * 256 ^ k = K at *
      omega
  · rename_i hcase
    have hT2 : (⟨ch, low % 16777216 * 256, width, kept, k + 1 + 1, out⟩ : Enc).T = TT * 256 := by
      rw [← hTT]
      unfold T
      simp only [Nat.add_sub_cancel]
      rw [Nat.pow_succ, Nat.mul_assoc]
    rw [hT2]
    simp only
    omega
theorem carry_settle (e : Enc) (h : e.carry) (hs : e.low + e.width < 8589934592) : e.settle.carry := by
  obtain ⟨ch, low, width, kept, waiting, out⟩ := e
  unfold carry at h ⊢
  simp only at h hs
  unfold settle
  simp only
  split
  · unfold shift
    simp only
    split
    · simp only
      omega
    · simp only
      omega
  · exact h
/-- Ahead of widening. -/
structure Pre (e : Enc) : Prop where
  ch : chOk e.ch
  sum : e.low + e.width < 8589934592
  width : e.width < 4294967296
  top : 65536 ≤ e.width
  kept : e.kept < 256
  waiting : 1 ≤ e.waiting
  out : ∀ x ∈ e.out, x < 256
  carry : e.carry
/-- .. and behind it. -/
structure Okc (e : Enc) : Prop where
  ok : e.Ok
  carry : e.carry
theorem Pre.settle {e : Enc} (h : e.Pre) : e.settle.Okc := ⟨settle_ok e h.ch h.sum h.width h.top h.kept h.waiting h.out, carry_settle e h.carry h.sum⟩
theorem Pre.low {e : Enc} (h : e.Pre) : e.kept ≤ 254 ∨ e.low < 4294967296 := by
  have h1 := h.carry
  have h2 := h.top
  unfold Enc.carry at h1
  omega
theorem settle_yes {e : Enc} (h : e.Pre) (hlt : e.width < 16777216) : e.settle.P = e.P + 1 ∧ e.settle.V = 256 * e.V ∧ e.settle.width = e.width * 256 := by
  have h1 := h.sum
  unfold settle
  rw [if_pos hlt]
  refine ⟨P_shift _ h.waiting, ?_, shift_width _⟩
  exact V_shift ({ e with width := e.width * 256 } : Enc) h.waiting h.kept (by simp only; omega) h.low
theorem settle_no {e : Enc} (hlt : ¬ e.width < 16777216) : e.settle = e := by
  unfold settle
  rw [if_neg hlt]
/-- The last number lies within. -/
def Nest (e E : Enc) : Prop := ∃ k, E.P = e.P + k ∧ e.V * 256 ^ k ≤ E.V ∧ E.V + E.width ≤ (e.V + e.width) * 256 ^ k
theorem Nest.refl (e : Enc) : Nest e e := ⟨0, rfl, by simp, by simp⟩
theorem Nest.trans {a b c : Enc} (h : Nest a b) (h' : Nest b c) : Nest a c := by
  obtain ⟨k, p1, v1, w1⟩ := h
  obtain ⟨j, p2, v2, w2⟩ := h'
  refine ⟨k + j, by omega, ?_, ?_⟩
  · rw [Nat.pow_add, ← Nat.mul_assoc]
    exact Nat.le_trans (Nat.mul_le_mul_right _ v1) v2
  · rw [Nat.pow_add, ← Nat.mul_assoc]
    exact Nat.le_trans w2 (Nat.mul_le_mul_right _ w1)
theorem Nest.within {e e1 : Enc} (hp : e1.P = e.P) (h1 : e.V ≤ e1.V) (h2 : e1.V + e1.width ≤ e.V + e.width) : Nest e e1 := ⟨0, hp, by simpa using h1, by simpa using h2⟩
theorem Pre.nest {e : Enc} (h : e.Pre) : Nest e e.settle := by
  by_cases hlt : e.width < 16777216
  · obtain ⟨a, b, c⟩ := settle_yes h hlt
    exact ⟨1, a, by omega, by omega⟩
  · rw [settle_no hlt]
    exact Nest.refl e
/-- A bit, ahead of widening. -/
def pre (e : Enc) (i bit : Nat) : Enc :=
  if bit = 0 then { e with width := e.width / 2048 * e.ch.getD i 0, ch := e.ch.set i (aft (e.ch.getD i 0) 0) }
    else { e with low := e.low + e.width / 2048 * e.ch.getD i 0, width := e.width - e.width / 2048 * e.ch.getD i 0, ch := e.ch.set i (aft (e.ch.getD i 0) 1) }
theorem put_pre (e : Enc) (i bit : Nat) : e.put i bit = (e.pre i bit).settle := rfl
theorem pre_pre {e : Enc} (h : e.Okc) (i bit : Nat) (hi : i < e.ch.length) : (e.pre i bit).Pre := by
  obtain ⟨h1, h2⟩ := chOk_get h.ok.ch i hi
  obtain ⟨b1, b2, b3, b4⟩ := bound_bit e.width (e.ch.getD i 0) h1 h2 h.ok.top h.ok.width
  have hs := h.ok.sum
  have hw := h.ok.width
  have hc := h.carry
  unfold Enc.carry at hc
  unfold pre
  split
  · exact ⟨chOk_set h.ok.ch _ _ (aft_range _ _ h1 h2).1 (aft_range _ _ h1 h2).2, by simp only; omega, b2, b1, h.ok.kept, h.ok.waiting, h.ok.out, by unfold Enc.carry; simp only; omega⟩
  · exact ⟨chOk_set h.ok.ch _ _ (aft_range _ _ h1 h2).1 (aft_range _ _ h1 h2).2, by simp only; omega, by simp only; omega, b4, h.ok.kept, h.ok.waiting, h.ok.out, by unfold Enc.carry; simp only; omega⟩
theorem V_low (e : Enc) (b wd : Nat) (c : List Nat) : ({ e with low := e.low + b, width := wd, ch := c } : Enc).V = e.V + b := by
  unfold V
  show (e.T - 1) * 4294967296 + (e.low + b) = _
  omega
theorem pre_0 (e : Enc) (i : Nat) : (e.pre i 0).V = e.V ∧ (e.pre i 0).P = e.P ∧ (e.pre i 0).width = e.width / 2048 * e.ch.getD i 0 ∧ (e.pre i 0).ch = e.ch.set i (aft (e.ch.getD i 0) 0) := ⟨rfl, rfl, rfl, rfl⟩
theorem pre_1 (e : Enc) (i : Nat) : (e.pre i 1).V = e.V + e.width / 2048 * e.ch.getD i 0 ∧ (e.pre i 1).P = e.P ∧ (e.pre i 1).width = e.width - e.width / 2048 * e.ch.getD i 0 ∧ (e.pre i 1).ch = e.ch.set i (aft (e.ch.getD i 0) 1) := ⟨V_low _ _ _ _, rfl, rfl, rfl⟩
theorem bit01 {b : Nat} (h : b ≤ 1) : b = 0 ∨ b = 1 := by omega
theorem pre_nest {e : Enc} (h : e.Okc) (i bit : Nat) (hi : i < e.ch.length) (hb : bit ≤ 1) : Nest e (e.pre i bit) := by
  obtain ⟨h1, h2⟩ := chOk_get h.ok.ch i hi
  obtain ⟨b1, b2, b3, b4⟩ := bound_bit e.width (e.ch.getD i 0) h1 h2 h.ok.top h.ok.width
  rcases bit01 hb with rfl | rfl
  · obtain ⟨a, b, c, d⟩ := pre_0 e i
    exact Nest.within b (by omega) (by omega)
  · obtain ⟨a, b, c, d⟩ := pre_1 e i
    exact Nest.within b (by omega) (by omega)
theorem put_okc {e : Enc} (h : e.Okc) (i bit : Nat) (hi : i < e.ch.length) : (e.put i bit).Okc := (pre_pre h i bit hi).settle
theorem put_nest {e : Enc} (h : e.Okc) (i bit : Nat) (hi : i < e.ch.length) (hb : bit ≤ 1) : Nest e (e.put i bit) := (pre_nest h i bit hi hb).trans (pre_pre h i bit hi).nest
/-- A bit without a chance, ahead of widening. -/
def prd (e : Enc) (b : Nat) : Enc := { e with width := e.width / 2, low := e.low + e.width / 2 * b }
theorem prd_V (e : Enc) (b : Nat) : (e.prd b).V = e.V + e.width / 2 * b := V_low e _ _ _
theorem prd_pre {e : Enc} (h : e.Okc) (b : Nat) (hb : b ≤ 1) : (e.prd b).Pre := by
  have hs := h.ok.sum
  have hw := h.ok.width
  have ht := h.ok.top
  have hc := h.carry
  unfold Enc.carry at hc
  unfold prd
  rcases bit01 hb with rfl | rfl
  · exact ⟨h.ok.ch, by simp only; omega, by simp only; omega, by simp only; omega, h.ok.kept, h.ok.waiting, h.ok.out, by unfold Enc.carry; simp only; omega⟩
  · exact ⟨h.ok.ch, by simp only; omega, by simp only; omega, by simp only; omega, h.ok.kept, h.ok.waiting, h.ok.out, by unfold Enc.carry; simp only; omega⟩
theorem prd_nest (e : Enc) (b : Nat) (hb : b ≤ 1) : Nest e (e.prd b) := by
  have h1 := prd_V e b
  have h2 : (e.prd b).width = e.width / 2 := rfl
  rcases bit01 hb with rfl | rfl
  · exact Nest.within rfl (by omega) (by omega)
  · exact Nest.within rfl (by omega) (by omega)
theorem direct_succ (e : Enc) (v n : Nat) : e.direct v (n + 1) = ((e.prd (v / 2 ^ n % 2)).settle).direct v n := rfl
theorem mod2_le (x : Nat) : x % 2 ≤ 1 := by omega
theorem direct_nest (v : Nat) : ∀ (n : Nat) (e : Enc), e.Okc → (e.direct v n).Okc ∧ Nest e (e.direct v n)
  | 0, e, h => ⟨h, Nest.refl e⟩
  | n + 1, e, h => by
    have hp := prd_pre h _ (mod2_le (v / 2 ^ n))
    obtain ⟨a, b⟩ := direct_nest v n _ hp.settle
    rw [direct_succ]
    exact ⟨a, ((prd_nest e _ (mod2_le _)).trans hp.nest).trans b⟩
theorem walk_nest (base N len : Nat) (hN : base + N ≤ len) : ∀ (bs : List Nat) (e : Enc) (m : Nat), e.Okc → e.ch.length = len → (∀ x ∈ bs, x ≤ 1) → (m + 1) * 2 ^ bs.length ≤ 2 * N →
    (e.walk base m bs).Okc ∧ (e.walk base m bs).ch.length = len ∧ Nest e (e.walk base m bs)
  | [], e, m, h, hl, _, _ => ⟨h, hl, Nest.refl e⟩
  | x :: r, e, m, h, hl, hx, hm => by
    have hx1 := hx x (List.mem_cons_self ..)
    rw [List.length_cons, Nat.pow_succ] at hm
    have hp := Nat.two_pow_pos r.length
    have h1 : (m + 1) * 2 ^ r.length ≤ N := by
      rw [← Nat.mul_assoc] at hm
      omega
    have h2 : m + 1 ≤ (m + 1) * 2 ^ r.length := Nat.le_mul_of_pos_right _ hp
    have h3 : (2 * m + x + 1) * 2 ^ r.length ≤ 2 * N := by
      have h4 : (2 * m + x + 1) * 2 ^ r.length ≤ (2 * (m + 1)) * 2 ^ r.length := Nat.mul_le_mul_right _ (by omega)
      rw [Nat.mul_assoc] at h4
      omega
    have hb : base + m < e.ch.length := by omega
    obtain ⟨a1, a2, a3⟩ := walk_nest base N len hN r (e.put (base + m) x) (2 * m + x) (put_okc h _ _ hb) ((put_chlen e _ _).trans hl) (fun y hy => hx y (List.mem_cons_of_mem _ hy)) h3
    exact ⟨a1, a2, (put_nest h _ _ hb hx1).trans a3⟩
end Enc
end Go.Proofs.Ytiikbpcaeoodjaa
