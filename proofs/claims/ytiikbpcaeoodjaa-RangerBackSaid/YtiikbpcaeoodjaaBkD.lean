/- RangerBack: plain: the decoder at the encoder. -/
import Derived.Test.YtiikbpcaeoodjaaBkP
namespace Go.Proofs.Ytiikbpcaeoodjaa
set_option linter.unusedVariables false
set_option linter.unusedSimpArgs false

namespace Enc
theorem shift_zero (e : Enc) (h : e.low = 0) (hk : e.kept < 256) (hw : 1 ≤ e.waiting) : dig e.shift.out + 1 = e.T ∧ e.shift.out.length = e.out.length + e.waiting := by
  obtain ⟨ch, low, width, kept, waiting, out⟩ := e
  simp only at h hk hw
  subst h
  obtain ⟨k, rfl⟩ : ∃ k, waiting = k + 1 := ⟨waiting - 1, by omega⟩
  unfold shift T
  simp only [Nat.add_sub_cancel]
  rw [if_pos (by omega)]
  simp only
  constructor
  · rw [dig_app, List.length_cons, List.length_replicate, dig_cons, List.length_replicate, show (kept + 0 / 4294967296) % 256 = kept by omega, show (0 / 4294967296 + 255) % 256 = 255 by omega]
    have h2 := dig_rep1 k
    rw [Nat.add_mul, Nat.add_mul, Nat.one_mul, Nat.mul_assoc, Nat.mul_comm 256 (256 ^ k), Nat.pow_succ]
    omega
  · simp
theorem bytes_fin (e : Enc) (h : e.Okc) : dig e.bytes = e.V ∧ e.bytes.length = e.P ∧ ∀ x ∈ e.bytes, x < 256 := by
  have h1 := h.ok.sum
  have h2 := h.ok.top
  have h3 := h.carry
  unfold Enc.carry at h3
  obtain ⟨e1, he1⟩ : ∃ e1, e1 = e.shift := ⟨_, rfl⟩
  obtain ⟨e2, he2⟩ : ∃ e2, e2 = e1.shift := ⟨_, rfl⟩
  obtain ⟨e3, he3⟩ : ∃ e3, e3 = e2.shift := ⟨_, rfl⟩
  obtain ⟨e4, he4⟩ : ∃ e4, e4 = e3.shift := ⟨_, rfl⟩
  have hb : e.bytes = e4.shift.out := by rw [he4, he3, he2, he1]; rfl
  have l1 : e1.low = e.low % 16777216 * 256 := by rw [he1]; exact shift_low _
  have l2 : e2.low = e1.low % 16777216 * 256 := by rw [he2]; exact shift_low _
  have l3 : e3.low = e2.low % 16777216 * 256 := by rw [he3]; exact shift_low _
  have l4 : e4.low = e3.low % 16777216 * 256 := by rw [he4]; exact shift_low _
  have k1 : e1.kept < 256 := by rw [he1]; exact shift_kept _ h.ok.kept
  have k2 : e2.kept < 256 := by rw [he2]; exact shift_kept _ k1
  have k3 : e3.kept < 256 := by rw [he3]; exact shift_kept _ k2
  have k4 : e4.kept < 256 := by rw [he4]; exact shift_kept _ k3
  have w1 : 1 ≤ e1.waiting := by rw [he1]; exact shift_waiting _
  have w2 : 1 ≤ e2.waiting := by rw [he2]; exact shift_waiting _
  have w3 : 1 ≤ e3.waiting := by rw [he3]; exact shift_waiting _
  have w4 : 1 ≤ e4.waiting := by rw [he4]; exact shift_waiting _
  have v1 : e1.V = 256 * e.V := by rw [he1]; exact V_shift e h.ok.waiting h.ok.kept (by omega) (by omega)
  have v2 : e2.V = 256 * e1.V := by rw [he2]; exact V_shift e1 w1 k1 (by omega) (by omega)
  have v3 : e3.V = 256 * e2.V := by rw [he3]; exact V_shift e2 w2 k2 (by omega) (by omega)
  have v4 : e4.V = 256 * e3.V := by rw [he4]; exact V_shift e3 w3 k3 (by omega) (by omega)
  have p1 : e1.P = e.P + 1 := by rw [he1]; exact P_shift e h.ok.waiting
  have p2 : e2.P = e1.P + 1 := by rw [he2]; exact P_shift e1 w1
  have p3 : e3.P = e2.P + 1 := by rw [he3]; exact P_shift e2 w2
  have p4 : e4.P = e3.P + 1 := by rw [he4]; exact P_shift e3 w3
  have hz : e4.low = 0 := by omega
  obtain ⟨d1, d2⟩ := shift_zero e4 hz k4 w4
  rw [hb]
  refine ⟨?_, ?_, ?_⟩
  · have hv : e4.V = (e4.T - 1) * 4294967296 + e4.low := rfl
    rw [← d1, Nat.add_sub_cancel, hz] at hv
    omega
  · have hp : e4.P = e4.out.length + e4.waiting + 4 := rfl
    omega
  · rw [← hb]
    unfold bytes
    exact shift_out _ (shift_out _ (shift_out _ (shift_out _ (shift_out _ h.ok.out))))
end Enc
/-- The bytes are those of the encoder E. -/
structure Fin (B : List Nat) (E : Enc) : Prop where
  len : B.length = E.P
  dg : dig B = E.V
  lt : ∀ x ∈ B, x < 256
  pos : 0 < E.width
theorem fin_bytes (E : Enc) (h : E.Okc) : Fin E.bytes E := by
  obtain ⟨a, b, c⟩ := E.bytes_fin h
  exact ⟨b, a, c, by have := h.ok.top; omega⟩
theorem Fin.within {B : List Nat} {E e : Enc} (F : Fin B E) (hn : Enc.Nest e E) : e.V ≤ dig (B.take e.P) ∧ dig (B.take e.P) < e.V + e.width := by
  obtain ⟨k, hp, hv, hw⟩ := hn
  have hB : dig B = dig (B.take e.P) * 256 ^ (B.drop e.P).length + dig (B.drop e.P) := by
    rw [← dig_app, List.take_append_drop]
  have hl : (B.drop e.P).length = k := by rw [List.length_drop, F.len]; omega
  have hR := dig_lt (B.drop e.P) (fun x hx => F.lt x (List.mem_of_mem_drop hx))
  rw [hl] at hB hR
  have hd := F.dg
  have hps := F.pos
  generalize dig (B.take e.P) = X at *
  constructor
  · have h1 : e.V * 256 ^ k < (X + 1) * 256 ^ k := by rw [Nat.add_mul, Nat.one_mul]; omega
    have := Nat.lt_of_mul_lt_mul_right h1
    omega
  · have h1 : X * 256 ^ k < (e.V + e.width) * 256 ^ k := by omega
    exact Nat.lt_of_mul_lt_mul_right h1
/-- The decoder stands at the encoder. -/
structure Rel (B : List Nat) (d : Dec) (e : Enc) : Prop where
  ch : d.ch = e.ch
  width : d.width = e.width
  over : d.over = false
  rest : d.rest = B.drop e.P
  code : d.code + e.V = dig (B.take e.P)
theorem rel_settle {B : List Nat} {E e : Enc} {d : Dec} (F : Fin B E) (h : Rel B d e) (hp : e.Pre) (hn : Enc.Nest e.settle E) : Rel B d.settle e.settle := by
  by_cases hlt : e.width < 16777216
  · obtain ⟨a, b, c⟩ := Enc.settle_yes hp hlt
    have hw := F.within hn
    obtain ⟨k, hP, _, _⟩ := hn
    have hlen : e.P < B.length := by rw [F.len]; omega
    have hdrop : B.drop e.P = B[e.P] :: B.drop (e.P + 1) := List.drop_eq_getElem_cons hlen
    have htake : B.take (e.P + 1) = B.take e.P ++ [B[e.P]] := by rw [List.take_add_one]; simp [hlen]
    have hx := F.lt B[e.P] (List.getElem_mem hlen)
    generalize B[e.P] = x at *
    rw [a, htake, dig_snoc, b, c] at hw
    have hcode := h.code
    have hdw := h.width
    have hrest := h.rest
    rw [hdrop] at hrest
    unfold Dec.settle
    rw [if_pos (by rw [hdw]; exact hlt)]
    simp only [hrest]
    refine ⟨?_, ?_, h.over, ?_, ?_⟩
    · simp only
      rw [h.ch, Enc.settle_ch]
    · simp only
      rw [hdw, c]
    · simp only
      rw [a]
    · simp only
      rw [a, b, htake, dig_snoc]
      have hwd := hp.width
      have : d.code * 256 + x < 4294967296 := by omega
      rw [Nat.mod_eq_of_lt this]
      omega
  · rw [Enc.settle_no hlt]
    rw [show d.settle = d by unfold Dec.settle; rw [if_neg (by rw [h.width]; exact hlt)]]
    exact h
theorem rel_bit {B : List Nat} {E e : Enc} {d : Dec} (F : Fin B E) (h : Rel B d e) (ho : e.Okc) (i bit : Nat) (hi : i < e.ch.length) (hb : bit ≤ 1) (hn : Enc.Nest (e.put i bit) E) : d.told i = bit ∧ Rel B (d.get i) (e.put i bit) := by
  have hpp := Enc.pre_pre ho i bit hi
  have hw := F.within (hpp.nest.trans hn)
  have hcode := h.code
  have hov := h.over
  obtain ⟨p1, p2⟩ := chOk_get ho.ok.ch i hi
  obtain ⟨b1, b2, b3, b4⟩ := Enc.bound_bit e.width (e.ch.getD i 0) p1 p2 ho.ok.top ho.ok.width
  obtain ⟨W, hW⟩ : ∃ W, W = e.width / 2048 * e.ch.getD i 0 := ⟨_, rfl⟩
  have key : Dec.bitOf d.width d.code (d.ch.getD i 0) = bit ∧ Rel B (⟨e.ch, Dec.halfW d.width d.code (d.ch.getD i 0), Dec.halfC d.width d.code (d.ch.getD i 0), d.rest, false⟩ : Dec) ({ e.pre i bit with ch := e.ch } : Enc) := by
    rw [h.width, h.ch]
    unfold Dec.bitOf Dec.halfW Dec.halfC
    rw [← hW]
    rcases Enc.bit01 hb with rfl | rfl
    · obtain ⟨q1, q2, q3, q4⟩ := Enc.pre_0 e i
      rw [q1, q2, q3, ← hW] at hw
      have hlt : d.code < W := by omega
      rw [if_pos hlt, if_pos hlt, if_pos hlt]
      exact ⟨rfl, rfl, q3.symm ▸ hW, rfl, h.rest, h.code⟩
    · obtain ⟨q1, q2, q3, q4⟩ := Enc.pre_1 e i
      rw [q1, q2, q3, ← hW] at hw
      have hlt : ¬ d.code < W := by omega
      rw [if_neg hlt, if_neg hlt, if_neg hlt]
      refine ⟨rfl, rfl, ?_, rfl, h.rest, ?_⟩
      · show e.width - W = (e.pre i 1).width
        rw [q3, hW]
      · show d.code - W + (e.pre i 1).V = dig (B.take (e.pre i 1).P)
        rw [q1, q2, ← hW]
        omega
  obtain ⟨k1, k2⟩ := key
  have hset : ∀ c : List Nat, ({ e.pre i bit with ch := c } : Enc).settle = { (e.pre i bit).settle with ch := c } := fun c => by
    unfold Enc.settle
    simp only
    split
    · unfold Enc.shift
      simp only
      split <;> rfl
    · rfl
  have hpe : ({ e.pre i bit with ch := e.ch } : Enc).Pre := ⟨ho.ok.ch, hpp.sum, hpp.width, hpp.top, hpp.kept, hpp.waiting, hpp.out, hpp.carry⟩
  have hs := rel_settle F k2 hpe (by
    rw [hset]
    exact hn)
  have htold : d.told i = bit := by unfold Dec.told; rw [hov]; exact k1
  refine ⟨htold, ?_⟩
  have hstep : d.step (d.ch.getD i 0) = (⟨e.ch, Dec.halfW d.width d.code (d.ch.getD i 0), Dec.halfC d.width d.code (d.ch.getD i 0), d.rest, false⟩ : Dec).settle := by
    unfold Dec.step
    rw [← h.ch, ← hov]
  have hget : d.get i = { d.step (d.ch.getD i 0) with ch := d.ch.set i (aft (d.ch.getD i 0) bit) } := by
    unfold Dec.get
    rw [if_neg (by rw [hov]; decide), if_neg (by rw [hstep, hs.over]; decide), k1]
  rw [hget, hstep]
  rw [hset] at hs
  refine ⟨?_, hs.width, hs.over, hs.rest, hs.code⟩
  simp only
  rw [Enc.put_pre, Enc.settle_ch, h.ch]
  rcases Enc.bit01 hb with rfl | rfl
  · rfl
  · rfl
theorem rel_half {B : List Nat} {E e : Enc} {d : Dec} (F : Fin B E) (h : Rel B d e) (ho : e.Okc) (b : Nat) (hb : b ≤ 1) (hn : Enc.Nest (e.prd b).settle E) : d.hbit = b ∧ Rel B d.half (e.prd b).settle := by
  have hpp := Enc.prd_pre ho b hb
  have hw := F.within (hpp.nest.trans hn)
  have hcode := h.code
  have hov := h.over
  have hV := Enc.prd_V e b
  have hWd : (e.prd b).width = e.width / 2 := rfl
  have hPd : (e.prd b).P = e.P := rfl
  obtain ⟨W, hW⟩ : ∃ W, W = e.width / 2 := ⟨_, rfl⟩
  rw [hV, hWd, hPd, ← hW] at hw
  have hbit : d.hbit = b := by
    unfold Dec.hbit
    rw [h.width, ← hW]
    rcases Enc.bit01 hb with rfl | rfl
    · rw [if_neg (by omega)]
    · rw [if_pos (by omega)]
  refine ⟨hbit, ?_⟩
  have hk : Rel B ({ d with width := d.width / 2, code := d.code - d.width / 2 * d.hbit } : Dec) (e.prd b) := by
    refine ⟨h.ch, by simp only; rw [h.width, hWd], hov, h.rest, ?_⟩
    simp only
    rw [hbit, h.width, hV, hPd, ← hW]
    rcases Enc.bit01 hb with rfl | rfl
    · omega
    · omega
  exact rel_settle F hk hpp hn
theorem rel_direct {B : List Nat} {E : Enc} (F : Fin B E) (v : Nat) : ∀ (n : Nat) (e : Enc) (d : Dec) (a : Nat), Rel B d e → e.Okc → Enc.Nest (e.direct v n) E →
    d.dirV a n = a * 2 ^ n + v % 2 ^ n ∧ Rel B (d.dirD n) (e.direct v n)
  | 0, e, d, a, h, ho, hn => by
    refine ⟨?_, h⟩
    show a = a * 2 ^ 0 + v % 2 ^ 0
    rw [Nat.pow_zero, Nat.mul_one, Nat.mod_one]
    omega
  | n + 1, e, d, a, h, ho, hn => by
    rw [Enc.direct_succ] at hn ⊢
    have hb := Enc.mod2_le (v / 2 ^ n)
    have hpp := Enc.prd_pre ho _ hb
    have hd := Enc.direct_nest v n _ hpp.settle
    obtain ⟨k1, k2⟩ := rel_half F h ho _ hb (hd.2.trans hn)
    obtain ⟨r1, r2⟩ := rel_direct F v n _ d.half (2 * a + d.hbit) k2 hpp.settle hn
    have hov := k2.over
    have e1 : d.dirV a (n + 1) = d.half.dirV (2 * a + d.hbit) n := by
      show (if d.half.over then 0 else d.half.dirV (2 * a + d.hbit) n) = _
      rw [hov]; rfl
    have e2 : d.dirD (n + 1) = d.half.dirD n := by
      show (if d.half.over then d.half else d.half.dirD n) = _
      rw [hov]; rfl
    rw [e1, e2]
    refine ⟨?_, r2⟩
    rw [r1, k1, Nat.add_mul, Nat.pow_succ, Nat.mod_mul, Nat.mul_comm 2 a, Nat.mul_assoc, Nat.mul_comm 2 (2 ^ n), Nat.mul_comm (v / 2 ^ n % 2)]
    omega
theorem rel_walk {B : List Nat} {E : Enc} (F : Fin B E) (base N len : Nat) (hN : base + N ≤ len) : ∀ (bs : List Nat) (e : Enc) (d : Dec) (m : Nat), Rel B d e → e.Okc → e.ch.length = len → (∀ x ∈ bs, x ≤ 1) → (m + 1) * 2 ^ bs.length ≤ 2 * N → Enc.Nest (e.walk base m bs) E →
    d.walkL base m bs.length = bs ∧ Rel B (d.walkD base m bs.length) (e.walk base m bs)
  | [], e, d, m, h, ho, hl, _, _, hn => ⟨rfl, h⟩
  | x :: r, e, d, m, h, ho, hl, hx, hm, hn => by
    have hx1 := hx x (List.mem_cons_self ..)
    have hxr : ∀ y ∈ r, y ≤ 1 := fun y hy => hx y (List.mem_cons_of_mem _ hy)
    rw [List.length_cons, Nat.pow_succ] at hm
    have hp := Nat.two_pow_pos r.length
    have h1 : (m + 1) * 2 ^ r.length ≤ N := by
      rw [← Nat.mul_assoc] at hm
      omega
    have h2 : m + 1 ≤ (m + 1) * 2 ^ r.length := Nat.le_mul_of_pos_right _ hp
    have h3 : (2 * m + x + 1) * 2 ^ r.length ≤ 2 * N := by
      have h4 : (2 * m + x + 1) * 2 ^ r.length ≤ (2 * (m + 1)) * 2 ^ r.length := Nat.mul_le_mul_right _ (by omega)
      rw [Nat.mul_assoc] at h4
      omega
    have hb : base + m < e.ch.length := by omega
    have hok := Enc.put_okc ho (base + m) x hb
    have hcl := (Enc.put_chlen e (base + m) x).trans hl
    obtain ⟨a1, a2, a3⟩ := Enc.walk_nest base N len hN r _ (2 * m + x) hok hcl hxr h3
    obtain ⟨k1, k2⟩ := rel_bit F h ho (base + m) x hb hx1 (a3.trans hn)
    obtain ⟨r1, r2⟩ := rel_walk F base N len hN r (e.put (base + m) x) (d.get (base + m)) (2 * m + x) k2 hok hcl hxr h3 hn
    have hov := k2.over
    have e1 : d.walkL base m (x :: r).length = x :: (d.get (base + m)).walkL base (2 * m + x) r.length := by
      show d.told (base + m) :: (d.get (base + m)).walkL base (2 * m + d.told (base + m)) r.length = _
      rw [k1]
    have e2 : d.walkD base m (x :: r).length = (d.get (base + m)).walkD base (2 * m + x) r.length := by
      show (if (d.get (base + m)).over then d.get (base + m) else (d.get (base + m)).walkD base (2 * m + d.told (base + m)) r.length) = _
      rw [hov, k1]; rfl
    rw [e1, e2]
    exact ⟨by rw [r1], r2⟩
end Go.Proofs.Ytiikbpcaeoodjaa
