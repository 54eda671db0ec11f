/- The range coder's numbers: plain. -/
namespace Go.Proofs.Ytiikbpcaeoodjaa
set_option linter.unusedVariables false

/-- A chance behind a bit. -/
def aft (p bit : Nat) : Nat := if bit = 0 then p + (2048 - p) / 32 else p - p / 32
theorem aft_range (p bit : Nat) (h1 : 31 ≤ p) (h2 : p ≤ 2017) : 31 ≤ aft p bit ∧ aft p bit ≤ 2017 := by
  unfold aft; split <;> omega

/-- An encoder's numbers. -/
structure Enc where
  ch : List Nat
  low : Nat
  width : Nat
  kept : Nat
  waiting : Nat
  out : List Nat

def chOk (l : List Nat) : Prop := ∀ p ∈ l, 31 ≤ p ∧ p ≤ 2017
theorem chOk_get {l : List Nat} (h : chOk l) (i : Nat) (hi : i < l.length) : 31 ≤ l.getD i 0 ∧ l.getD i 0 ≤ 2017 :=
  h _ (by simp [List.getD_eq_getElem?_getD, hi])
theorem chOk_set {l : List Nat} (h : chOk l) (i v : Nat) (h1 : 31 ≤ v) (h2 : v ≤ 2017) : chOk (l.set i v) := fun p hp => by
  rcases List.mem_or_eq_of_mem_set hp with hp | rfl
  · exact h p hp
  · exact ⟨h1, h2⟩
theorem chOk_even (n : Nat) : chOk (List.replicate n 1024) := fun p hp => by
  rw [(List.mem_replicate.1 hp).2]; omega

namespace Enc
def new (n : Nat) : Enc := ⟨List.replicate n 1024, 0, 4294967295, 0, 1, []⟩
/-- What is kept between calls. -/
structure Ok (e : Enc) : Prop where
  ch : chOk e.ch
  sum : e.low + e.width < 8589934592
  width : e.width < 4294967296
  top : 16777216 ≤ e.width
  kept : e.kept < 256
  waiting : 1 ≤ e.waiting
  out : ∀ x ∈ e.out, x < 256
theorem new_ok (n : Nat) : (new n).Ok := ⟨chOk_even n, by show 0 + 4294967295 < _; omega, by show 4294967295 < _; omega, by show _ ≤ 4294967295; omega, by show 0 < 256; omega, Nat.le_refl _, fun x hx => by cases hx⟩
/-- A byte is shifted out. -/
def shift (e : Enc) : Enc :=
  if e.low < 4278190080 ∨ 4294967296 ≤ e.low then
    { e with out := e.out ++ (e.kept + e.low / 4294967296) % 256 :: List.replicate (e.waiting - 1) ((e.low / 4294967296 + 255) % 256), kept := e.low / 16777216 % 256, waiting := 1, low := e.low % 16777216 * 256 }
  else { e with waiting := e.waiting + 1, low := e.low % 16777216 * 256 }
def settle (e : Enc) : Enc := if e.width < 16777216 then ({ e with width := e.width * 256 } : Enc).shift else e
def put (e : Enc) (i bit : Nat) : Enc :=
  (if bit = 0 then { e with width := e.width / 2048 * e.ch.getD i 0, ch := e.ch.set i (aft (e.ch.getD i 0) 0) }
    else { e with low := e.low + e.width / 2048 * e.ch.getD i 0, width := e.width - e.width / 2048 * e.ch.getD i 0, ch := e.ch.set i (aft (e.ch.getD i 0) 1) } : Enc).settle
/-- The lowest n bits of v, the highest first. -/
def direct (e : Enc) (v : Nat) : Nat → Enc
  | 0 => e
  | n + 1 => (({ e with width := e.width / 2, low := e.low + e.width / 2 * (v / 2 ^ n % 2) } : Enc).settle).direct v n
/-- The bits by a tree. -/
def walk (e : Enc) (base m : Nat) : List Nat → Enc
  | [] => e
  | x :: r => (e.put (base + m) x).walk base (2 * m + x) r
def bytes (e : Enc) : List Nat := e.shift.shift.shift.shift.shift.out

theorem shift_ch (e : Enc) : e.shift.ch = e.ch := by unfold shift; split <;> rfl
theorem shift_width (e : Enc) : e.shift.width = e.width := by unfold shift; split <;> rfl
theorem shift_low (e : Enc) : e.shift.low = e.low % 16777216 * 256 := by unfold shift; split <;> rfl
theorem shift_kept (e : Enc) (h : e.kept < 256) : e.shift.kept < 256 := by
  unfold shift; split
  · exact Nat.mod_lt _ (by omega)
  · exact h
theorem shift_waiting (e : Enc) : 1 ≤ e.shift.waiting := by
  unfold shift; split
  · exact Nat.le_refl _
  · exact Nat.le_add_left _ _
theorem shift_out (e : Enc) (h : ∀ x ∈ e.out, x < 256) : ∀ x ∈ e.shift.out, x < 256 := by
  unfold shift; split
  · intro x hx
    simp only [List.mem_append, List.mem_cons] at hx
    rcases hx with hx | rfl | hx
    · exact h x hx
    · exact Nat.mod_lt _ (by omega)
    · rw [(List.mem_replicate.1 hx).2]; exact Nat.mod_lt _ (by omega)
  · exact h
theorem shift_len (e : Enc) (h : 1 ≤ e.waiting) : e.shift.out.length + e.shift.waiting = e.out.length + e.waiting + 1 := by
  unfold shift; split
  · simp; omega
  · simp only; omega
/-- Behind a step that keeps the sum. -/
theorem settle_ok (e : Enc) (hch : chOk e.ch) (hs : e.low + e.width < 8589934592) (hw : e.width < 4294967296) (ht : 65536 ≤ e.width) (hk : e.kept < 256) (hwt : 1 ≤ e.waiting) (ho : ∀ x ∈ e.out, x < 256) : e.settle.Ok := by
  unfold settle
  split
  · have hl : ({ e with width := e.width * 256 } : Enc).shift.low < 4294967296 := by rw [shift_low]; have := Nat.mod_lt e.low (show 16777216 > 0 by omega); show e.low % 16777216 * 256 < _; omega
    have hw' : ({ e with width := e.width * 256 } : Enc).shift.width = e.width * 256 := shift_width _
    exact ⟨by rw [shift_ch]; exact hch, by rw [hw']; omega, by rw [hw']; omega, by rw [hw']; omega, shift_kept _ hk, shift_waiting _, shift_out _ ho⟩
  · exact ⟨hch, hs, hw, by omega, hk, hwt, ho⟩
theorem settle_len (e : Enc) (h : 1 ≤ e.waiting) : e.settle.out.length + e.settle.waiting ≤ e.out.length + e.waiting + 1 := by
  unfold settle
  split
  · exact Nat.le_of_eq (shift_len { e with width := e.width * 256 } h)
  · omega
theorem settle_ch (e : Enc) : e.settle.ch = e.ch := by
  unfold settle
  split
  · rw [shift_ch]
  · rfl
theorem bound_bit (wd p : Nat) (h1 : 31 ≤ p) (h2 : p ≤ 2017) (h3 : 16777216 ≤ wd) (h4 : wd < 4294967296) :
    65536 ≤ wd / 2048 * p ∧ wd / 2048 * p < 4294967296 ∧ wd / 2048 * p ≤ wd ∧ 65536 ≤ wd - wd / 2048 * p := by
  have h5 : 8192 ≤ wd / 2048 := by omega
  have h6 : wd / 2048 * 2048 ≤ wd := Nat.div_mul_le_self _ _
  generalize wd / 2048 = q at *
  have h7 : q * p ≤ q * 2017 := Nat.mul_le_mul_left _ h2
  have h8 : q * 31 ≤ q * p := Nat.mul_le_mul_left _ h1
  omega
theorem put_ok (e : Enc) (h : e.Ok) (i bit : Nat) (hi : i < e.ch.length) : (e.put i bit).Ok := by
  obtain ⟨h1, h2⟩ := chOk_get h.ch i hi
  obtain ⟨b1, b2, b3, b4⟩ := bound_bit e.width (e.ch.getD i 0) h1 h2 h.top h.width
  have hs := h.sum
  have hw := h.width
  unfold put
  split
  · exact settle_ok _ (chOk_set h.ch _ _ (aft_range _ _ h1 h2).1 (aft_range _ _ h1 h2).2) (by simp only; omega) b2 b1 h.kept h.waiting h.out
  · exact settle_ok _ (chOk_set h.ch _ _ (aft_range _ _ h1 h2).1 (aft_range _ _ h1 h2).2) (by simp only; omega) (by simp only; omega) b4 h.kept h.waiting h.out
theorem put_chlen (e : Enc) (i bit : Nat) : (e.put i bit).ch.length = e.ch.length := by
  unfold put
  split <;> rw [settle_ch] <;> simp
theorem put_len (e : Enc) (h : e.Ok) (i bit : Nat) : (e.put i bit).out.length + (e.put i bit).waiting ≤ e.out.length + e.waiting + 1 := by
  unfold put
  split
  · exact settle_len _ h.waiting
  · exact settle_len _ h.waiting
end Enc
end Go.Proofs.Ytiikbpcaeoodjaa
