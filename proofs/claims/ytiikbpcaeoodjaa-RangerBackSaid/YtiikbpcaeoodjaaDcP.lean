/- The range decoder's numbers: plain. -/
import Derived.Test.YtiikbpcaeoodjaaEnP
namespace Go.Proofs.Ytiikbpcaeoodjaa
set_option linter.unusedVariables false

/-- A decoder's numbers. -/
structure Dec where
  ch : List Nat
  width : Nat
  code : Nat
  rest : List Nat
  over : Bool
namespace Dec
structure Ok (d : Dec) : Prop where
  ch : chOk d.ch
  width : d.width < 4294967296
  code : d.code < 4294967296
  top : d.over = false → 16777216 ≤ d.width
  rest : ∀ x ∈ d.rest, x < 256
def settle (d : Dec) : Dec :=
  if d.width < 16777216 then
    match d.rest with
    | [] => { d with over := true }
    | x :: r => { d with width := d.width * 256, code := (d.code * 256 + x) % 4294967296, rest := r }
  else d
/-- Behind a bit by the chance p: the bit, and the numbers ahead of the widening. -/
def halfW (width code p : Nat) : Nat := if code < width / 2048 * p then width / 2048 * p else width - width / 2048 * p
def halfC (width code p : Nat) : Nat := if code < width / 2048 * p then code else code - width / 2048 * p
def bitOf (width code p : Nat) : Nat := if code < width / 2048 * p then 0 else 1
theorem bitOf_le (a b c : Nat) : bitOf a b c ≤ 1 := by unfold bitOf; split <;> omega
def step (d : Dec) (p : Nat) : Dec := ({ d with width := halfW d.width d.code p, code := halfC d.width d.code p } : Dec).settle
/-- A bit by the chance at i. -/
def get (d : Dec) (i : Nat) : Dec :=
  if d.over then d else
    if (d.step (d.ch.getD i 0)).over then d.step (d.ch.getD i 0) else { d.step (d.ch.getD i 0) with ch := d.ch.set i (aft (d.ch.getD i 0) (bitOf d.width d.code (d.ch.getD i 0))) }
/-- .. and what it tells. -/
def told (d : Dec) (i : Nat) : Nat := if d.over then 0 else bitOf d.width d.code (d.ch.getD i 0)
theorem settle_ch (d : Dec) : d.settle.ch = d.ch := by
  unfold settle
  split
  · split <;> rfl
  · rfl
theorem settle_ok (d : Dec) (hch : chOk d.ch) (hw : d.width < 4294967296) (ht : 65536 ≤ d.width) (hc : d.code < 4294967296) (hr : ∀ x ∈ d.rest, x < 256) : d.settle.Ok ∧ d.settle.rest.length ≤ d.rest.length := by
  obtain ⟨ch, width, code, rest, over⟩ := d
  simp only at hch hw ht hc hr
  unfold settle
  simp only
  split
  · rename_i hlt
    match rest with
    | [] => exact ⟨⟨hch, hw, hc, fun h => absurd h (by simp), hr⟩, Nat.le_refl _⟩
    | x :: r => exact ⟨⟨hch, by simp only; omega, Nat.mod_lt _ (by omega), fun _ => by simp only; omega, fun y hy => hr y (List.mem_cons_of_mem _ hy)⟩, by simp⟩
  · rename_i hlt
    exact ⟨⟨hch, hw, hc, fun _ => Nat.le_of_not_lt hlt, hr⟩, Nat.le_refl _⟩
theorem half_ok (width code p : Nat) (h1 : 31 ≤ p) (h2 : p ≤ 2017) (h3 : 16777216 ≤ width) (h4 : width < 4294967296) (h5 : code < 4294967296) :
    65536 ≤ halfW width code p ∧ halfW width code p < 4294967296 ∧ halfC width code p < 4294967296 := by
  obtain ⟨b1, b2, b3, b4⟩ := Enc.bound_bit width p h1 h2 h3 h4
  unfold halfW halfC
  split <;> omega
theorem step_ok (d : Dec) (h : d.Ok) (ho : d.over = false) (p : Nat) (h1 : 31 ≤ p) (h2 : p ≤ 2017) : (d.step p).Ok ∧ (d.step p).rest.length ≤ d.rest.length := by
  obtain ⟨b1, b2, b3⟩ := half_ok d.width d.code p h1 h2 (h.top ho) h.width h.code
  exact settle_ok _ h.ch b2 b1 b3 h.rest
theorem step_ch (d : Dec) (p : Nat) : (d.step p).ch = d.ch := settle_ch _
theorem get_ok (d : Dec) (h : d.Ok) (i : Nat) (hi : i < d.ch.length) : (d.get i).Ok ∧ (d.get i).rest.length ≤ d.rest.length ∧ (d.get i).ch.length = d.ch.length := by
  obtain ⟨p1, p2⟩ := chOk_get h.ch i hi
  unfold get
  by_cases ho : d.over = true
  · rw [if_pos ho]
    exact ⟨h, Nat.le_refl _, rfl⟩
  · have ho' : d.over = false := by simpa using ho
    rw [if_neg ho]
    obtain ⟨s1, s2⟩ := step_ok d h ho' _ p1 p2
    split
    · exact ⟨s1, s2, by rw [step_ch]⟩
    · rename_i hov
      have hov' : (d.step (d.ch.getD i 0)).over = false := by simpa using hov
      obtain ⟨a1, a2⟩ := aft_range (d.ch.getD i 0) (bitOf d.width d.code (d.ch.getD i 0)) p1 p2
      exact ⟨⟨chOk_set h.ch _ _ a1 a2, s1.width, s1.code, fun _ => s1.top hov', s1.rest⟩, s2, by simp⟩
end Dec
end Go.Proofs.Ytiikbpcaeoodjaa
