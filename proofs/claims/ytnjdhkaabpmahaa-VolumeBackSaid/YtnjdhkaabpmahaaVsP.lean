/- volume: rows of bytes in a row; the split, plain. -/
import Derived.Test.YtnjdhkaabpmahaaHead
import Derived.Test.YtnjdhkaabpmahaaConI
namespace Go.Proofs.Ytnjdhkaabpmahaa
open Go.RowKit
set_option linter.unusedVariables false
set_option linter.unusedSimpArgs false

/-- A part: its block, its room, its bytes. -/
abbrev Part := Nat × Nat × List Int
def pV (t : Part) : Value := .slice (some ⟨t.1, 0, none⟩) t.2.2.length t.2.1
structure Parts (w : World) (B : Nat) (v : Value) (L : List Part) : Prop where
  row : w.ownsRow B 24 1 v L.length (L.map pV)
  each : ∀ t ∈ L, w.ownsRow B 5 1 (pV t) t.2.2.length (t.2.2.map (Value.int .u8))
  rng : ∀ t ∈ L, ∀ x ∈ t.2.2, inKind .u8 x
  up : L.Pairwise fun s t => s.1 < t.1
theorem Parts.nil (w : World) (B : Nat) : Parts w B (.slice none 0 0) [] := ⟨own_nil _ _ _, fun t h => (by cases h), fun t h => (by cases h), List.Pairwise.nil⟩
theorem Parts.keep {S : Nat → Prop} {w w' : World} {B : Nat} {v : Value} {L : List Part} (h : Parts w B v L) (k : Keeps S w w') (hS : ∀ b, B ≤ b → b < w.heap.size → ¬ S b) : Parts w' B v L :=
  ⟨owns_keep h.row k fun i hi => hS i (own_ge h.row i hi) (row_lt h.row i hi), fun t ht => owns_keep (h.each t ht) k fun i hi => hS i (own_ge (h.each t ht) i hi) (row_lt (h.each t ht) i hi), h.rng, h.up⟩
theorem Parts.grow {w w' : World} {B : Nat} {v : Value} {L : List Part} (h : Parts w B v L) (k : Grow w w') : Parts w' B v L := h.keep k fun _ _ _ h => h
theorem Parts.rows {w w' : World} {B : Nat} {v : Value} {L : List Part} (h : Parts w B v L) (k : Keeps (fun k => v.ownBlock = some k) w w') : ∀ t ∈ L, w'.ownsRow B 5 1 (pV t) t.2.2.length (t.2.2.map (Value.int .u8)) := fun t ht =>
  owns_keep (h.each t ht) k fun i hi h9 => by
    rcases (h.each t ht).2 with ⟨e, _⟩ | ⟨g, cap, cur, e, _, hh, _⟩
    · exact absurd hi (by rw [e]; simp [Value.ownBlock])
    · rw [e] at hi
      have hi : g = i := by simpa [Value.ownBlock] using hi
      subst hi
      exact row_ne h.row hh (by decide) h9
/-- A part more. -/
theorem Parts.snoc {w w' : World} {B : Nat} {v : Value} {L : List Part} (h : Parts w B v L) (k : Keeps (fun k => v.ownBlock = some k) w w') (t : Part) (ht : w.ownsRow B 5 1 (pV t) t.2.2.length (t.2.2.map (Value.int .u8))) (hr : ∀ x ∈ t.2.2, inKind .u8 x) (hup : ∀ s ∈ L, s.1 < t.1) {v' : Value} (hrow : w'.ownsRow B 24 1 v' (L.length + 1) (L.map pV ++ [pV t])) : Parts w' B v' (L ++ [t]) := by
  refine ⟨by rw [List.length_append, List.length_singleton, List.map_append]; exact hrow, fun s hs => ?_, fun s hs => ?_, ?_⟩
  · rcases List.mem_append.1 hs with hs | hs
    · exact h.rows k s hs
    · rw [List.mem_singleton.1 hs]
      refine owns_keep ht k fun i hi h9 => ?_
      rcases ht.2 with ⟨e, _⟩ | ⟨g, cap, cur, e, _, hh, _⟩
      · exact absurd hi (by rw [e]; simp [Value.ownBlock])
      · rw [e] at hi
        have hi : g = i := by simpa [Value.ownBlock] using hi
        subst hi
        exact row_ne h.row hh (by decide) h9
  · rcases List.mem_append.1 hs with hs | hs
    · exact h.rng s hs
    · rw [List.mem_singleton.1 hs]; exact hr
  · refine List.pairwise_append.2 ⟨h.up, List.pairwise_singleton _ _, fun s hs u hu => ?_⟩
    rw [List.mem_singleton.1 hu]; exact hup s hs
/-- A head. -/
def hdP (i cnt n S : Nat) : List Int := hd20 i cnt n S ++ leN (not32 (crcAll 3988292384 (not32 0) ((hd20 i cnt n S).map Int.toNat))) 4
theorem hd20_len (i cnt n S : Nat) : (hd20 i cnt n S).length = 20 := by simp [hd20, leN_len]
theorem hdP_len (i cnt n S : Nat) : (hdP i cnt n S).length = 24 := by simp [hdP, hd20_len, leN_len]
theorem hd20_rng (i cnt n S : Nat) : ∀ x ∈ hd20 i cnt n S, inKind .u8 x := fun x hx => by
  simp only [hd20, List.mem_append] at hx
  rcases hx with (((hx | hx) | hx) | hx) | hx
  · simp at hx
    rcases hx with rfl | rfl | rfl | rfl <;> exact ⟨by decide, by decide⟩
  all_goals exact leN_rng _ _ x hx
theorem hdP_rng (i cnt n S : Nat) : ∀ x ∈ hdP i cnt n S, inKind .u8 x := fun x hx => by
  rcases List.mem_append.1 hx with h | h
  · exact hd20_rng _ _ _ _ x h
  · exact leN_rng _ _ x h
def crcP (xs : List Int) : Nat := not32 (crcAll 3988292384 (not32 0) (xs.map Int.toNat))
/-- A volume's bytes. -/
def volP (xs : List Int) (sz cnt i : Nat) : List Int := hdP i cnt xs.length (crcP xs) ++ (xs.drop (i * sz)).take sz
def cntP (n sz : Nat) : Nat := if chkN n sz = 0 then 1 else chkN n sz
/-- What a split comes to: an error, the volumes. -/
def splP (xs : List Int) (size : Int) : Nat × List (List Int) :=
  if size ≤ 24 ∨ 1073741824 < size then (2, [])
  else if 1024 < cntP xs.length (size - 24).toNat then (3, [])
  else (0, (List.range (cntP xs.length (size - 24).toNat)).map (volP xs (size - 24).toNat (cntP xs.length (size - 24).toNat)))
def SplPost (w : World) (R : Nat × List (List Int)) (e : Ending) (w' : World) : Prop :=
  ∃ v L, e = .returned (.tuple #[v, .int .i64 (R.1 : Nat)]) ∧ Parts w' w.heap.size v L ∧ L.map (fun t => t.2.2) = R.2 ∧ Grow w w'
end Go.Proofs.Ytnjdhkaabpmahaa
