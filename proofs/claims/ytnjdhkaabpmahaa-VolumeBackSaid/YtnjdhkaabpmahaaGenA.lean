/- General lemmas: cells kept, parts of slices. -/
import Derived.Test.YtnjdhkaabpmahaaNums
import Derived.Test.YtnjdhkaabpmahaaHold
import Derived.Test.YtnjdhkaabpmahaaHav
import Derived.BigQuiet
import Derived.Deep.QuietTactic
namespace Go.Proofs.Ytnjdhkaabpmahaa
open Go.RowKit
set_option linter.unusedVariables false
set_option linter.unusedSimpArgs false

theorem ckp {S : Nat → Prop} {w w' : World} {p : Addr} {u : Value} (h : w.cell? p = some u) (k : Keeps S w w') (hp : ¬ S p.block) : w'.cell? p = some u := by
  rw [← h]
  exact World.cell?_of_block (k.block _ (World.block_lt_of_cell? w _ h) hp)
theorem gk {S : Nat → Prop} {w w1 : World} (h : Grow w w1) : Keeps S w w1 := h.mono fun _ _ h => h.elim
theorem hyG4 : Hv.Hyp2 Grow Grow (fun _ _ _ => True) := ⟨Keeps.refl _, fun _ _ _ h k => Keeps.trans h k fun _ _ h => h, fun _ _ _ _ _ _ => trivial, Keeps.refl _, fun _ _ _ h k => Keeps.trans h k fun _ _ h => h, fun _ _ h => h⟩
theorem add_block (a : Addr) (m : Nat) : (a.add m).block = a.block := by
  unfold Addr.add
  split <;> rfl
theorem off_le {A : Option Addr} {c m : Nat} {B : Nat} (h : ∀ a, A = some a → a.block < B) : ∀ a, Nums.off A c m = some a → a.block < B := fun a e => by
  unfold Nums.off at e
  split at e
  · exact h a e
  · cases A with
    | none => cases e
    | some a' =>
      injection e with e
      rw [← e, add_block]
      exact h _ rfl
end Go.Proofs.Ytnjdhkaabpmahaa
