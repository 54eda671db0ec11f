/-
  No cell of these rows narrows 'for every input' (looked for: loops, veiled, ifaces, maps, wideKeys, modest, calm, conditions, laid).
  DERIVED. THE GIVEN ROWS OF THIS SEAT. 5 by the template 'for every input the law returns true; each argument reads behind the call as it read before'; 0 by the template 'total and deterministic' (their statements: YtiikbpcaeoodjaaTotals.lean).
  GIVEN WITH THE SEED: the statements are not yours to turn. If you find one false, say at which input.
  Laid BY PROGRAM, IN A SANDBOX (cutbox-rows.mjs): the forced cells as the released guide's own fill.sh prints them over the translation 54b69c880105ad8a… (all of the seat's roots in one cut). By AI agents, Wed Nov 11 2026. No macro, syntax, notation, axiom, sorry.
-/
import Derived.Test.YtiikbpcaeoodjaaChecked
import GoSem.Claim
import GoSem.ClaimJoined
import GoSem.ClaimMapViews
import Derived.JoinedTies
import Derived.KernelRfl
namespace Go.Proofs.Ytiikbpcaeoodjaa
/- THE CELL 'sum', in the pinned program and in every row, IS THE sha256 OF THE DUMP (.gsa) THAT YtiikbpcaeoodjaaProg.lean LOADS. Nothing in Lean hashes anything: it is a label: what it is worth is what the hold of that sum in a sandbox is worth. -/
noncomputable def Try.pinned : Pinned := { name := "ytiikbpcaeoodjaa", sum := "54b69c880105ad8a8ff12aa0ad71f7b48d5abe51a2e63d86fc8e1b060da4d1bb", checked := Try.checked }
namespace Rows
def none {H : Type} : Left H := { results := [], args := [] }

/-- 'hamperlaw13.RangerLikely': WHATEVER THE INPUT: true; the input reads as it did. -/
def rangerLikelySpec : ChangeSpec := { name := "rangerLikely", fn := fun _ => fun
  | [d1, d2] => { results := [.lit (.bool true)], args := [d1, d2] }
  | _ => none }
def rangerLikelyRow : OpenClaim := { program := "ytiikbpcaeoodjaa", sum := "54b69c880105ad8a8ff12aa0ad71f7b48d5abe51a2e63d86fc8e1b060da4d1bb", func := "hamper/hamperlaw13.RangerLikely", spec := "rangerLikely", apart := false }
def RangerLikelySaid : Prop := rangerLikelyRow.holds Try.pinned (OpenSpec.ofChange rangerLikelySpec)

/-- ITS FALSE NEIGHBOUR: 'it returns false'. Refute it at one input. -/
def rangerLikelyWrong : ChangeSpec := { name := "rangerLikely", fn := fun _ => fun
  | [d1, d2] => { results := [.lit (.bool false)], args := [d1, d2] }
  | _ => none }
def RangerLikelyWrongFalsely : Prop := rangerLikelyRow.holds Try.pinned (OpenSpec.ofChange rangerLikelyWrong)

/-- 'hamperlaw13.RangerWrites': WHATEVER THE INPUT: true; the input reads as it did. -/
def rangerWritesSpec : ChangeSpec := { name := "rangerWrites", fn := fun _ => fun
  | [d1, d2] => { results := [.lit (.bool true)], args := [d1, d2] }
  | _ => none }
def rangerWritesRow : OpenClaim := { program := "ytiikbpcaeoodjaa", sum := "54b69c880105ad8a8ff12aa0ad71f7b48d5abe51a2e63d86fc8e1b060da4d1bb", func := "hamper/hamperlaw13.RangerWrites", spec := "rangerWrites", unfollowed := true, recurses := true, apart := false }
def RangerWritesSaid : Prop := rangerWritesRow.holds Try.pinned (OpenSpec.ofChange rangerWritesSpec)

/-- ITS FALSE NEIGHBOUR: 'it returns false'. Refute it at one input. -/
def rangerWritesWrong : ChangeSpec := { name := "rangerWrites", fn := fun _ => fun
  | [d1, d2] => { results := [.lit (.bool false)], args := [d1, d2] }
  | _ => none }
def RangerWritesWrongFalsely : Prop := rangerWritesRow.holds Try.pinned (OpenSpec.ofChange rangerWritesWrong)

/-- 'hamperlaw13.RangerReads': WHATEVER THE INPUT: true; the input reads as it did. -/
def rangerReadsSpec : ChangeSpec := { name := "rangerReads", fn := fun _ => fun
  | [d1, d2, d3] => { results := [.lit (.bool true)], args := [d1, d2, d3] }
  | _ => none }
def rangerReadsRow : OpenClaim := { program := "ytiikbpcaeoodjaa", sum := "54b69c880105ad8a8ff12aa0ad71f7b48d5abe51a2e63d86fc8e1b060da4d1bb", func := "hamper/hamperlaw13.RangerReads", spec := "rangerReads", unfollowed := true, recurses := true, apart := false }
def RangerReadsSaid : Prop := rangerReadsRow.holds Try.pinned (OpenSpec.ofChange rangerReadsSpec)

/-- ITS FALSE NEIGHBOUR: 'it returns false'. Refute it at one input. -/
def rangerReadsWrong : ChangeSpec := { name := "rangerReads", fn := fun _ => fun
  | [d1, d2, d3] => { results := [.lit (.bool false)], args := [d1, d2, d3] }
  | _ => none }
def RangerReadsWrongFalsely : Prop := rangerReadsRow.holds Try.pinned (OpenSpec.ofChange rangerReadsWrong)

/-- 'hamperlaw13.RangerBack': WHATEVER THE INPUT: true; the input reads as it did. -/
def rangerBackSpec : ChangeSpec := { name := "rangerBack", fn := fun _ => fun
  | [d1, d2] => { results := [.lit (.bool true)], args := [d1, d2] }
  | _ => none }
def rangerBackRow : OpenClaim := { program := "ytiikbpcaeoodjaa", sum := "54b69c880105ad8a8ff12aa0ad71f7b48d5abe51a2e63d86fc8e1b060da4d1bb", func := "hamper/hamperlaw13.RangerBack", spec := "rangerBack", unfollowed := true, recurses := true, apart := false }
def RangerBackSaid : Prop := rangerBackRow.holds Try.pinned (OpenSpec.ofChange rangerBackSpec)

/-- ITS FALSE NEIGHBOUR: 'it returns false'. Refute it at one input. -/
def rangerBackWrong : ChangeSpec := { name := "rangerBack", fn := fun _ => fun
  | [d1, d2] => { results := [.lit (.bool false)], args := [d1, d2] }
  | _ => none }
def RangerBackWrongFalsely : Prop := rangerBackRow.holds Try.pinned (OpenSpec.ofChange rangerBackWrong)

/-- 'hamperlaw13.RangerNobody': WHATEVER THE INPUT: true; the input reads as it did. -/
def rangerNobodySpec : ChangeSpec := { name := "rangerNobody", fn := fun _ => fun
  | [d] => { results := [.lit (.bool true)], args := [d] }
  | _ => none }
def rangerNobodyRow : OpenClaim := { program := "ytiikbpcaeoodjaa", sum := "54b69c880105ad8a8ff12aa0ad71f7b48d5abe51a2e63d86fc8e1b060da4d1bb", func := "hamper/hamperlaw13.RangerNobody", spec := "rangerNobody", unfollowed := true, recurses := true, apart := false }
def RangerNobodySaid : Prop := rangerNobodyRow.holds Try.pinned (OpenSpec.ofChange rangerNobodySpec)

/-- ITS FALSE NEIGHBOUR: 'it returns false'. Refute it at one input. -/
def rangerNobodyWrong : ChangeSpec := { name := "rangerNobody", fn := fun _ => fun
  | [d] => { results := [.lit (.bool false)], args := [d] }
  | _ => none }
def RangerNobodyWrongFalsely : Prop := rangerNobodyRow.holds Try.pinned (OpenSpec.ofChange rangerNobodyWrong)

/- THE SECOND FORM. 'bulk': how many values and letters a reading holds, each counted each time it is reached (what is shared counts as often as it is met; a slice's spare places count too). A statement '..UptoSaid' is the law's where the arguments, and the package variables that the reading takes, are together of bulk at most 1048576: NARROWER than '..Said'. Prove '..Said' where nothing that the law and all that it calls make is longer than what came in: it says more and counts as full. Else prove '..UptoSaid'. A law counts once. -/
mutual
def uptoBulk {H : Type} : DataW H → Nat
  | .lit (.string bytes) => bytes.length + 1
  | .lit _ => 1
  | .nil => 1
  | .ptr d => uptoBulk d + 1
  | .slice elems spare => uptoBulkAll elems + uptoBulkAll spare + 1
  | .agg parts => uptoBulkAll parts + 1
  | .iface _ d => uptoBulk d + 1
  | .map entries => uptoBulkEntries entries + 1
  | .held _ => 1
def uptoBulkAll {H : Type} : List (DataW H) → Nat
  | [] => 0
  | d :: r => uptoBulk d + uptoBulkAll r
def uptoBulkEntries {H : Type} : List (Lit × DataW H) → Nat
  | [] => 0
  | x :: r => uptoBulkEntry x + uptoBulkEntries r
def uptoBulkEntry {H : Type} : Lit × DataW H → Nat
  | (.string bytes, d) => bytes.length + uptoBulk d + 1
  | (_, d) => uptoBulk d + 1
 end
def uptoSmall : (H : Type) → List (DataW H) → Bool := fun _ ds => decide (uptoBulkAll ds ≤ 1048576)
def OpenSpec.upto (s : _root_.Go.ChangeSpec) : _root_.Go.OpenSpec := { _root_.Go.OpenSpec.ofChange s with cond := some uptoSmall }

/-- 'hamperlaw13.RangerLikely', WHERE WHAT IT READS IS OF BULK AT MOST 1048576: true; the input reads as it did. -/
def rangerLikelyUptoRow : OpenClaim := { program := "ytiikbpcaeoodjaa", sum := "54b69c880105ad8a8ff12aa0ad71f7b48d5abe51a2e63d86fc8e1b060da4d1bb", func := "hamper/hamperlaw13.RangerLikely", spec := "rangerLikely", apart := false, narrowed := true }
def RangerLikelyUptoSaid : Prop := rangerLikelyUptoRow.holds Try.pinned (OpenSpec.upto rangerLikelySpec)

/-- 'hamperlaw13.RangerWrites', WHERE WHAT IT READS IS OF BULK AT MOST 1048576: true; the input reads as it did. -/
def rangerWritesUptoRow : OpenClaim := { program := "ytiikbpcaeoodjaa", sum := "54b69c880105ad8a8ff12aa0ad71f7b48d5abe51a2e63d86fc8e1b060da4d1bb", func := "hamper/hamperlaw13.RangerWrites", spec := "rangerWrites", unfollowed := true, recurses := true, apart := false, narrowed := true }
def RangerWritesUptoSaid : Prop := rangerWritesUptoRow.holds Try.pinned (OpenSpec.upto rangerWritesSpec)

/-- 'hamperlaw13.RangerReads', WHERE WHAT IT READS IS OF BULK AT MOST 1048576: true; the input reads as it did. -/
def rangerReadsUptoRow : OpenClaim := { program := "ytiikbpcaeoodjaa", sum := "54b69c880105ad8a8ff12aa0ad71f7b48d5abe51a2e63d86fc8e1b060da4d1bb", func := "hamper/hamperlaw13.RangerReads", spec := "rangerReads", unfollowed := true, recurses := true, apart := false, narrowed := true }
def RangerReadsUptoSaid : Prop := rangerReadsUptoRow.holds Try.pinned (OpenSpec.upto rangerReadsSpec)

/-- 'hamperlaw13.RangerBack', WHERE WHAT IT READS IS OF BULK AT MOST 1048576: true; the input reads as it did. -/
def rangerBackUptoRow : OpenClaim := { program := "ytiikbpcaeoodjaa", sum := "54b69c880105ad8a8ff12aa0ad71f7b48d5abe51a2e63d86fc8e1b060da4d1bb", func := "hamper/hamperlaw13.RangerBack", spec := "rangerBack", unfollowed := true, recurses := true, apart := false, narrowed := true }
def RangerBackUptoSaid : Prop := rangerBackUptoRow.holds Try.pinned (OpenSpec.upto rangerBackSpec)

/-- 'hamperlaw13.RangerNobody', WHERE WHAT IT READS IS OF BULK AT MOST 1048576: true; the input reads as it did. -/
def rangerNobodyUptoRow : OpenClaim := { program := "ytiikbpcaeoodjaa", sum := "54b69c880105ad8a8ff12aa0ad71f7b48d5abe51a2e63d86fc8e1b060da4d1bb", func := "hamper/hamperlaw13.RangerNobody", spec := "rangerNobody", unfollowed := true, recurses := true, apart := false, narrowed := true }
def RangerNobodyUptoSaid : Prop := rangerNobodyUptoRow.holds Try.pinned (OpenSpec.upto rangerNobodySpec)

end Rows
end Go.Proofs.Ytiikbpcaeoodjaa
