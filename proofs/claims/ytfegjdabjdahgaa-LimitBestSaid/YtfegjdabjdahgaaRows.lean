/-
  No cell of these rows narrows 'for every input' (looked for: loops, veiled, ifaces, maps, wideKeys, modest, calm, conditions, laid).
  DERIVED. THE GIVEN ROWS OF THIS SEAT. 3 by the template 'for every input the law returns true; each argument reads behind the call as it read before'; 0 by the template 'total and deterministic' (their statements: YtfegjdabjdahgaaTotals.lean).
  GIVEN WITH THE SEED: the statements are not yours to turn. If you find one false, say at which input.
  Laid BY PROGRAM, IN A SANDBOX (cutbox-rows.mjs): the forced cells as the released guide's own fill.sh prints them over the translation 350c39cdd99ea0e9… (all of the seat's roots in one cut). By AI agents, Wed Nov 11 2026. No macro, syntax, notation, axiom, sorry.
-/
import Derived.Test.YtfegjdabjdahgaaChecked
import GoSem.Claim
import GoSem.ClaimJoined
import GoSem.ClaimMapViews
import Derived.JoinedTies
import Derived.KernelRfl
namespace Go.Proofs.Ytfegjdabjdahgaa
/- THE CELL 'sum', in the pinned program and in every row, IS THE sha256 OF THE DUMP (.gsa) THAT YtfegjdabjdahgaaProg.lean LOADS. Nothing in Lean hashes anything: it is a label: what it is worth is what the hold of that sum in a sandbox is worth. -/
noncomputable def Try.pinned : Pinned := { name := "ytfegjdabjdahgaa", sum := "350c39cdd99ea0e9e43bf32ded358768ee6365edcf4d188adbb8bcbf8197fdab", checked := Try.checked }
namespace Rows
def none {H : Type} : Left H := { results := [], args := [] }

/-- 'hamperlaw05.LimitTells': WHATEVER THE INPUT: true; the input reads as it did. -/
def limitTellsSpec : ChangeSpec := { name := "limitTells", fn := fun _ => fun
  | [d1, d2] => { results := [.lit (.bool true)], args := [d1, d2] }
  | _ => none }
def limitTellsRow : OpenClaim := { program := "ytfegjdabjdahgaa", sum := "350c39cdd99ea0e9e43bf32ded358768ee6365edcf4d188adbb8bcbf8197fdab", func := "hamper/hamperlaw05.LimitTells", spec := "limitTells", unfollowed := true, recurses := true, apart := false }
def LimitTellsSaid : Prop := limitTellsRow.holds Try.pinned (OpenSpec.ofChange limitTellsSpec)

/-- ITS FALSE NEIGHBOUR: 'it returns false'. Refute it at one input. -/
def limitTellsWrong : ChangeSpec := { name := "limitTells", fn := fun _ => fun
  | [d1, d2] => { results := [.lit (.bool false)], args := [d1, d2] }
  | _ => none }
def LimitTellsWrongFalsely : Prop := limitTellsRow.holds Try.pinned (OpenSpec.ofChange limitTellsWrong)

/-- 'hamperlaw05.LimitBest': WHATEVER THE INPUT: true; the input reads as it did. -/
def limitBestSpec : ChangeSpec := { name := "limitBest", fn := fun _ => fun
  | [d1, d2, d3] => { results := [.lit (.bool true)], args := [d1, d2, d3] }
  | _ => none }
def limitBestRow : OpenClaim := { program := "ytfegjdabjdahgaa", sum := "350c39cdd99ea0e9e43bf32ded358768ee6365edcf4d188adbb8bcbf8197fdab", func := "hamper/hamperlaw05.LimitBest", spec := "limitBest", unfollowed := true, recurses := true, apart := false }
def LimitBestSaid : Prop := limitBestRow.holds Try.pinned (OpenSpec.ofChange limitBestSpec)

/-- ITS FALSE NEIGHBOUR: 'it returns false'. Refute it at one input. -/
def limitBestWrong : ChangeSpec := { name := "limitBest", fn := fun _ => fun
  | [d1, d2, d3] => { results := [.lit (.bool false)], args := [d1, d2, d3] }
  | _ => none }
def LimitBestWrongFalsely : Prop := limitBestRow.holds Try.pinned (OpenSpec.ofChange limitBestWrong)

/-- 'hamperlaw05.LimitMore': WHATEVER THE INPUT: true; the input reads as it did. -/
def limitMoreSpec : ChangeSpec := { name := "limitMore", fn := fun _ => fun
  | [d1, d2] => { results := [.lit (.bool true)], args := [d1, d2] }
  | _ => none }
def limitMoreRow : OpenClaim := { program := "ytfegjdabjdahgaa", sum := "350c39cdd99ea0e9e43bf32ded358768ee6365edcf4d188adbb8bcbf8197fdab", func := "hamper/hamperlaw05.LimitMore", spec := "limitMore", unfollowed := true, recurses := true, apart := false }
def LimitMoreSaid : Prop := limitMoreRow.holds Try.pinned (OpenSpec.ofChange limitMoreSpec)

/-- ITS FALSE NEIGHBOUR: 'it returns false'. Refute it at one input. -/
def limitMoreWrong : ChangeSpec := { name := "limitMore", fn := fun _ => fun
  | [d1, d2] => { results := [.lit (.bool false)], args := [d1, d2] }
  | _ => none }
def LimitMoreWrongFalsely : Prop := limitMoreRow.holds Try.pinned (OpenSpec.ofChange limitMoreWrong)

/- THE SECOND FORM. 'bulk': how many values and letters a reading holds, each counted each time it is reached (what is shared counts as often as it is met; a slice's spare places count too). A statement '..UptoSaid' is the law's where the arguments, and the package variables that the reading takes, are together of bulk at most 1048576: NARROWER than '..Said'. Prove '..Said' where nothing that the law and all that it calls make is longer than what came in: it says more and counts as full. Else prove '..UptoSaid'. A law counts once. -/
mutual
def uptoBulk {H : Type} : DataW H → Nat
  | .lit (.string bytes) => bytes.length + 1
  | .lit _ => 1
  | .nil => 1
  | .ptr d => uptoBulk d + 1
  | .slice elems spare => uptoBulkAll elems + uptoBulkAll spare + 1
  | .agg parts => uptoBulkAll parts + 1
  | .iface _ d => uptoBulk d + 1
  | .map entries => uptoBulkEntries entries + 1
  | .held _ => 1
def uptoBulkAll {H : Type} : List (DataW H) → Nat
  | [] => 0
  | d :: r => uptoBulk d + uptoBulkAll r
def uptoBulkEntries {H : Type} : List (Lit × DataW H) → Nat
  | [] => 0
  | x :: r => uptoBulkEntry x + uptoBulkEntries r
def uptoBulkEntry {H : Type} : Lit × DataW H → Nat
  | (.string bytes, d) => bytes.length + uptoBulk d + 1
  | (_, d) => uptoBulk d + 1
 end
def uptoSmall : (H : Type) → List (DataW H) → Bool := fun _ ds => decide (uptoBulkAll ds ≤ 1048576)
def OpenSpec.upto (s : _root_.Go.ChangeSpec) : _root_.Go.OpenSpec := { _root_.Go.OpenSpec.ofChange s with cond := some uptoSmall }

/-- 'hamperlaw05.LimitTells', WHERE WHAT IT READS IS OF BULK AT MOST 1048576: true; the input reads as it did. -/
def limitTellsUptoRow : OpenClaim := { program := "ytfegjdabjdahgaa", sum := "350c39cdd99ea0e9e43bf32ded358768ee6365edcf4d188adbb8bcbf8197fdab", func := "hamper/hamperlaw05.LimitTells", spec := "limitTells", unfollowed := true, recurses := true, apart := false, narrowed := true }
def LimitTellsUptoSaid : Prop := limitTellsUptoRow.holds Try.pinned (OpenSpec.upto limitTellsSpec)

/-- 'hamperlaw05.LimitBest', WHERE WHAT IT READS IS OF BULK AT MOST 1048576: true; the input reads as it did. -/
def limitBestUptoRow : OpenClaim := { program := "ytfegjdabjdahgaa", sum := "350c39cdd99ea0e9e43bf32ded358768ee6365edcf4d188adbb8bcbf8197fdab", func := "hamper/hamperlaw05.LimitBest", spec := "limitBest", unfollowed := true, recurses := true, apart := false, narrowed := true }
def LimitBestUptoSaid : Prop := limitBestUptoRow.holds Try.pinned (OpenSpec.upto limitBestSpec)

/-- 'hamperlaw05.LimitMore', WHERE WHAT IT READS IS OF BULK AT MOST 1048576: true; the input reads as it did. -/
def limitMoreUptoRow : OpenClaim := { program := "ytfegjdabjdahgaa", sum := "350c39cdd99ea0e9e43bf32ded358768ee6365edcf4d188adbb8bcbf8197fdab", func := "hamper/hamperlaw05.LimitMore", spec := "limitMore", unfollowed := true, recurses := true, apart := false, narrowed := true }
def LimitMoreUptoSaid : Prop := limitMoreUptoRow.holds Try.pinned (OpenSpec.upto limitMoreSpec)

end Rows
end Go.Proofs.Ytfegjdabjdahgaa
