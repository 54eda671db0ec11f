/-
  No cell of these rows narrows 'for every input' (looked for: loops, veiled, ifaces, maps, wideKeys, modest, calm, conditions, laid).
  DERIVED. THE GIVEN ROWS OF THIS SEAT. 5 by the template 'for every input the law returns true; each argument reads behind the call as it read before'; 0 by the template 'total and deterministic' (their statements: YtofalbbbnhnadaaTotals.lean).
  GIVEN WITH THE SEED: the statements are not yours to turn. If you find one false, say at which input.
  Laid BY PROGRAM, IN A SANDBOX (cutbox-rows.mjs): the forced cells as the released guide's own fill.sh prints them over the translation d81d4ef3e7a9d025… (all of the seat's roots in one cut). By AI agents, Wed Nov 11 2026. No macro, syntax, notation, axiom, sorry.
-/
import Derived.Test.YtofalbbbnhnadaaChecked
import GoSem.Claim
import GoSem.ClaimJoined
import GoSem.ClaimMapViews
import Derived.JoinedTies
import Derived.KernelRfl
namespace Go.Proofs.Ytofalbbbnhnadaa
/- THE CELL 'sum', in the pinned program and in every row, IS THE sha256 OF THE DUMP (.gsa) THAT YtofalbbbnhnadaaProg.lean LOADS. Nothing in Lean hashes anything: it is a label: what it is worth is what the hold of that sum in a sandbox is worth. -/
noncomputable def Try.pinned : Pinned := { name := "ytofalbbbnhnadaa", sum := "d81d4ef3e7a9d02515e8ee15297f7d6c23f81575917110ab68f755f998675141", checked := Try.checked }
namespace Rows
def none {H : Type} : Left H := { results := [], args := [] }

/-- 'hamperlaw04.PrefixMakes': WHATEVER THE INPUT: true; the input reads as it did. -/
def prefixMakesSpec : ChangeSpec := { name := "prefixMakes", fn := fun _ => fun
  | [d1, d2, d3] => { results := [.lit (.bool true)], args := [d1, d2, d3] }
  | _ => none }
def prefixMakesRow : OpenClaim := { program := "ytofalbbbnhnadaa", sum := "d81d4ef3e7a9d02515e8ee15297f7d6c23f81575917110ab68f755f998675141", func := "hamper/hamperlaw04.PrefixMakes", spec := "prefixMakes", unfollowed := true, recurses := true, apart := false }
def PrefixMakesSaid : Prop := prefixMakesRow.holds Try.pinned (OpenSpec.ofChange prefixMakesSpec)

/-- ITS FALSE NEIGHBOUR: 'it returns false'. Refute it at one input. -/
def prefixMakesWrong : ChangeSpec := { name := "prefixMakes", fn := fun _ => fun
  | [d1, d2, d3] => { results := [.lit (.bool false)], args := [d1, d2, d3] }
  | _ => none }
def PrefixMakesWrongFalsely : Prop := prefixMakesRow.holds Try.pinned (OpenSpec.ofChange prefixMakesWrong)

/-- 'hamperlaw04.PrefixNobody': WHATEVER THE INPUT: true; the input reads as it did. -/
def prefixNobodySpec : ChangeSpec := { name := "prefixNobody", fn := fun _ => fun
  | [d1, d2] => { results := [.lit (.bool true)], args := [d1, d2] }
  | _ => none }
def prefixNobodyRow : OpenClaim := { program := "ytofalbbbnhnadaa", sum := "d81d4ef3e7a9d02515e8ee15297f7d6c23f81575917110ab68f755f998675141", func := "hamper/hamperlaw04.PrefixNobody", spec := "prefixNobody", apart := false }
def PrefixNobodySaid : Prop := prefixNobodyRow.holds Try.pinned (OpenSpec.ofChange prefixNobodySpec)

/-- ITS FALSE NEIGHBOUR: 'it returns false'. Refute it at one input. -/
def prefixNobodyWrong : ChangeSpec := { name := "prefixNobody", fn := fun _ => fun
  | [d1, d2] => { results := [.lit (.bool false)], args := [d1, d2] }
  | _ => none }
def PrefixNobodyWrongFalsely : Prop := prefixNobodyRow.holds Try.pinned (OpenSpec.ofChange prefixNobodyWrong)

/-- 'hamperlaw04.PrefixCodes': WHATEVER THE INPUT: true; the input reads as it did. -/
def prefixCodesSpec : ChangeSpec := { name := "prefixCodes", fn := fun _ => fun
  | [d1, d2, d3] => { results := [.lit (.bool true)], args := [d1, d2, d3] }
  | _ => none }
def prefixCodesRow : OpenClaim := { program := "ytofalbbbnhnadaa", sum := "d81d4ef3e7a9d02515e8ee15297f7d6c23f81575917110ab68f755f998675141", func := "hamper/hamperlaw04.PrefixCodes", spec := "prefixCodes", unfollowed := true, recurses := true, apart := false }
def PrefixCodesSaid : Prop := prefixCodesRow.holds Try.pinned (OpenSpec.ofChange prefixCodesSpec)

/-- ITS FALSE NEIGHBOUR: 'it returns false'. Refute it at one input. -/
def prefixCodesWrong : ChangeSpec := { name := "prefixCodes", fn := fun _ => fun
  | [d1, d2, d3] => { results := [.lit (.bool false)], args := [d1, d2, d3] }
  | _ => none }
def PrefixCodesWrongFalsely : Prop := prefixCodesRow.holds Try.pinned (OpenSpec.ofChange prefixCodesWrong)

/-- 'hamperlaw04.PrefixBack': WHATEVER THE INPUT: true; the input reads as it did. -/
def prefixBackSpec : ChangeSpec := { name := "prefixBack", fn := fun _ => fun
  | [d1, d2] => { results := [.lit (.bool true)], args := [d1, d2] }
  | _ => none }
def prefixBackRow : OpenClaim := { program := "ytofalbbbnhnadaa", sum := "d81d4ef3e7a9d02515e8ee15297f7d6c23f81575917110ab68f755f998675141", func := "hamper/hamperlaw04.PrefixBack", spec := "prefixBack", unfollowed := true, recurses := true, apart := false }
def PrefixBackSaid : Prop := prefixBackRow.holds Try.pinned (OpenSpec.ofChange prefixBackSpec)

/-- ITS FALSE NEIGHBOUR: 'it returns false'. Refute it at one input. -/
def prefixBackWrong : ChangeSpec := { name := "prefixBack", fn := fun _ => fun
  | [d1, d2] => { results := [.lit (.bool false)], args := [d1, d2] }
  | _ => none }
def PrefixBackWrongFalsely : Prop := prefixBackRow.holds Try.pinned (OpenSpec.ofChange prefixBackWrong)

/-- 'hamperlaw04.PrefixReads': WHATEVER THE INPUT: true; the input reads as it did. -/
def prefixReadsSpec : ChangeSpec := { name := "prefixReads", fn := fun _ => fun
  | [d1, d2, d3] => { results := [.lit (.bool true)], args := [d1, d2, d3] }
  | _ => none }
def prefixReadsRow : OpenClaim := { program := "ytofalbbbnhnadaa", sum := "d81d4ef3e7a9d02515e8ee15297f7d6c23f81575917110ab68f755f998675141", func := "hamper/hamperlaw04.PrefixReads", spec := "prefixReads", unfollowed := true, recurses := true, apart := false }
def PrefixReadsSaid : Prop := prefixReadsRow.holds Try.pinned (OpenSpec.ofChange prefixReadsSpec)

/-- ITS FALSE NEIGHBOUR: 'it returns false'. Refute it at one input. -/
def prefixReadsWrong : ChangeSpec := { name := "prefixReads", fn := fun _ => fun
  | [d1, d2, d3] => { results := [.lit (.bool false)], args := [d1, d2, d3] }
  | _ => none }
def PrefixReadsWrongFalsely : Prop := prefixReadsRow.holds Try.pinned (OpenSpec.ofChange prefixReadsWrong)

/- THE SECOND FORM. 'bulk': how many values and letters a reading holds, each counted each time it is reached (what is shared counts as often as it is met; a slice's spare places count too). A statement '..UptoSaid' is the law's where the arguments, and the package variables that the reading takes, are together of bulk at most 1048576: NARROWER than '..Said'. Prove '..Said' where nothing that the law and all that it calls make is longer than what came in: it says more and counts as full. Else prove '..UptoSaid'. A law counts once. -/
mutual
def uptoBulk {H : Type} : DataW H → Nat
  | .lit (.string bytes) => bytes.length + 1
  | .lit _ => 1
  | .nil => 1
  | .ptr d => uptoBulk d + 1
  | .slice elems spare => uptoBulkAll elems + uptoBulkAll spare + 1
  | .agg parts => uptoBulkAll parts + 1
  | .iface _ d => uptoBulk d + 1
  | .map entries => uptoBulkEntries entries + 1
  | .held _ => 1
def uptoBulkAll {H : Type} : List (DataW H) → Nat
  | [] => 0
  | d :: r => uptoBulk d + uptoBulkAll r
def uptoBulkEntries {H : Type} : List (Lit × DataW H) → Nat
  | [] => 0
  | x :: r => uptoBulkEntry x + uptoBulkEntries r
def uptoBulkEntry {H : Type} : Lit × DataW H → Nat
  | (.string bytes, d) => bytes.length + uptoBulk d + 1
  | (_, d) => uptoBulk d + 1
 end
def uptoSmall : (H : Type) → List (DataW H) → Bool := fun _ ds => decide (uptoBulkAll ds ≤ 1048576)
def OpenSpec.upto (s : _root_.Go.ChangeSpec) : _root_.Go.OpenSpec := { _root_.Go.OpenSpec.ofChange s with cond := some uptoSmall }

/-- 'hamperlaw04.PrefixMakes', WHERE WHAT IT READS IS OF BULK AT MOST 1048576: true; the input reads as it did. -/
def prefixMakesUptoRow : OpenClaim := { program := "ytofalbbbnhnadaa", sum := "d81d4ef3e7a9d02515e8ee15297f7d6c23f81575917110ab68f755f998675141", func := "hamper/hamperlaw04.PrefixMakes", spec := "prefixMakes", unfollowed := true, recurses := true, apart := false, narrowed := true }
def PrefixMakesUptoSaid : Prop := prefixMakesUptoRow.holds Try.pinned (OpenSpec.upto prefixMakesSpec)

/-- 'hamperlaw04.PrefixNobody', WHERE WHAT IT READS IS OF BULK AT MOST 1048576: true; the input reads as it did. -/
def prefixNobodyUptoRow : OpenClaim := { program := "ytofalbbbnhnadaa", sum := "d81d4ef3e7a9d02515e8ee15297f7d6c23f81575917110ab68f755f998675141", func := "hamper/hamperlaw04.PrefixNobody", spec := "prefixNobody", apart := false, narrowed := true }
def PrefixNobodyUptoSaid : Prop := prefixNobodyUptoRow.holds Try.pinned (OpenSpec.upto prefixNobodySpec)

/-- 'hamperlaw04.PrefixCodes', WHERE WHAT IT READS IS OF BULK AT MOST 1048576: true; the input reads as it did. -/
def prefixCodesUptoRow : OpenClaim := { program := "ytofalbbbnhnadaa", sum := "d81d4ef3e7a9d02515e8ee15297f7d6c23f81575917110ab68f755f998675141", func := "hamper/hamperlaw04.PrefixCodes", spec := "prefixCodes", unfollowed := true, recurses := true, apart := false, narrowed := true }
def PrefixCodesUptoSaid : Prop := prefixCodesUptoRow.holds Try.pinned (OpenSpec.upto prefixCodesSpec)

/-- 'hamperlaw04.PrefixBack', WHERE WHAT IT READS IS OF BULK AT MOST 1048576: true; the input reads as it did. -/
def prefixBackUptoRow : OpenClaim := { program := "ytofalbbbnhnadaa", sum := "d81d4ef3e7a9d02515e8ee15297f7d6c23f81575917110ab68f755f998675141", func := "hamper/hamperlaw04.PrefixBack", spec := "prefixBack", unfollowed := true, recurses := true, apart := false, narrowed := true }
def PrefixBackUptoSaid : Prop := prefixBackUptoRow.holds Try.pinned (OpenSpec.upto prefixBackSpec)

/-- 'hamperlaw04.PrefixReads', WHERE WHAT IT READS IS OF BULK AT MOST 1048576: true; the input reads as it did. -/
def prefixReadsUptoRow : OpenClaim := { program := "ytofalbbbnhnadaa", sum := "d81d4ef3e7a9d02515e8ee15297f7d6c23f81575917110ab68f755f998675141", func := "hamper/hamperlaw04.PrefixReads", spec := "prefixReads", unfollowed := true, recurses := true, apart := false, narrowed := true }
def PrefixReadsUptoSaid : Prop := prefixReadsUptoRow.holds Try.pinned (OpenSpec.upto prefixReadsSpec)

end Rows
end Go.Proofs.Ytofalbbbnhnadaa
