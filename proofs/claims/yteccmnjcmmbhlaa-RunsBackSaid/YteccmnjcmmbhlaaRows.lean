/-
  No cell of these rows narrows 'for every input' (looked for: loops, veiled, ifaces, maps, wideKeys, modest, calm, conditions, laid).
  DERIVED. THE GIVEN ROWS OF THIS SEAT. 6 by the template 'for every input the law returns true; each argument reads behind the call as it read before'; 0 by the template 'total and deterministic' (their statements: YteccmnjcmmbhlaaTotals.lean).
  GIVEN WITH THE SEED: the statements are not yours to turn. If you find one false, say at which input.
  Laid BY PROGRAM, IN A SANDBOX (cutbox-rows.mjs): the forced cells as the released guide's own fill.sh prints them over the translation f0fe45d435c38b74… (all of the seat's roots in one cut). By AI agents, Wed Nov 11 2026. No macro, syntax, notation, axiom, sorry.
-/
import Derived.Test.YteccmnjcmmbhlaaChecked
import GoSem.Claim
import GoSem.ClaimJoined
import GoSem.ClaimMapViews
import Derived.JoinedTies
import Derived.KernelRfl
namespace Go.Proofs.Yteccmnjcmmbhlaa
/- THE CELL 'sum', in the pinned program and in every row, IS THE sha256 OF THE DUMP (.gsa) THAT YteccmnjcmmbhlaaProg.lean LOADS. Nothing in Lean hashes anything: it is a label: what it is worth is what the hold of that sum in a sandbox is worth. -/
noncomputable def Try.pinned : Pinned := { name := "yteccmnjcmmbhlaa", sum := "f0fe45d435c38b74d47170038e91df76c82d0499c4a6f0970d8db555c4e2d145", checked := Try.checked }
namespace Rows
def none {H : Type} : Left H := { results := [], args := [] }

/-- 'hamperlaw10.SuffixBack': WHATEVER THE INPUT: true; the input reads as it did. -/
def suffixBackSpec : ChangeSpec := { name := "suffixBack", fn := fun _ => fun
  | [d1, d2] => { results := [.lit (.bool true)], args := [d1, d2] }
  | _ => none }
def suffixBackRow : OpenClaim := { program := "yteccmnjcmmbhlaa", sum := "f0fe45d435c38b74d47170038e91df76c82d0499c4a6f0970d8db555c4e2d145", func := "hamper/hamperlaw10.SuffixBack", spec := "suffixBack", apart := false }
def SuffixBackSaid : Prop := suffixBackRow.holds Try.pinned (OpenSpec.ofChange suffixBackSpec)

/-- ITS FALSE NEIGHBOUR: 'it returns false'. Refute it at one input. -/
def suffixBackWrong : ChangeSpec := { name := "suffixBack", fn := fun _ => fun
  | [d1, d2] => { results := [.lit (.bool false)], args := [d1, d2] }
  | _ => none }
def SuffixBackWrongFalsely : Prop := suffixBackRow.holds Try.pinned (OpenSpec.ofChange suffixBackWrong)

/-- 'hamperlaw11.RunsSymbols': WHATEVER THE INPUT: true; the input reads as it did. -/
def runsSymbolsSpec : ChangeSpec := { name := "runsSymbols", fn := fun _ => fun
  | [d1, d2, d3] => { results := [.lit (.bool true)], args := [d1, d2, d3] }
  | _ => none }
def runsSymbolsRow : OpenClaim := { program := "yteccmnjcmmbhlaa", sum := "f0fe45d435c38b74d47170038e91df76c82d0499c4a6f0970d8db555c4e2d145", func := "hamper/hamperlaw11.RunsSymbols", spec := "runsSymbols", unfollowed := true, recurses := true, apart := false }
def RunsSymbolsSaid : Prop := runsSymbolsRow.holds Try.pinned (OpenSpec.ofChange runsSymbolsSpec)

/-- ITS FALSE NEIGHBOUR: 'it returns false'. Refute it at one input. -/
def runsSymbolsWrong : ChangeSpec := { name := "runsSymbols", fn := fun _ => fun
  | [d1, d2, d3] => { results := [.lit (.bool false)], args := [d1, d2, d3] }
  | _ => none }
def RunsSymbolsWrongFalsely : Prop := runsSymbolsRow.holds Try.pinned (OpenSpec.ofChange runsSymbolsWrong)

/-- 'hamperlaw11.RunsPacks': WHATEVER THE INPUT: true; the input reads as it did. -/
def runsPacksSpec : ChangeSpec := { name := "runsPacks", fn := fun _ => fun
  | [d1, d2] => { results := [.lit (.bool true)], args := [d1, d2] }
  | _ => none }
def runsPacksRow : OpenClaim := { program := "yteccmnjcmmbhlaa", sum := "f0fe45d435c38b74d47170038e91df76c82d0499c4a6f0970d8db555c4e2d145", func := "hamper/hamperlaw11.RunsPacks", spec := "runsPacks", inPlace := ["internal/bytealg.MakeNoZero"], apart := false }
def RunsPacksSaid : Prop := runsPacksRow.holds Try.pinned (OpenSpec.ofChange runsPacksSpec)

/-- ITS FALSE NEIGHBOUR: 'it returns false'. Refute it at one input. -/
def runsPacksWrong : ChangeSpec := { name := "runsPacks", fn := fun _ => fun
  | [d1, d2] => { results := [.lit (.bool false)], args := [d1, d2] }
  | _ => none }
def RunsPacksWrongFalsely : Prop := runsPacksRow.holds Try.pinned (OpenSpec.ofChange runsPacksWrong)

/-- 'hamperlaw11.RunsShort': WHATEVER THE INPUT: true; the input reads as it did. -/
def runsShortSpec : ChangeSpec := { name := "runsShort", fn := fun _ => fun
  | [d] => { results := [.lit (.bool true)], args := [d] }
  | _ => none }
def runsShortRow : OpenClaim := { program := "yteccmnjcmmbhlaa", sum := "f0fe45d435c38b74d47170038e91df76c82d0499c4a6f0970d8db555c4e2d145", func := "hamper/hamperlaw11.RunsShort", spec := "runsShort", unfollowed := true, recurses := true, apart := false }
def RunsShortSaid : Prop := runsShortRow.holds Try.pinned (OpenSpec.ofChange runsShortSpec)

/-- ITS FALSE NEIGHBOUR: 'it returns false'. Refute it at one input. -/
def runsShortWrong : ChangeSpec := { name := "runsShort", fn := fun _ => fun
  | [d] => { results := [.lit (.bool false)], args := [d] }
  | _ => none }
def RunsShortWrongFalsely : Prop := runsShortRow.holds Try.pinned (OpenSpec.ofChange runsShortWrong)

/-- 'hamperlaw11.RunsFronts': WHATEVER THE INPUT: true; the input reads as it did. -/
def runsFrontsSpec : ChangeSpec := { name := "runsFronts", fn := fun _ => fun
  | [d1, d2, d3] => { results := [.lit (.bool true)], args := [d1, d2, d3] }
  | _ => none }
def runsFrontsRow : OpenClaim := { program := "yteccmnjcmmbhlaa", sum := "f0fe45d435c38b74d47170038e91df76c82d0499c4a6f0970d8db555c4e2d145", func := "hamper/hamperlaw11.RunsFronts", spec := "runsFronts", unfollowed := true, recurses := true, apart := false }
def RunsFrontsSaid : Prop := runsFrontsRow.holds Try.pinned (OpenSpec.ofChange runsFrontsSpec)

/-- ITS FALSE NEIGHBOUR: 'it returns false'. Refute it at one input. -/
def runsFrontsWrong : ChangeSpec := { name := "runsFronts", fn := fun _ => fun
  | [d1, d2, d3] => { results := [.lit (.bool false)], args := [d1, d2, d3] }
  | _ => none }
def RunsFrontsWrongFalsely : Prop := runsFrontsRow.holds Try.pinned (OpenSpec.ofChange runsFrontsWrong)

/-- 'hamperlaw11.RunsBack': WHATEVER THE INPUT: true; the input reads as it did. -/
def runsBackSpec : ChangeSpec := { name := "runsBack", fn := fun _ => fun
  | [d] => { results := [.lit (.bool true)], args := [d] }
  | _ => none }
def runsBackRow : OpenClaim := { program := "yteccmnjcmmbhlaa", sum := "f0fe45d435c38b74d47170038e91df76c82d0499c4a6f0970d8db555c4e2d145", func := "hamper/hamperlaw11.RunsBack", spec := "runsBack", inPlace := ["internal/bytealg.MakeNoZero"], unfollowed := true, recurses := true, apart := false }
def RunsBackSaid : Prop := runsBackRow.holds Try.pinned (OpenSpec.ofChange runsBackSpec)

/-- ITS FALSE NEIGHBOUR: 'it returns false'. Refute it at one input. -/
def runsBackWrong : ChangeSpec := { name := "runsBack", fn := fun _ => fun
  | [d] => { results := [.lit (.bool false)], args := [d] }
  | _ => none }
def RunsBackWrongFalsely : Prop := runsBackRow.holds Try.pinned (OpenSpec.ofChange runsBackWrong)

/- THE SECOND FORM. 'bulk': how many values and letters a reading holds, each counted each time it is reached (what is shared counts as often as it is met; a slice's spare places count too). A statement '..UptoSaid' is the law's where the arguments, and the package variables that the reading takes, are together of bulk at most 1048576: NARROWER than '..Said'. Prove '..Said' where nothing that the law and all that it calls make is longer than what came in: it says more and counts as full. Else prove '..UptoSaid'. A law counts once. -/
mutual
def uptoBulk {H : Type} : DataW H → Nat
  | .lit (.string bytes) => bytes.length + 1
  | .lit _ => 1
  | .nil => 1
  | .ptr d => uptoBulk d + 1
  | .slice elems spare => uptoBulkAll elems + uptoBulkAll spare + 1
  | .agg parts => uptoBulkAll parts + 1
  | .iface _ d => uptoBulk d + 1
  | .map entries => uptoBulkEntries entries + 1
  | .held _ => 1
def uptoBulkAll {H : Type} : List (DataW H) → Nat
  | [] => 0
  | d :: r => uptoBulk d + uptoBulkAll r
def uptoBulkEntries {H : Type} : List (Lit × DataW H) → Nat
  | [] => 0
  | x :: r => uptoBulkEntry x + uptoBulkEntries r
def uptoBulkEntry {H : Type} : Lit × DataW H → Nat
  | (.string bytes, d) => bytes.length + uptoBulk d + 1
  | (_, d) => uptoBulk d + 1
 end
def uptoSmall : (H : Type) → List (DataW H) → Bool := fun _ ds => decide (uptoBulkAll ds ≤ 1048576)
def OpenSpec.upto (s : _root_.Go.ChangeSpec) : _root_.Go.OpenSpec := { _root_.Go.OpenSpec.ofChange s with cond := some uptoSmall }

/-- 'hamperlaw10.SuffixBack', WHERE WHAT IT READS IS OF BULK AT MOST 1048576: true; the input reads as it did. -/
def suffixBackUptoRow : OpenClaim := { program := "yteccmnjcmmbhlaa", sum := "f0fe45d435c38b74d47170038e91df76c82d0499c4a6f0970d8db555c4e2d145", func := "hamper/hamperlaw10.SuffixBack", spec := "suffixBack", apart := false, narrowed := true }
def SuffixBackUptoSaid : Prop := suffixBackUptoRow.holds Try.pinned (OpenSpec.upto suffixBackSpec)

/-- 'hamperlaw11.RunsSymbols', WHERE WHAT IT READS IS OF BULK AT MOST 1048576: true; the input reads as it did. -/
def runsSymbolsUptoRow : OpenClaim := { program := "yteccmnjcmmbhlaa", sum := "f0fe45d435c38b74d47170038e91df76c82d0499c4a6f0970d8db555c4e2d145", func := "hamper/hamperlaw11.RunsSymbols", spec := "runsSymbols", unfollowed := true, recurses := true, apart := false, narrowed := true }
def RunsSymbolsUptoSaid : Prop := runsSymbolsUptoRow.holds Try.pinned (OpenSpec.upto runsSymbolsSpec)

/-- 'hamperlaw11.RunsPacks', WHERE WHAT IT READS IS OF BULK AT MOST 1048576: true; the input reads as it did. -/
def runsPacksUptoRow : OpenClaim := { program := "yteccmnjcmmbhlaa", sum := "f0fe45d435c38b74d47170038e91df76c82d0499c4a6f0970d8db555c4e2d145", func := "hamper/hamperlaw11.RunsPacks", spec := "runsPacks", inPlace := ["internal/bytealg.MakeNoZero"], apart := false, narrowed := true }
def RunsPacksUptoSaid : Prop := runsPacksUptoRow.holds Try.pinned (OpenSpec.upto runsPacksSpec)

/-- 'hamperlaw11.RunsShort', WHERE WHAT IT READS IS OF BULK AT MOST 1048576: true; the input reads as it did. -/
def runsShortUptoRow : OpenClaim := { program := "yteccmnjcmmbhlaa", sum := "f0fe45d435c38b74d47170038e91df76c82d0499c4a6f0970d8db555c4e2d145", func := "hamper/hamperlaw11.RunsShort", spec := "runsShort", unfollowed := true, recurses := true, apart := false, narrowed := true }
def RunsShortUptoSaid : Prop := runsShortUptoRow.holds Try.pinned (OpenSpec.upto runsShortSpec)

/-- 'hamperlaw11.RunsFronts', WHERE WHAT IT READS IS OF BULK AT MOST 1048576: true; the input reads as it did. -/
def runsFrontsUptoRow : OpenClaim := { program := "yteccmnjcmmbhlaa", sum := "f0fe45d435c38b74d47170038e91df76c82d0499c4a6f0970d8db555c4e2d145", func := "hamper/hamperlaw11.RunsFronts", spec := "runsFronts", unfollowed := true, recurses := true, apart := false, narrowed := true }
def RunsFrontsUptoSaid : Prop := runsFrontsUptoRow.holds Try.pinned (OpenSpec.upto runsFrontsSpec)

/-- 'hamperlaw11.RunsBack', WHERE WHAT IT READS IS OF BULK AT MOST 1048576: true; the input reads as it did. -/
def runsBackUptoRow : OpenClaim := { program := "yteccmnjcmmbhlaa", sum := "f0fe45d435c38b74d47170038e91df76c82d0499c4a6f0970d8db555c4e2d145", func := "hamper/hamperlaw11.RunsBack", spec := "runsBack", inPlace := ["internal/bytealg.MakeNoZero"], unfollowed := true, recurses := true, apart := false, narrowed := true }
def RunsBackUptoSaid : Prop := runsBackUptoRow.holds Try.pinned (OpenSpec.upto runsBackSpec)

end Rows
end Go.Proofs.Yteccmnjcmmbhlaa
