/-
  No cell of these rows narrows 'for every input' (looked for: loops, veiled, ifaces, maps, wideKeys, modest, calm, conditions, laid).
  DERIVED. THE GIVEN ROWS OF THIS SEAT. 7 by the template 'for every input the law returns true; each argument reads behind the call as it read before'; 0 by the template 'total and deterministic' (their statements: YtoeapobpdfidkaaTotals.lean).
  GIVEN WITH THE SEED: the statements are not yours to turn. If you find one false, say at which input.
  Laid BY PROGRAM, IN A SANDBOX (cutbox-rows.mjs): the forced cells as the released guide's own fill.sh prints them over the translation bd2e8646fb367be9… (all of the seat's roots in one cut). By AI agents, Wed Nov 11 2026. No macro, syntax, notation, axiom, sorry.
-/
import Derived.Test.YtoeapobpdfidkaaChecked
import GoSem.Claim
import GoSem.ClaimJoined
import GoSem.ClaimMapViews
import Derived.JoinedTies
import Derived.KernelRfl
namespace Go.Proofs.Ytoeapobpdfidkaa
/- THE CELL 'sum', in the pinned program and in every row, IS THE sha256 OF THE DUMP (.gsa) THAT YtoeapobpdfidkaaProg.lean LOADS. Nothing in Lean hashes anything: it is a label: what it is worth is what the hold of that sum in a sandbox is worth. -/
noncomputable def Try.pinned : Pinned := { name := "ytoeapobpdfidkaa", sum := "bd2e8646fb367be91656a2aec6430ec43de79da2bb290631eaa489fea588724d", checked := Try.checked }
namespace Rows
def none {H : Type} : Left H := { results := [], args := [] }

/-- 'hamperlaw12.Bzip2Sums': WHATEVER THE INPUT: true; the input reads as it did. -/
def bzip2SumsSpec : ChangeSpec := { name := "bzip2Sums", fn := fun _ => fun
  | [d] => { results := [.lit (.bool true)], args := [d] }
  | _ => none }
def bzip2SumsRow : OpenClaim := { program := "ytoeapobpdfidkaa", sum := "bd2e8646fb367be91656a2aec6430ec43de79da2bb290631eaa489fea588724d", func := "hamper/hamperlaw12.Bzip2Sums", spec := "bzip2Sums", apart := false }
def Bzip2SumsSaid : Prop := bzip2SumsRow.holds Try.pinned (OpenSpec.ofChange bzip2SumsSpec)

/-- ITS FALSE NEIGHBOUR: 'it returns false'. Refute it at one input. -/
def bzip2SumsWrong : ChangeSpec := { name := "bzip2Sums", fn := fun _ => fun
  | [d] => { results := [.lit (.bool false)], args := [d] }
  | _ => none }
def Bzip2SumsWrongFalsely : Prop := bzip2SumsRow.holds Try.pinned (OpenSpec.ofChange bzip2SumsWrong)

/-- 'hamperlaw14.LzmaProps': WHATEVER THE INPUT: true; the input reads as it did. -/
def lzmaPropsSpec : ChangeSpec := { name := "lzmaProps", fn := fun _ => fun
  | [d1, d2] => { results := [.lit (.bool true)], args := [d1, d2] }
  | _ => none }
def lzmaPropsRow : OpenClaim := { program := "ytoeapobpdfidkaa", sum := "bd2e8646fb367be91656a2aec6430ec43de79da2bb290631eaa489fea588724d", func := "hamper/hamperlaw14.LzmaProps", spec := "lzmaProps", apart := false }
def LzmaPropsSaid : Prop := lzmaPropsRow.holds Try.pinned (OpenSpec.ofChange lzmaPropsSpec)

/-- ITS FALSE NEIGHBOUR: 'it returns false'. Refute it at one input. -/
def lzmaPropsWrong : ChangeSpec := { name := "lzmaProps", fn := fun _ => fun
  | [d1, d2] => { results := [.lit (.bool false)], args := [d1, d2] }
  | _ => none }
def LzmaPropsWrongFalsely : Prop := lzmaPropsRow.holds Try.pinned (OpenSpec.ofChange lzmaPropsWrong)

/-- 'hamperlaw05.LimitCosts': WHATEVER THE INPUT: true; the input reads as it did. -/
def limitCostsSpec : ChangeSpec := { name := "limitCosts", fn := fun _ => fun
  | [d1, d2] => { results := [.lit (.bool true)], args := [d1, d2] }
  | _ => none }
def limitCostsRow : OpenClaim := { program := "ytoeapobpdfidkaa", sum := "bd2e8646fb367be91656a2aec6430ec43de79da2bb290631eaa489fea588724d", func := "hamper/hamperlaw05.LimitCosts", spec := "limitCosts", unfollowed := true, recurses := true, apart := false }
def LimitCostsSaid : Prop := limitCostsRow.holds Try.pinned (OpenSpec.ofChange limitCostsSpec)

/-- ITS FALSE NEIGHBOUR: 'it returns false'. Refute it at one input. -/
def limitCostsWrong : ChangeSpec := { name := "limitCosts", fn := fun _ => fun
  | [d1, d2] => { results := [.lit (.bool false)], args := [d1, d2] }
  | _ => none }
def LimitCostsWrongFalsely : Prop := limitCostsRow.holds Try.pinned (OpenSpec.ofChange limitCostsWrong)

/-- 'hamperlaw07.InflateKnows': WHATEVER THE INPUT: true; the input reads as it did. -/
def inflateKnowsSpec : ChangeSpec := { name := "inflateKnows", fn := fun _ => fun
  | [d] => { results := [.lit (.bool true)], args := [d] }
  | _ => none }
def inflateKnowsRow : OpenClaim := { program := "ytoeapobpdfidkaa", sum := "bd2e8646fb367be91656a2aec6430ec43de79da2bb290631eaa489fea588724d", func := "hamper/hamperlaw07.InflateKnows", spec := "inflateKnows", apart := false }
def InflateKnowsSaid : Prop := inflateKnowsRow.holds Try.pinned (OpenSpec.ofChange inflateKnowsSpec)

/-- ITS FALSE NEIGHBOUR: 'it returns false'. Refute it at one input. -/
def inflateKnowsWrong : ChangeSpec := { name := "inflateKnows", fn := fun _ => fun
  | [d] => { results := [.lit (.bool false)], args := [d] }
  | _ => none }
def InflateKnowsWrongFalsely : Prop := inflateKnowsRow.holds Try.pinned (OpenSpec.ofChange inflateKnowsWrong)

/-- 'hamperlaw15.Lzma2Sizes': WHATEVER THE INPUT: true; the input reads as it did. -/
def lzma2SizesSpec : ChangeSpec := { name := "lzma2Sizes", fn := fun _ => fun
  | [d] => { results := [.lit (.bool true)], args := [d] }
  | _ => none }
def lzma2SizesRow : OpenClaim := { program := "ytoeapobpdfidkaa", sum := "bd2e8646fb367be91656a2aec6430ec43de79da2bb290631eaa489fea588724d", func := "hamper/hamperlaw15.Lzma2Sizes", spec := "lzma2Sizes", unfollowed := true, recurses := true, apart := false }
def Lzma2SizesSaid : Prop := lzma2SizesRow.holds Try.pinned (OpenSpec.ofChange lzma2SizesSpec)

/-- ITS FALSE NEIGHBOUR: 'it returns false'. Refute it at one input. -/
def lzma2SizesWrong : ChangeSpec := { name := "lzma2Sizes", fn := fun _ => fun
  | [d] => { results := [.lit (.bool false)], args := [d] }
  | _ => none }
def Lzma2SizesWrongFalsely : Prop := lzma2SizesRow.holds Try.pinned (OpenSpec.ofChange lzma2SizesWrong)

/-- 'hamperlaw21.VolumeSplits': WHATEVER THE INPUT: true; the input reads as it did. -/
def volumeSplitsSpec : ChangeSpec := { name := "volumeSplits", fn := fun _ => fun
  | [d1, d2] => { results := [.lit (.bool true)], args := [d1, d2] }
  | _ => none }
def volumeSplitsRow : OpenClaim := { program := "ytoeapobpdfidkaa", sum := "bd2e8646fb367be91656a2aec6430ec43de79da2bb290631eaa489fea588724d", func := "hamper/hamperlaw21.VolumeSplits", spec := "volumeSplits", unfollowed := true, recurses := true, apart := false }
def VolumeSplitsSaid : Prop := volumeSplitsRow.holds Try.pinned (OpenSpec.ofChange volumeSplitsSpec)

/-- ITS FALSE NEIGHBOUR: 'it returns false'. Refute it at one input. -/
def volumeSplitsWrong : ChangeSpec := { name := "volumeSplits", fn := fun _ => fun
  | [d1, d2] => { results := [.lit (.bool false)], args := [d1, d2] }
  | _ => none }
def VolumeSplitsWrongFalsely : Prop := volumeSplitsRow.holds Try.pinned (OpenSpec.ofChange volumeSplitsWrong)

/-- 'hamperlaw16.XzIndexes': WHATEVER THE INPUT: true; the input reads as it did. -/
def xzIndexesSpec : ChangeSpec := { name := "xzIndexes", fn := fun _ => fun
  | [d1, d2] => { results := [.lit (.bool true)], args := [d1, d2] }
  | _ => none }
def xzIndexesRow : OpenClaim := { program := "ytoeapobpdfidkaa", sum := "bd2e8646fb367be91656a2aec6430ec43de79da2bb290631eaa489fea588724d", func := "hamper/hamperlaw16.XzIndexes", spec := "xzIndexes", unfollowed := true, recurses := true, apart := false }
def XzIndexesSaid : Prop := xzIndexesRow.holds Try.pinned (OpenSpec.ofChange xzIndexesSpec)

/-- ITS FALSE NEIGHBOUR: 'it returns false'. Refute it at one input. -/
def xzIndexesWrong : ChangeSpec := { name := "xzIndexes", fn := fun _ => fun
  | [d1, d2] => { results := [.lit (.bool false)], args := [d1, d2] }
  | _ => none }
def XzIndexesWrongFalsely : Prop := xzIndexesRow.holds Try.pinned (OpenSpec.ofChange xzIndexesWrong)

/- THE SECOND FORM. 'bulk': how many values and letters a reading holds, each counted each time it is reached (what is shared counts as often as it is met; a slice's spare places count too). A statement '..UptoSaid' is the law's where the arguments, and the package variables that the reading takes, are together of bulk at most 1048576: NARROWER than '..Said'. Prove '..Said' where nothing that the law and all that it calls make is longer than what came in: it says more and counts as full. Else prove '..UptoSaid'. A law counts once. -/
mutual
def uptoBulk {H : Type} : DataW H → Nat
  | .lit (.string bytes) => bytes.length + 1
  | .lit _ => 1
  | .nil => 1
  | .ptr d => uptoBulk d + 1
  | .slice elems spare => uptoBulkAll elems + uptoBulkAll spare + 1
  | .agg parts => uptoBulkAll parts + 1
  | .iface _ d => uptoBulk d + 1
  | .map entries => uptoBulkEntries entries + 1
  | .held _ => 1
def uptoBulkAll {H : Type} : List (DataW H) → Nat
  | [] => 0
  | d :: r => uptoBulk d + uptoBulkAll r
def uptoBulkEntries {H : Type} : List (Lit × DataW H) → Nat
  | [] => 0
  | x :: r => uptoBulkEntry x + uptoBulkEntries r
def uptoBulkEntry {H : Type} : Lit × DataW H → Nat
  | (.string bytes, d) => bytes.length + uptoBulk d + 1
  | (_, d) => uptoBulk d + 1
 end
def uptoSmall : (H : Type) → List (DataW H) → Bool := fun _ ds => decide (uptoBulkAll ds ≤ 1048576)
def OpenSpec.upto (s : _root_.Go.ChangeSpec) : _root_.Go.OpenSpec := { _root_.Go.OpenSpec.ofChange s with cond := some uptoSmall }

/-- 'hamperlaw12.Bzip2Sums', WHERE WHAT IT READS IS OF BULK AT MOST 1048576: true; the input reads as it did. -/
def bzip2SumsUptoRow : OpenClaim := { program := "ytoeapobpdfidkaa", sum := "bd2e8646fb367be91656a2aec6430ec43de79da2bb290631eaa489fea588724d", func := "hamper/hamperlaw12.Bzip2Sums", spec := "bzip2Sums", apart := false, narrowed := true }
def Bzip2SumsUptoSaid : Prop := bzip2SumsUptoRow.holds Try.pinned (OpenSpec.upto bzip2SumsSpec)

/-- 'hamperlaw14.LzmaProps', WHERE WHAT IT READS IS OF BULK AT MOST 1048576: true; the input reads as it did. -/
def lzmaPropsUptoRow : OpenClaim := { program := "ytoeapobpdfidkaa", sum := "bd2e8646fb367be91656a2aec6430ec43de79da2bb290631eaa489fea588724d", func := "hamper/hamperlaw14.LzmaProps", spec := "lzmaProps", apart := false, narrowed := true }
def LzmaPropsUptoSaid : Prop := lzmaPropsUptoRow.holds Try.pinned (OpenSpec.upto lzmaPropsSpec)

/-- 'hamperlaw05.LimitCosts', WHERE WHAT IT READS IS OF BULK AT MOST 1048576: true; the input reads as it did. -/
def limitCostsUptoRow : OpenClaim := { program := "ytoeapobpdfidkaa", sum := "bd2e8646fb367be91656a2aec6430ec43de79da2bb290631eaa489fea588724d", func := "hamper/hamperlaw05.LimitCosts", spec := "limitCosts", unfollowed := true, recurses := true, apart := false, narrowed := true }
def LimitCostsUptoSaid : Prop := limitCostsUptoRow.holds Try.pinned (OpenSpec.upto limitCostsSpec)

/-- 'hamperlaw07.InflateKnows', WHERE WHAT IT READS IS OF BULK AT MOST 1048576: true; the input reads as it did. -/
def inflateKnowsUptoRow : OpenClaim := { program := "ytoeapobpdfidkaa", sum := "bd2e8646fb367be91656a2aec6430ec43de79da2bb290631eaa489fea588724d", func := "hamper/hamperlaw07.InflateKnows", spec := "inflateKnows", apart := false, narrowed := true }
def InflateKnowsUptoSaid : Prop := inflateKnowsUptoRow.holds Try.pinned (OpenSpec.upto inflateKnowsSpec)

/-- 'hamperlaw15.Lzma2Sizes', WHERE WHAT IT READS IS OF BULK AT MOST 1048576: true; the input reads as it did. -/
def lzma2SizesUptoRow : OpenClaim := { program := "ytoeapobpdfidkaa", sum := "bd2e8646fb367be91656a2aec6430ec43de79da2bb290631eaa489fea588724d", func := "hamper/hamperlaw15.Lzma2Sizes", spec := "lzma2Sizes", unfollowed := true, recurses := true, apart := false, narrowed := true }
def Lzma2SizesUptoSaid : Prop := lzma2SizesUptoRow.holds Try.pinned (OpenSpec.upto lzma2SizesSpec)

/-- 'hamperlaw21.VolumeSplits', WHERE WHAT IT READS IS OF BULK AT MOST 1048576: true; the input reads as it did. -/
def volumeSplitsUptoRow : OpenClaim := { program := "ytoeapobpdfidkaa", sum := "bd2e8646fb367be91656a2aec6430ec43de79da2bb290631eaa489fea588724d", func := "hamper/hamperlaw21.VolumeSplits", spec := "volumeSplits", unfollowed := true, recurses := true, apart := false, narrowed := true }
def VolumeSplitsUptoSaid : Prop := volumeSplitsUptoRow.holds Try.pinned (OpenSpec.upto volumeSplitsSpec)

/-- 'hamperlaw16.XzIndexes', WHERE WHAT IT READS IS OF BULK AT MOST 1048576: true; the input reads as it did. -/
def xzIndexesUptoRow : OpenClaim := { program := "ytoeapobpdfidkaa", sum := "bd2e8646fb367be91656a2aec6430ec43de79da2bb290631eaa489fea588724d", func := "hamper/hamperlaw16.XzIndexes", spec := "xzIndexes", unfollowed := true, recurses := true, apart := false, narrowed := true }
def XzIndexesUptoSaid : Prop := xzIndexesUptoRow.holds Try.pinned (OpenSpec.upto xzIndexesSpec)

end Rows
end Go.Proofs.Ytoeapobpdfidkaa
