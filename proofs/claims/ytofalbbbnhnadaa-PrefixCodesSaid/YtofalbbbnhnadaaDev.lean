/- WORKSHOP ONLY, in no claim: prints a goal; prints the line that walks a region by stretches. -/
import Derived.Test.YtofalbbbnhnadaaHav
import Derived.NoCompiler
open Lean Elab Tactic in
/-- Prints the goal's statement alone. -/
elab "tgt_" : tactic => withMainContext do logInfo m!"{(← instantiateMVars (← getMainTarget))}"
namespace Go.Proofs.Ytofalbbbnhnadaa
set_option linter.unusedVariables false
open Lean Elab Tactic Meta in
/-- The region's walk by stretches: 'hold_ Rel hrf ht'; the held operations are those that only read, and those that are named. -/
elab "hold_ " rel:term:max hrf:term:max ht:term:max " [" more:num,* "]" : tactic => withMainContext do
  let t := (← instantiateMVars (← getMainTarget)).consumeMData
  let some ar := t.find? (fun e => e.isAppOfArity ``Code.region 3) | throwError "hold_: no region"
  let ops := ar.getArg! 1
  let P := t.getAppArgs[0]!
  let some P := (if t.isAppOf ``Code.wp then some (t.getAppArgs.find? fun e => true) else none) | throwError "hold_: no goal Code.wp"
  let some P := P | throwError "hold_"
  let P ← (do if (← inferType P).isConstOf ``Program then pure P else pure t.getAppArgs[1]!)
  let h0 ← kernelNats (mkApp2 (mkConst ``heldOf) P ops)
  let held := (h0 ++ (more.getElems.toList.map (·.getNat)).filter (fun n => !h0.contains n))
  let heldE := toExpr held
  let pl ← kernelNats (mkApp3 (mkConst ``planOf) P ops heldE)
  let rec pairUp : List Nat → List (Nat × Nat)
    | c :: i :: r => (c, i) :: pairUp r
    | _ => []
  let order := pairUp pl
  let segs : List (Nat × List Nat) := order.foldl (fun acc (c, i) => match acc with
    | (0, l) :: r => if c == 0 then (0, l ++ [i]) :: r else (c, [i]) :: acc
    | _ => (c, [i]) :: acc) []
  let segs := segs.reverse
  let some elems := listElems (ops.getArg! 1) | throwError "hold_: no literal"
  let n := elems.toArray.size
  if order.length != n then throwError "hold_: no order: {order} of {n}; held {held}"
  let ea := elems.toArray
  let os := ", ".intercalate ((List.range n).map fun i => s!"?o{i}")
  let so := ", ".intercalate (segs.map fun (c, l) => s!"({c}, [" ++ ", ".intercalate (l.map fun i => s!"?o{i}") ++ "])")
  let ss := ", ".intercalate (segs.map fun (c, l) => s!"({c}, [" ++ ", ".intercalate (l.map toString) ++ "])")
  let rs := (rel.raw.reprint.getD "?").trimAscii.toString
  let hs := (hrf.raw.reprint.getD "?").trimAscii.toString
  let ts := (ht.raw.reprint.getD "?").trimAscii.toString
  let text := s!"refine wp_region_hold {rs} {hs} {ts} [{", ".intercalate (held.map toString)}] [{ss}] [{so}] [{os}] (by kernel_rfl) (by kernel_rfl) (by kernel_rfl) ?_"
  logInfo m!"HOLD {text}"
  match Lean.Parser.runParserCategory (← getEnv) `tactic text with
  | .ok stx => evalTactic stx
  | .error e => throwError "hold_: {e}"
  logInfo m!"OPS {(List.range n).map fun i => (i, opHead ops i)}"
open Lean Elab Tactic Meta in
/-- The same with free operations: 'hav_ Rel V H [held besides] [free]'. -/
elab "hav_ " rel:term:max hrf:term:max ht:term:max " [" more:num,* "]" " [" freeL:num,* "]" : tactic => withMainContext do
  let t := (← instantiateMVars (← getMainTarget)).consumeMData
  let some ar := t.find? (fun e => e.isAppOfArity ``Code.region 3) | throwError "hav_: no region"
  let ops := ar.getArg! 1
  let P := t.getAppArgs[0]!
  let some P := (if t.isAppOf ``Code.wp then some (t.getAppArgs.find? fun e => true) else none) | throwError "hav_: no goal Code.wp"
  let some P := P | throwError "hav_"
  let P ← (do if (← inferType P).isConstOf ``Program then pure P else pure t.getAppArgs[1]!)
  let h0 ← kernelNats (mkApp2 (mkConst ``heldOf) P ops)
  let free := freeL.getElems.toList.map (·.getNat)
  let held := (h0 ++ (more.getElems.toList.map (·.getNat)).filter (fun n => !h0.contains n)).filter (fun n => !free.contains n)
  let freeE := toExpr free
  let heldE := toExpr held
  let pl ← kernelNats (mkApp4 (mkConst ``Hv.planOf) P ops heldE freeE)
  let rec pairUp : List Nat → List (Nat × Nat)
    | c :: i :: r => (c, i) :: pairUp r
    | _ => []
  let order := pairUp pl
  let segs : List (Nat × List Nat) := order.foldl (fun acc (c, i) => match acc with
    | (0, l) :: r => if c == 0 then (0, l ++ [i]) :: r else (c, [i]) :: acc
    | _ => (c, [i]) :: acc) []
  let segs := segs.reverse
  let some elems := listElems (ops.getArg! 1) | throwError "hav_: no literal"
  let n := elems.toArray.size
  if order.length != n then throwError "hav_: no order: {order} of {n}; held {held}"
  let ea := elems.toArray
  let os := ", ".intercalate ((List.range n).map fun i => s!"?o{i}")
  let so := ", ".intercalate (segs.map fun (c, l) => s!"({c}, {l.headD 0}, [" ++ ", ".intercalate (l.map fun i => s!"?o{i}") ++ "])")
  let ss := ", ".intercalate (segs.map fun (c, l) => s!"({c}, [" ++ ", ".intercalate (l.map toString) ++ "])")
  let rs := (rel.raw.reprint.getD "?").trimAscii.toString
  let hs := (hrf.raw.reprint.getD "?").trimAscii.toString
  let ts := (ht.raw.reprint.getD "?").trimAscii.toString
  let text := s!"refine Hv.wp_region_hav {rs} {hs} {ts} [{", ".intercalate (held.map toString)}] [{", ".intercalate (free.map toString)}] [{ss}] [{so}] [{os}] (by kernel_rfl) (by kernel_rfl) (by kernel_rfl) ?_"
  logInfo m!"HOLD {text}"
  match Lean.Parser.runParserCategory (← getEnv) `tactic text with
  | .ok stx => evalTactic stx
  | .error e => throwError "hav_: {e}"
  logInfo m!"OPS {(List.range n).map fun i => (i, opHead ops i)}"
open Lean Elab Tactic Meta in
/-- The same with free operations: 'hav2_ Rel R3 V H [held besides] [free]'. -/
elab "hav2_ " rel:term:max r3:term:max hrf:term:max ht:term:max " [" more:num,* "]" " [" freeL:num,* "]" : tactic => withMainContext do
  let t := (← instantiateMVars (← getMainTarget)).consumeMData
  let some ar := t.find? (fun e => e.isAppOfArity ``Code.region 3) | throwError "hav2_: no region"
  let ops := ar.getArg! 1
  let P := t.getAppArgs[0]!
  let some P := (if t.isAppOf ``Code.wp then some (t.getAppArgs.find? fun e => true) else none) | throwError "hav2_: no goal Code.wp"
  let some P := P | throwError "hav_"
  let P ← (do if (← inferType P).isConstOf ``Program then pure P else pure t.getAppArgs[1]!)
  let h0 ← kernelNats (mkApp2 (mkConst ``heldOf) P ops)
  let free := freeL.getElems.toList.map (·.getNat)
  let held := (h0 ++ (more.getElems.toList.map (·.getNat)).filter (fun n => !h0.contains n)).filter (fun n => !free.contains n)
  let freeE := toExpr free
  let heldE := toExpr held
  let pl ← kernelNats (mkApp4 (mkConst ``Hv.planOf) P ops heldE freeE)
  let rec pairUp : List Nat → List (Nat × Nat)
    | c :: i :: r => (c, i) :: pairUp r
    | _ => []
  let order := pairUp pl
  let segs : List (Nat × List Nat) := order.foldl (fun acc (c, i) => match acc with
    | (0, l) :: r => if c == 0 then (0, l ++ [i]) :: r else (c, [i]) :: acc
    | _ => (c, [i]) :: acc) []
  let segs := segs.reverse
  let some elems := listElems (ops.getArg! 1) | throwError "hav2_: no literal"
  let n := elems.toArray.size
  if order.length != n then throwError "hav2_: no order: {order} of {n}; held {held}"
  let ea := elems.toArray
  let os := ", ".intercalate ((List.range n).map fun i => s!"?o{i}")
  let so := ", ".intercalate (segs.map fun (c, l) => s!"({c}, {l.headD 0}, [" ++ ", ".intercalate (l.map fun i => s!"?o{i}") ++ "])")
  let ss := ", ".intercalate (segs.map fun (c, l) => s!"({c}, [" ++ ", ".intercalate (l.map toString) ++ "])")
  let rs := (rel.raw.reprint.getD "?").trimAscii.toString
  let hs := (hrf.raw.reprint.getD "?").trimAscii.toString
  let ts := (ht.raw.reprint.getD "?").trimAscii.toString
  let text := s!"refine Hv.wp_region_hav2 {rs} {(r3.raw.reprint.getD "?").trimAscii.toString} {hs} {ts} [{", ".intercalate (held.map toString)}] [{", ".intercalate (free.map toString)}] [{ss}] [{so}] [{os}] (by kernel_rfl) (by kernel_rfl) (by kernel_rfl) ?_"
  logInfo m!"HOLD {text}"
  match Lean.Parser.runParserCategory (← getEnv) `tactic text with
  | .ok stx => evalTactic stx
  | .error e => throwError "hav2_: {e}"
  logInfo m!"OPS {(List.range n).map fun i => (i, opHead ops i)}"
end Go.Proofs.Ytofalbbbnhnadaa
