/- A region that draws its order, walked once, in the order of the text: each two of its operations that no edge orders either do not meet the world at all, or only read it. No theorem on the program stands here. -/
import Derived.Test.YtfegjdabjdahgaaProg
import Derived.WalkKit
import Derived.Still
import Derived.Deep.Quiet
namespace Go.Proofs.Ytfegjdabjdahgaa
set_option linter.unusedVariables false

/-! ### What a computation does to the world -/
/-- It gives one value, whatever the world, and leaves it; or it gives none. -/
def Calm (P : Program) {α : Type} (s : Sem α) : Prop := ∀ (w : World) (x : α) (w' : World), s.run P w = .ok x w' → w' = w ∧ ∀ w2, s.run P w2 = .ok x w2
/-- It leaves the world. -/
def Reads (P : Program) {α : Type} (s : Sem α) : Prop := ∀ (w : World) (x : α) (w' : World), s.run P w = .ok x w' → w' = w
/-- It gives no value. -/
def Never (P : Program) {α : Type} (s : Sem α) : Prop := ∀ (w : World) (x : α) (w' : World), s.run P w ≠ .ok x w'

section
variable {P : Program} {α β : Type}
theorem Calm.reads {s : Sem α} (h : Calm P s) : Reads P s := fun w x w' hr => (h w x w' hr).1
theorem calm_pure (a : α) : Calm P (pure a : Sem α) := fun w x w' h => by
  have h' : Result.ok a w = .ok x w' := h
  injection h' with h1 h2
  subst h1; subst h2
  exact ⟨rfl, fun _ => rfl⟩
theorem calm_halt (h : Halt) : Calm P (Sem.halt h : Sem α) := fun w x w' e => by cases e
theorem calm_bind {s : Sem α} {f : α → Sem β} (hs : Calm P s) (hf : ∀ a, Calm P (f a)) : Calm P (s >>= f) := fun w x w' h => by
  rw [Sem.run_bind] at h
  cases hr : s.run P w with
  | halt e w1 => rw [hr] at h; cases h
  | ok a w1 =>
    rw [hr] at h
    simp only [Result.andThen_ok] at h
    obtain ⟨h1, h2⟩ := hs w a w1 hr
    subst h1
    obtain ⟨h3, h4⟩ := hf a w1 x w' h
    exact ⟨h3, fun w2 => by rw [Sem.run_bind, h2 w2, Result.andThen_ok]; exact h4 w2⟩
/-- .. where the first part's value is known. -/
theorem calm_bind_of {s : Sem α} {f : α → Sem β} {a : α} (hs : ∀ w, s.run P w = .ok a w) (hf : Calm P (f a)) : Calm P (s >>= f) := fun w x w' h => by
  rw [Sem.run_bind, hs w, Result.andThen_ok] at h
  obtain ⟨h3, h4⟩ := hf w x w' h
  exact ⟨h3, fun w2 => by rw [Sem.run_bind, hs w2, Result.andThen_ok]; exact h4 w2⟩
theorem reads_bind {s : Sem α} {f : α → Sem β} (hs : Reads P s) (hf : ∀ a, Reads P (f a)) : Reads P (s >>= f) := fun w x w' h => by
  rw [Sem.run_bind] at h
  cases hr : s.run P w with
  | halt e w1 => rw [hr] at h; cases h
  | ok a w1 =>
    rw [hr] at h
    simp only [Result.andThen_ok] at h
    have h1 := hs w a w1 hr
    subst h1
    exact hf a w1 x w' h
theorem calm_program : Calm P program := fun w x w' h => by
  have h' : Result.ok P w = .ok x w' := h
  injection h' with h1 h2
  subst h1; subst h2
  exact ⟨rfl, fun _ => rfl⟩
theorem calm_stuck (s : String) : Calm P (stuck s : Sem α) := calm_halt _
theorem calm_unsupported (u : Unsupported) : Calm P (unsupported u : Sem α) := calm_halt _
theorem calm_ite {c : Prop} [Decidable c] {s t : Sem α} (hs : Calm P s) (ht : Calm P t) : Calm P (if c then s else t) := by
  split
  · exact hs
  · exact ht
theorem Never.calm {s : Sem α} (h : Never P s) : Calm P s := fun w x w' e => absurd e (h w x w')
theorem never_bind {s : Sem α} {f : α → Sem β} (hf : ∀ a, Never P (f a)) : Never P (s >>= f) := fun w x w' h => by
  rw [Sem.run_bind] at h
  cases hr : s.run P w with
  | halt e w1 => rw [hr] at h; cases h
  | ok a w1 =>
    rw [hr] at h
    simp only [Result.andThen_ok] at h
    exact hf a w1 x w' h
theorem never_halt (h : Halt) : Never P (Sem.halt h : Sem α) := fun w x w' e => by cases e
theorem never_runtimePanic (e : RuntimeError) : Never P (runtimePanic e : Sem α) := by
  unfold runtimePanic
  refine never_bind fun p => ?_
  cases e <;> first | exact never_halt _ | exact never_bind fun a => never_bind fun b => never_halt _
theorem never_boundsPanic (k : IntKind) (x y : Int) (c : BoundsCode) : Never P (boundsPanic k x y c : Sem α) := by
  unfold boundsPanic
  split
  · exact never_bind fun a => never_runtimePanic _
  · exact never_bind fun a => never_runtimePanic _
theorem calm_runtimePanic (e : RuntimeError) : Calm P (runtimePanic e : Sem α) := (never_runtimePanic e).calm
theorem calm_boundsPanic (k : IntKind) (x y : Int) (c : BoundsCode) : Calm P (boundsPanic k x y c : Sem α) := (never_boundsPanic k x y c).calm
end

section
variable {P : Program}
theorem calm_underlying (t : TypeId) : Calm P (underlying t) := by
  unfold underlying
  refine calm_bind calm_program fun p => ?_
  split
  · exact calm_pure _
  · exact calm_stuck _
theorem calm_typeInfo (t : TypeId) : Calm P (typeInfo t) := by
  unfold typeInfo
  refine calm_bind calm_program fun p => ?_
  split
  · exact calm_pure _
  · exact calm_stuck _
theorem calm_sizeOf (t : TypeId) : Calm P (sizeOf t) := by
  unfold sizeOf
  exact calm_bind (calm_typeInfo t) fun i => calm_pure _
theorem calm_isAgg (t : TypeId) : Calm P (isAgg t) := by
  unfold isAgg
  refine calm_bind (calm_underlying t) fun d => ?_
  split <;> exact calm_pure _
theorem calm_asIntOf (v : Value) : Calm P (asIntOf v) := by
  unfold asIntOf
  split
  · exact calm_pure _
  · exact calm_unsupported _
  · exact calm_stuck _
theorem calm_asBool (v : Value) : Calm P (asBool v) := by
  unfold asBool
  split
  · exact calm_pure _
  · exact calm_stuck _
theorem calm_sureAddr (v : Value) : Calm P (Instr.sureAddr v) := by
  unfold Instr.sureAddr
  split
  · exact calm_pure _
  · exact calm_stuck _
theorem reads_load (a : Addr) (m : Mode) : Reads P (load a m) := fun w x w' h => by
  unfold load at h
  simp only [Sem.run] at h
  split at h
  · injection h with _ h2; exact h2.symm
  · split at h
    · injection h with _ h2; exact h2.symm
    · cases h
theorem reads_loadCellsFrom (a : Addr) : ∀ (n i : Nat) (acc : Array Value), Reads P (loadCellsFrom a i n acc)
  | 0, i, acc => (calm_pure acc).reads
  | n + 1, i, acc => reads_bind (reads_load _ _) fun v => reads_loadCellsFrom a n (i + 1) _
theorem reads_loadVar (t : TypeId) (a : Addr) : Reads P (loadVar t a) := by
  unfold loadVar
  refine reads_bind (calm_isAgg t).reads fun b => ?_
  split
  · exact reads_bind (calm_sizeOf t).reads fun n => reads_bind (reads_loadCellsFrom a _ _ _) fun cs => (calm_pure _).reads
  · exact reads_load _ _

/-! ### The operations -/
/-- A value of these kinds meets no memory in arithmetic and comparison. -/
def plainV : Value → Bool
  | .int _ _ | .bool _ | .string _ => true
  | _ => false
def intV : Value → Bool
  | .int _ _ => true
  | _ => false
def rowV : Value → Bool
  | .slice .. | .string _ => true
  | _ => false
def sliceV : Value → Bool
  | .slice .. => true
  | _ => false
def ptrV : Value → Bool
  | .pointer _ => true
  | _ => false
/-- What is asked of an operation's operands in a frame. -/
def kindOk (a : Act) (o : Oper) : Bool := match o.op with
  | .binOp _ _ x y _ => plainV (a.eval x) && plainV (a.eval y)
  | .convert _ _ x => intV (a.eval x)
  | .nilCheck x => ptrV (a.eval x)
  | .slice _ x _ _ _ => rowV (a.eval x)
  | .indexAddr _ x _ => sliceV (a.eval x)
  | .call { callee := .builtin .len, args, .. } => rowV (a.eval (args.getD 0 (.const .nilIface)))
  | _ => true
def isIntType (P : Program) (t : TypeId) : Bool := match P.underlying t with
  | some (.int _) => true
  | _ => false
def isRowType (P : Program) (t : TypeId) : Bool := match P.underlying t with
  | some (.slice _) | some .string => true
  | _ => false
def isSliceType (P : Program) (t : TypeId) : Bool := match P.underlying t with
  | some (.slice _) => true
  | _ => false
def fieldBears (P : Program) (s : TypeId) (f : Nat) : Bool := match P.underlying s with
  | some (.struct fs) => (match fs[f]? with
    | some g => (match P.info? g.type with | some i => i.size != 0 | none => false)
    | none => false)
  | _ => false
/-- 0: the operation does not meet the world; 1: it reads it; 2: any other. -/
def rank (P : Program) (o : Oper) : Nat := match o.op with
  | .move _ | .assign _ | .pick .. | .extract .. | .binOp .. | .nilCheck _ => 0
  | .convert _ t _ => if isIntType P t then 0 else 2
  | .slice t _ _ _ _ => if isRowType P t then 0 else 2
  | .indexAddr t _ _ => if isSliceType P t then 0 else 2
  | .fieldAddr s _ f => if fieldBears P s f then 0 else 2
  | .call { callee := .builtin .len, argTypes, .. } => if isRowType P (argTypes.getD 0 0) then 0 else 2
  | .load .. => 1
  | _ => 2

theorem calm_intArith (op : BinOp) (k : IntKind) (x y : Int) : Calm P (Op.intArith op k x y) := by
  unfold Op.intArith
  split <;> first | exact calm_pure _ | exact calm_stuck _
theorem calm_intDiv (op : BinOp) (k : IntKind) (x y : Int) : Calm P (Op.intDiv op k x y) := by
  unfold Op.intDiv
  split
  · exact calm_runtimePanic _
  · split <;> first | exact calm_pure _ | exact calm_stuck _
theorem calm_intBits (op : BinOp) (k : IntKind) (x y : Int) : Calm P (Op.intBits op k x y) := by
  unfold Op.intBits
  simp only
  split <;> first | exact calm_pure _ | exact calm_stuck _
theorem calm_intCmp (op : BinOp) (x y : Int) : Calm P (Op.intCmp op x y) := by
  unfold Op.intCmp
  split <;> first | exact calm_pure _ | exact calm_stuck _
theorem calm_shift (op : BinOp) (k : IntKind) (x : Int) (yk : IntKind) (y : Int) : Calm P (Op.shift op k x yk y) := by
  unfold Op.shift
  split
  · exact calm_runtimePanic _
  · simp only
    split <;> first | exact calm_pure _ | exact calm_stuck _
theorem calm_stringOp (op : BinOp) (x y : ByteArray) : Calm P (Op.stringOp op x y) := by
  unfold Op.stringOp
  simp only
  split <;> first | exact calm_pure _ | exact calm_stuck _ | (split <;> first | exact calm_pure _ | exact calm_unsupported _)

theorem calm_equal_bool (t : TypeId) (x y : Bool) : Calm P (Op.equal t (.bool x) (.bool y)) := by
  unfold Op.equal Op.maxDepth Op.equalIn
  refine calm_bind (calm_underlying t) fun d => ?_
  cases d <;> first | exact calm_pure _ | exact calm_stuck _ | exact calm_unsupported _
theorem calm_binOp (op : BinOp) (t : TypeId) (x y : Value) (hx : plainV x = true) (hy : plainV y = true) : Calm P (binOp op t x y) := by
  cases x <;> simp only [plainV, Bool.false_eq_true] at hx <;> cases y <;> simp only [plainV, Bool.false_eq_true] at hy
  case int.int k a k' b =>
    cases op <;> first
      | (simp only [binOp]; exact calm_shift _ _ _ _ _)
      | exact calm_ite (calm_stuck _) (calm_intArith _ _ _ _)
      | exact calm_ite (calm_stuck _) (calm_intDiv _ _ _ _)
      | exact calm_ite (calm_stuck _) (calm_intBits _ _ _ _)
      | exact calm_ite (calm_stuck _) (calm_intCmp _ _ _)
  case string.string a b => cases op <;> (simp only [binOp]; exact calm_stringOp _ _ _)
  case bool.bool a b =>
    cases op <;> first
      | exact calm_stuck _
      | exact calm_bind (calm_equal_bool _ _ _) fun b => calm_pure _
  all_goals
    cases op <;> first
      | exact calm_stuck _
      | (refine calm_bind ?_ fun b => calm_pure _
         unfold Op.equal Op.maxDepth Op.equalIn
         refine calm_bind (calm_underlying _) fun d => ?_
         cases d <;> first | exact calm_pure _ | exact calm_stuck _ | exact calm_unsupported _)


theorem calm_eqGuard (op : BinOp) (t : TypeId) (x y : Operand) (a b : Value) (ha : plainV a = true) (hb : plainV b = true) : Calm P (eqGuard op t x y a b) := by
  unfold eqGuard
  cases a <;> simp only [plainV, Bool.false_eq_true] at ha <;> cases b <;> simp only [plainV, Bool.false_eq_true] at hb
  all_goals (split <;> exact calm_pure _)

theorem run_underlying_some {t : TypeId} {d : TypeDesc} (h : P.underlying t = some d) (w : World) : (underlying t).run P w = .ok d w := by
  unfold underlying program
  simp only [bind, Sem.bind, Sem.run, h]
  rfl

theorem calm_convert (src t : TypeId) (x : Value) (hx : intV x = true) (ht : isIntType P t = true) : Calm P (convert src t x) := by
  unfold isIntType at ht
  split at ht
  case h_2 => cases ht
  rename_i k hk
  cases x <;> simp only [intV, Bool.false_eq_true] at hx
  unfold convert
  refine calm_bind (calm_underlying _) fun d => ?_
  refine calm_bind_of (run_underlying_some hk) ?_
  exact calm_pure _

theorem calm_sliceBound (x : Value) (y : Nat) (c : BoundsCode) : Calm P (Instr.sliceBound x y c) := by
  unfold Instr.sliceBound
  refine calm_bind (calm_asIntOf _) fun p => ?_
  exact calm_ite (calm_pure _) (calm_boundsPanic _ _ _ _)
theorem calm_sliceBounds (b : Bool) (n c : Nat) (lo hi mx : Option Value) : Calm P (Instr.sliceBounds b n c lo hi mx) := by
  unfold Instr.sliceBounds
  cases mx <;> cases hi <;> cases lo <;> dsimp only
  all_goals repeat' first
    | exact calm_pure _
    | exact calm_stuck _
    | refine calm_bind (calm_sliceBound _ _ _) fun _ => ?_
    | refine calm_bind (calm_stuck _) fun _ => ?_
    | refine calm_bind (calm_pure _) fun _ => ?_

theorem calm_slice (t : TypeId) (x : Value) (lo hi mx : Option Value) (hx : rowV x = true) : Calm P (Instr.slice t x lo hi mx) := by
  unfold Instr.slice
  refine calm_bind (calm_underlying _) fun d => ?_
  cases x <;> simp only [rowV, Bool.false_eq_true] at hx
  all_goals cases d <;> dsimp only
  all_goals repeat' first
    | exact calm_stuck _
    | exact calm_pure _
    | refine calm_bind (calm_stuck _) fun _ => ?_
    | refine calm_bind (calm_sliceBounds _ _ _ _ _ _) fun _ => ?_
    | refine calm_bind (calm_sizeOf _) fun _ => ?_
    | refine calm_ite ?_ ?_
    | (unfold asAddr; exact calm_bind (calm_stuck _) fun _ => by split <;> first | exact calm_stuck _ | exact calm_bind (calm_underlying _) fun _ => by split <;> first | exact calm_stuck _ | exact calm_bind (calm_sliceBounds _ _ _ _ _ _) fun _ => calm_bind (calm_sizeOf _) fun _ => calm_pure _)
theorem calm_sliceAt (t : TypeId) (x : Value) (lo hi mx : Option Value) (hx : rowV x = true) (ht : isRowType P t = true) : Calm P (Instr.sliceAt t x lo hi mx) := by
  unfold isRowType at ht
  unfold Instr.sliceAt
  cases hd : P.underlying t with
  | none => rw [hd] at ht; cases ht
  | some d =>
    rw [hd] at ht
    refine calm_bind_of (run_underlying_some hd) ?_
    cases d <;> simp only [Bool.false_eq_true] at ht
    all_goals exact calm_slice _ _ _ _ _ hx
theorem calm_indexAt (t : TypeId) (x i : Value) (hx : sliceV x = true) (ht : isSliceType P t = true) : Calm P (Instr.indexAt t x i) := by
  unfold isSliceType at ht
  unfold Instr.indexAt
  cases hd : P.underlying t with
  | none => rw [hd] at ht; cases ht
  | some d =>
    rw [hd] at ht
    refine calm_bind (calm_asIntOf _) fun p => ?_
    refine calm_bind_of (run_underlying_some hd) ?_
    cases d <;> simp only [Bool.false_eq_true] at ht
    cases x <;> simp only [sliceV, Bool.false_eq_true] at hx
    rename_i b n c
    refine calm_bind (calm_pure _) fun r => ?_
    obtain ⟨base, len, elem⟩ := r
    refine calm_bind (calm_underlying _) fun d => ?_
    cases base with
    | none => exact calm_boundsPanic _ _ _ _
    | some a => exact calm_ite (calm_bind (calm_sizeOf _) fun _ => calm_pure _) (calm_ite (calm_unsupported _) (calm_boundsPanic _ _ _ _))
theorem run_typeInfo_some {t : TypeId} {i : TypeInfo} (h : P.info? t = some i) (w : World) : (typeInfo t).run P w = .ok i w := by
  unfold typeInfo program
  simp only [bind, Sem.bind, Sem.run, h]
  rfl
theorem run_sizeOf_some {t : TypeId} {i : TypeInfo} (h : P.info? t = some i) (w : World) : (sizeOf t).run P w = .ok i.size w := by
  unfold sizeOf
  rw [Sem.run_bind, run_typeInfo_some h, Result.andThen_ok]
  rfl
theorem calm_fieldAt (s : TypeId) (x : Value) (f : Nat) (h : fieldBears P s f = true) : Calm P (Instr.fieldAt s x f) := by
  unfold fieldBears at h
  unfold Instr.fieldAt
  cases hd : P.underlying s with
  | none => rw [hd] at h; cases h
  | some d =>
    rw [hd] at h
    refine calm_bind_of (run_underlying_some hd) ?_
    cases d <;> simp only [Bool.false_eq_true] at h
    rename_i fs
    cases hf : fs[f]? with
    | none => rw [hf] at h; cases h
    | some g =>
      rw [hf] at h
      simp only at h
      cases hi : P.info? g.type with
      | none => rw [hi] at h; cases h
      | some i =>
        rw [hi] at h
        simp only [bne_iff_ne, ne_eq] at h
        dsimp only
        rw [hf]
        dsimp only
        refine calm_bind (calm_sureAddr _) fun a => ?_
        refine calm_bind ?_ fun _ => calm_pure _
        unfold fieldPlace
        refine calm_bind_of (run_sizeOf_some hi) ?_
        rw [if_neg h]
        exact calm_pure _
theorem calm_len (ats : Array TypeId) (ty : TypeId) (args : Array Value) (hx : rowV (args.getD 0 .nilIface) = true) (ht : isRowType P (ats.getD 0 0) = true) : Calm P (Builtin.len_ ats ty args) := by
  unfold Builtin.len_
  cases h0 : ats[0]? with
  | none => exact calm_stuck _
  | some t =>
    cases h1 : args[0]? with
    | none => exact calm_stuck _
    | some x =>
      have e0 : ats.getD 0 0 = t := by simp [h0]
      have e1 : args.getD 0 .nilIface = x := by simp [h1]
      rw [e0] at ht
      rw [e1] at hx
      dsimp only
      refine calm_bind (calm_underlying _) fun d => ?_
      cases x <;> simp only [rowV, Bool.false_eq_true] at hx
      all_goals cases d <;> dsimp only
      all_goals repeat' first
        | exact calm_stuck _
        | exact calm_pure _
        | refine calm_bind (calm_stuck _) fun _ => ?_
        | refine calm_bind (calm_underlying _) fun _ => ?_
        | split
theorem calm_extract (x : Value) (i : Nat) : Calm P (Instr.extract x i) := by
  unfold Instr.extract
  split
  · split
    · exact calm_pure _
    · exact calm_stuck _
  · exact calm_stuck _

/-- An operation of rank 0 whose operands are as they must be yields one value, whatever the world. -/
theorem calm_op (o : Oper) (a : Act) (hr : rank P o = 0) (hk : kindOk a o = true) : Calm P (execOp a.eval o) ∧ ∀ w n w', (execOp a.eval o).run P w = .ok n w' → ∃ v, n = .value v := by
  have val : ∀ {s : Sem Value}, Calm P s → Calm P (do pure (Next.value (← s))) ∧ ∀ w n w', (do pure (Next.value (← s)) : Sem Next).run P w = .ok n w' → ∃ v, n = .value v := by
    intro s hs
    refine ⟨calm_bind hs fun v => calm_pure _, fun w n w' h => ?_⟩
    rw [Sem.run_bind] at h
    cases hr : s.run P w with
    | halt e w1 => rw [hr] at h; cases h
    | ok v w1 =>
      rw [hr, Result.andThen_ok] at h
      have h' : Result.ok (Next.value v) w1 = .ok n w' := h
      injection h' with h1 _
      exact ⟨v, h1.symm⟩
  obtain ⟨dst, op, type, pos, after, guard⟩ := o
  have pv : ∀ v : Value, Calm P (pure (Next.value v) : Sem Next) ∧ ∀ w n w', (pure (Next.value v) : Sem Next).run P w = .ok n w' → ∃ v, n = .value v := fun v =>
    ⟨calm_pure _, fun w n w' h => by
      have h' : Result.ok (Next.value v) w = .ok n w' := h
      injection h' with h1 _
      exact ⟨v, h1.symm⟩⟩
  cases op with
  | move x => exact pv _
  | assign x => exact pv _
  | pick c x y =>
    refine ⟨calm_bind (calm_asBool _) fun _ => calm_pure _, fun w n w' h => ?_⟩
    have h' : ((asBool (a.eval c)) >>= fun b => (pure (Next.value (if b then a.eval x else a.eval y)) : Sem Next)).run P w = .ok n w' := h
    rw [Sem.run_bind] at h'
    cases hb : (asBool (a.eval c)).run P w with
    | halt e w1 => rw [hb] at h'; cases h'
    | ok b w1 =>
      rw [hb, Result.andThen_ok] at h'
      exact (pv _).2 _ _ _ h'
  | extract t i => exact val (calm_extract _ _)
  | binOp b t x y yt =>
    simp only [kindOk, Bool.and_eq_true] at hk
    exact val (calm_bind (calm_eqGuard _ _ _ _ _ _ hk.1 hk.2) fun _ => calm_binOp _ _ _ _ hk.1 hk.2)
  | convert s t x =>
    simp only [kindOk] at hk
    have ht : isIntType P t = true := by
      simp only [rank] at hr
      split at hr
      · assumption
      · cases hr
    exact val (calm_convert _ _ _ hk ht)
  | slice t x lo hi mx =>
    simp only [kindOk] at hk
    have ht : isRowType P t = true := by
      simp only [rank] at hr
      split at hr
      · assumption
      · cases hr
    exact val (calm_sliceAt _ _ _ _ _ hk ht)
  | indexAddr t x i =>
    simp only [kindOk] at hk
    have ht : isSliceType P t = true := by
      simp only [rank] at hr
      split at hr
      · assumption
      · cases hr
    exact val (calm_indexAt _ _ _ hk ht)
  | fieldAddr s x f =>
    have ht : fieldBears P s f = true := by
      simp only [rank] at hr
      split at hr
      · assumption
      · cases hr
    exact val (calm_fieldAt _ _ _ ht)
  | nilCheck x =>
    simp only [kindOk] at hk
    have e : execOp a.eval { dst := dst, op := .nilCheck x, type := type, pos := pos, after := after, guard := guard } = execOp (fun _ => a.eval x) { dst := dst, op := .nilCheck x, type := type, pos := pos, after := after, guard := guard } := rfl
    rw [e]
    generalize a.eval x = y at hk
    cases y <;> simp only [ptrV, Bool.false_eq_true] at hk
    rename_i p
    cases p with
    | none =>
      have hn : Never P (runtimePanic .nilDeref : Sem Next) := never_runtimePanic _
      have hc : Calm P (runtimePanic .nilDeref : Sem Next) := hn.calm
      exact ⟨hc, fun w n w' h => absurd h (hn w n w')⟩
    | some p => exact pv _
  | call c =>
    obtain ⟨callee, args, ats⟩ := c
    cases callee with
    | value f => exact absurd hr (by simp [rank])
    | invoke r m => exact absurd hr (by simp [rank])
    | builtin b =>
      by_cases hb : b = .len
      case neg => cases b <;> first | exact absurd rfl hb | (simp [rank] at hr)
      subst hb
      simp only [kindOk] at hk
      have ht : isRowType P (ats.getD 0 0) = true := by
        simp only [rank] at hr
        split at hr
        · assumption
        · cases hr
      refine val (s := Builtin.len_ ats type (args.map a.eval)) (calm_len _ _ _ ?_ ht)
      cases h0 : args[0]? with
      | none => simp [h0, Act.eval, rowV] at hk
      | some x => simpa [h0] using hk
  | _ => simp only [rank] at hr <;> cases hr

theorem reads_loadOp (o : Oper) (a : Act) (t : TypeId) (x : Operand) (ho : o.op = .load t x) (w : World) (n : Next) (w' : World) (h : (execOp a.eval o).run P w = .ok n w') : ∃ v, n = .value v ∧ w' = w := by
  obtain ⟨dst, op, type, pos, after, guard⟩ := o
  simp only at ho
  subst ho
  have h' : ((Instr.loadAt t (a.eval x)) >>= fun v => (pure (Next.value v) : Sem Next)).run P w = .ok n w' := h
  rw [Sem.run_bind] at h'
  cases hr : (Instr.loadAt t (a.eval x)).run P w with
  | halt e w1 => rw [hr] at h'; cases h'
  | ok v w1 =>
    rw [hr, Result.andThen_ok] at h'
    have h2 : Result.ok (Next.value v) w1 = .ok n w' := h'
    injection h2 with h3 h4
    have hl : Reads P (Instr.loadAt t (a.eval x)) := reads_bind (calm_sureAddr _).reads fun b => reads_loadVar _ _
    exact ⟨v, h3.symm, h4.symm.trans (hl w v w1 hr)⟩

/-- An operation of rank at most 1 yields a value and leaves the world. -/
theorem quiet_op (o : Oper) (a : Act) (hr : rank P o ≤ 1) (hk : kindOk a o = true) (w : World) (n : Next) (w' : World) (h : (execOp a.eval o).run P w = .ok n w') : ∃ v, n = .value v ∧ w' = w := by
  by_cases h0 : rank P o = 0
  · obtain ⟨h1, h2⟩ := calm_op o a h0 hk
    obtain ⟨v, hv⟩ := h2 w n w' h
    exact ⟨v, hv, (h1 w n w' h).1⟩
  · have h1 : rank P o = 1 := by omega
    cases ho : o.op with
    | load t x => exact reads_loadOp o a t x ho w n w' h
    | call c =>
      exfalso
      obtain ⟨callee, args, ats⟩ := c
      cases callee with
      | builtin b =>
        by_cases hb : b = .len
        · subst hb
          simp only [rank, ho] at h1
          split at h1 <;> omega
        · cases b <;> first | exact absurd rfl hb | (simp [rank, ho] at h1)
      | _ => simp [rank, ho] at h1
    | _ =>
      exfalso
      simp only [rank, ho] at h1
      first
        | omega
        | (split at h1 <;> omega)

/-! ### The order -/
/-- What an operation's computation comes to: how the deferred calls change, the value, the world. No panic, nothing unsupported. -/
def tr (P : Program) (s : Sem Next) (w : World) (R : (List Deferred → List Deferred) → Value → World → Prop) : Prop := match s.run P w with
  | .ok (.value v) w' => R id v w'
  | .ok .skip w' => R id undef w'
  | .ok (.defer d) w' => R (d :: ·) undef w'
  | .ok (.enter f args) w' => Calls P f args w' fun
      | .returned v, w'' => R id v w''
      | _, _ => False
  | .ok (.row row args) w' => Rows P row args w' fun v w'' => R id v w''
  | _ => False
theorem tr_mono {s : Sem Next} {w : World} {R R' : (List Deferred → List Deferred) → Value → World → Prop} (h : tr P s w R) (hR : ∀ g v w', R g v w' → R' g v w') : tr P s w R' := by
  unfold tr at *
  split <;> rename_i hs <;> simp only [hs] at h
  · exact hR _ _ _ h
  · exact hR _ _ _ h
  · exact hR _ _ _ h
  · exact h.mono fun e w'' he => by cases e <;> first | exact hR _ _ _ he | exact he
  · exact Rows.mono h fun v w'' he => hR _ _ _ he
theorem tr_some {s : Sem Next} {w : World} {R : (List Deferred → List Deferred) → Value → World → Prop} (h : tr P s w R) : ∃ g v w', R g v w' := by
  unfold tr at h
  split at h
  · exact ⟨_, _, _, h⟩
  · exact ⟨_, _, _, h⟩
  · exact ⟨_, _, _, h⟩
  · obtain ⟨e, w'', fr, hR, _⟩ := h []
    cases e
    · exact ⟨_, _, _, hR⟩
    · exact hR.elim
    · exact hR.elim
  · obtain ⟨v, w'', hR, _⟩ := h default []
    exact ⟨_, _, _, hR⟩
  · exact h.elim
theorem tr_value {s : Sem Next} {w : World} {v : Value} {R : (List Deferred → List Deferred) → Value → World → Prop} (hs : s.run P w = .ok (.value v) w) : tr P s w R ↔ R id v w := by
  unfold tr
  rw [hs]

def upd (a : Act) (g : List Deferred → List Deferred) (d : Option Tmp) (v : Value) : Act := ({ a with defers := g a.defers } : Act).put d v
theorem upd_eval (a : Act) (g : List Deferred → List Deferred) (d : Option Tmp) (v : Value) : (upd a g d v).eval = (a.put d v).eval := by cases d <;> rfl
theorem upd_tmps (a : Act) (g : List Deferred → List Deferred) (d : Option Tmp) (v : Value) : (upd a g d v).tmps = (a.put d v).tmps := by cases d <;> rfl
theorem upd_id (a : Act) (d : Option Tmp) (v : Value) : upd a id d v = a.put d v := rfl
theorem upd_put (a : Act) (g : List Deferred → List Deferred) (d e : Option Tmp) (v u : Value) (h : ∀ x, d = some x → e ≠ some x) : upd (a.put e u) g d v = (upd a g d v).put e u := by
  unfold upd
  rw [show ({ a.put e u with defers := g (a.put e u).defers } : Act) = ({ a with defers := g a.defers } : Act).put e u from by cases e <;> rfl]
  exact (Act.put_comm _ v u h).symm

variable {ops : Array Oper} {md : Region.Mode}

/-- Operation number i comes up, and does not panic. -/
def fOp (P : Program) (ops : Array Oper) (i : Nat) (K : Act → World → Prop) (a : Act) (w : World) : Prop := match ops[i]? with
  | none => False
  | some o => if Region.wanted o (yielded ops a.tmps) then kindOk a o = true ∧ tr P (execOp a.eval o) w (fun g v w' => K (upd a g o.dst v) w') else K (a.put o.dst undef) w
theorem fOp_mono {i : Nat} {K K' : Act → World → Prop} {a : Act} {w : World} (h : fOp P ops i K a w) (hK : ∀ a w, K a w → K' a w) : fOp P ops i K' a w := by
  unfold fOp at *
  split <;> rename_i ho <;> simp only [ho] at h
  split <;> rename_i hw <;> simp only [hw] at h
  · exact ⟨h.1, tr_mono h.2 fun g v w' => hK _ _⟩
  · exact hK _ _ h
theorem fOp_some {i : Nat} {K : Act → World → Prop} {a : Act} {w : World} (h : fOp P ops i K a w) : ∃ o g v w', ops[i]? = some o ∧ K (upd a g o.dst v) w' := by
  unfold fOp at h
  split at h
  · exact h.elim
  · rename_i o ho
    split at h
    · obtain ⟨g, v, w', hK⟩ := tr_some h.2
      exact ⟨o, g, v, w', ho, hK⟩
    · exact ⟨o, id, undef, w, ho, h⟩

/-- What an operation looks at is as it was. -/
structure SameFor (ops : Array Oper) (o : Oper) (a b : Act) : Prop where
  exec : execOp b.eval o = execOp a.eval o
  want : Region.wanted o (yielded ops b.tmps) = Region.wanted o (yielded ops a.tmps)
  kind : kindOk b o = kindOk a o
theorem eval_looks (o : Oper) (a : Act) (d : Option Tmp) (v : Value) (h : ∀ t, d = some t → t ∉ o.looksAt ops) (x : Operand) (hx : x ∈ o.op.operands) : (a.put d v).eval x = a.eval x :=
  Act.eval_put fun t ht hxt => h t ht (by
    subst hxt
    exact List.mem_append_left _ (List.mem_filterMap.2 ⟨.tmp t, by simpa using hx, rfl⟩))
theorem kindOk_congr (o : Oper) (a b : Act) (h : ∀ x ∈ o.op.operands, b.eval x = a.eval x) : kindOk b o = kindOk a o := by
  obtain ⟨dst, op, type, pos, after, guard⟩ := o
  cases op with
  | call c =>
    obtain ⟨callee, args, ats⟩ := c
    cases callee with
    | builtin bi =>
      by_cases hb : bi = .len
      case neg => cases bi <;> first | exact absurd rfl hb | rfl
      subst hb
      simp only [kindOk]
      cases h0 : args[0]? with
      | none => simp [h0, Act.eval]
      | some x =>
        have hx := h x (by simp [Op.operands, Call.operands, Array.mem_of_getElem? h0])
        simp [h0, hx]
    | _ => rfl
  | _ => simp only [Op.operands] at h <;> simp only [kindOk] <;> first | rfl | (simp_all; done)
theorem same_put (o : Oper) (hs : ∀ cs b, o.op ≠ .select cs b) (a : Act) (d : Option Tmp) (v : Value) (h : ∀ t, d = some t → t ∉ o.looksAt ops) : SameFor ops o a (a.put d v) :=
  ⟨execOp_put o hs a d v h, wanted_put o a d v h, kindOk_congr o _ _ (eval_looks o a d v h)⟩
theorem same_upd (o : Oper) (hs : ∀ cs b, o.op ≠ .select cs b) (a : Act) (g : List Deferred → List Deferred) (d : Option Tmp) (v : Value) (h : ∀ t, d = some t → t ∉ o.looksAt ops) : SameFor ops o a (upd a g d v) := by
  have hp := same_put (ops := ops) o hs a d v h
  exact ⟨by rw [upd_eval]; exact hp.exec, by rw [upd_tmps]; exact hp.want, (kindOk_congr o (a.put d v) (upd a g d v) fun x _ => by rw [upd_eval]).trans hp.kind⟩

/-- Two operations may change places. -/
def okPair (P : Program) (x y : Oper) : Bool := rank P x == 0 || rank P y == 0 || (decide (rank P x ≤ 1) && decide (rank P y ≤ 1))

/-- A computation of an operation that yields a value only. -/
theorem tr_quiet {o : Oper} {a : Act} {w : World} {R : (List Deferred → List Deferred) → Value → World → Prop} (hr : rank P o ≤ 1) (hk : kindOk a o = true) (h : tr P (execOp a.eval o) w R) :
    ∃ v, (execOp a.eval o).run P w = .ok (.value v) w ∧ R id v w := by
  cases hs : (execOp a.eval o).run P w with
  | halt e w' => unfold tr at h; rw [hs] at h; exact h.elim
  | ok n w' =>
    obtain ⟨v, rfl, rfl⟩ := quiet_op o a hr hk w n w' hs
    exact ⟨v, rfl, (tr_value hs).1 h⟩
theorem run_calm {o : Oper} {a : Act} {w : World} {v : Value} (hr : rank P o = 0) (hk : kindOk a o = true) (h : (execOp a.eval o).run P w = .ok (.value v) w) (w2 : World) : (execOp a.eval o).run P w2 = .ok (.value v) w2 :=
  ((calm_op o a hr hk).1 w _ w h).2 w2

theorem fOp_swap {i j : Nat} {oi oj : Oper} (hi : ops[i]? = some oi) (hj : ops[j]? = some oj) (hap : oi.apart ops oj = true) (hok : okPair P oi oj = true)
    (hsi : ∀ cs b, oi.op ≠ .select cs b) (hsj : ∀ cs b, oj.op ≠ .select cs b) {K : Act → World → Prop} {a : Act} {w : World}
    (h : fOp P ops i (fun a' w' => fOp P ops j K a' w') a w) : fOp P ops j (fun a' w' => fOp P ops i K a' w') a w := by
  obtain ⟨h1, h2, h3⟩ := Oper.apart_spec hap
  have h2' : ∀ d, oj.dst = some d → oi.dst ≠ some d := fun d hd he => h2 d he hd
  have si : ∀ g v, SameFor ops oi a (upd a g oj.dst v) := fun g v => same_upd oi hsi a g oj.dst v h3
  have sj : ∀ g v, SameFor ops oj a (upd a g oi.dst v) := fun g v => same_upd oj hsj a g oi.dst v h1
  unfold fOp at h ⊢
  simp only [hi, hj] at h ⊢
  by_cases wi : Region.wanted oi (yielded ops a.tmps) = true
  · by_cases wj : Region.wanted oj (yielded ops a.tmps) = true
    · simp only [wi, wj, if_true] at h ⊢
      obtain ⟨ki, ti⟩ := h
      have key : ∀ g v w', (if Region.wanted oj (yielded ops (upd a g oi.dst v).tmps) = true then kindOk (upd a g oi.dst v) oj = true ∧ tr P (execOp (upd a g oi.dst v).eval oj) w' (fun g' v' w'' => K (upd (upd a g oi.dst v) g' oj.dst v') w'') else K ((upd a g oi.dst v).put oj.dst undef) w') →
          kindOk a oj = true ∧ tr P (execOp a.eval oj) w' (fun g' v' w'' => K (upd (upd a g oi.dst v) g' oj.dst v') w'') := by
        intro g v w' hh
        rw [if_pos (by rw [(sj g v).want]; exact wj), (sj g v).kind, (sj g v).exec] at hh
        exact hh
      have back : ∀ g v w', kindOk a oi = true → tr P (execOp a.eval oi) w' (fun g' v' w'' => K (upd (upd a g oj.dst v) g' oi.dst v') w'') →
          (if Region.wanted oi (yielded ops (upd a g oj.dst v).tmps) = true then kindOk (upd a g oj.dst v) oi = true ∧ tr P (execOp (upd a g oj.dst v).eval oi) w' (fun g' v' w'' => K (upd (upd a g oj.dst v) g' oi.dst v') w'') else K ((upd a g oj.dst v).put oi.dst undef) w') := by
        intro g v w' hk ht
        rw [if_pos (by rw [(si g v).want]; exact wi), (si g v).kind, (si g v).exec]
        exact ⟨hk, ht⟩
      simp only [okPair, Bool.or_eq_true, beq_iff_eq, Bool.and_eq_true, decide_eq_true_eq] at hok
      rcases hok with (h0 | h0) | ⟨ri, rj⟩
      · -- the first one is calm
        obtain ⟨v, hv, hh⟩ := tr_quiet (by omega) ki ti
        obtain ⟨kj, tj⟩ := key _ _ _ hh
        refine ⟨kj, tr_mono tj fun g u w' hK => ?_⟩
        refine back _ _ _ ki ((tr_value (run_calm h0 ki hv w')).2 ?_)
        show K ((upd a g oj.dst u).put oi.dst v) w'
        rw [← upd_put a g oj.dst oi.dst u v h2']
        exact hK
      · -- the second one is calm
        obtain ⟨g1, v1, w1, hh1⟩ := tr_some ti
        obtain ⟨kj, tj1⟩ := key _ _ _ hh1
        obtain ⟨u, hu, _⟩ := tr_quiet (by omega) kj tj1
        refine ⟨kj, (tr_value (run_calm h0 kj hu w)).2 (back _ _ _ ki (tr_mono ti fun g v w' hh => ?_))⟩
        have := (tr_value (run_calm h0 kj hu w')).1 (key _ _ _ hh).2
        show K (upd (a.put oj.dst u) g oi.dst v) w'
        rw [upd_put a g oi.dst oj.dst v u h2]
        exact this
      · obtain ⟨v, hv, hh⟩ := tr_quiet ri ki ti
        obtain ⟨kj, tj⟩ := key _ _ _ hh
        obtain ⟨u, hu, hK⟩ := tr_quiet rj kj tj
        refine ⟨kj, (tr_value hu).2 (back _ _ _ ki ((tr_value hv).2 ?_))⟩
        show K ((a.put oj.dst u).put oi.dst v) w
        rw [Act.put_comm a u v h2']
        exact hK
    · simp only [wi, wj, if_true] at h ⊢
      obtain ⟨ki, ti⟩ := h
      have sp := same_put (ops := ops) oi hsi a oj.dst undef h3
      rw [if_neg (by simp), sp.want, if_pos wi, sp.kind, sp.exec]
      refine ⟨ki, tr_mono ti fun g v w' hh => ?_⟩
      rw [(sj g v).want, if_neg wj] at hh
      rwa [upd_put a g oi.dst oj.dst v undef h2]
  · simp only [wi] at h ⊢
    rw [if_neg (by simp)] at h
    have sp := same_put (ops := ops) oj hsj a oi.dst undef h1
    rw [sp.want, sp.kind, sp.exec] at h
    by_cases wj : Region.wanted oj (yielded ops a.tmps) = true
    · rw [if_pos wj] at h ⊢
      refine ⟨h.1, tr_mono h.2 fun g v w' hK => ?_⟩
      rw [(si g v).want, if_neg wi, ← upd_put a g oj.dst oi.dst v undef h2']
      exact hK
    · rw [if_neg wj] at h ⊢
      have sq := same_put (ops := ops) oi hsi a oj.dst undef h3
      rw [sq.want, if_neg wi, Act.put_comm a undef undef h2']
      exact h

/-- Whatever order is picked. -/
def fAny (P : Program) (md : Region.Mode) (ops : Array Oper) (K : Act → World → Prop) : Nat → Array Bool → Act → World → Prop
  | 0, listed, a, w => Region.ready md ops listed = [] ∧ K a w
  | fuel + 1, listed, a, w => (Region.ready md ops listed = [] → K a w) ∧ ∀ i ∈ Region.ready md ops listed, fOp P ops i (fAny P md ops K fuel (listed.setIfInBounds i true)) a w

theorem fAny_first {K : Act → World → Prop} {i : Nat} {oi : Oper} (hi : ops[i]? = some oi) (hsel : ∀ (j : Nat) (o : Oper) cs b, ops[j]? = some o → o.op ≠ .select cs b) :
    ∀ (fuel : Nat) (listed : Array Bool) (a : Act) (w : World),
      (∀ j oj, ops[j]? = some oj → j ≠ i → listed.getD j true = false → (∀ e ∈ oj.after, Region.binds md e = true → e.on ≠ i) → oi.apart ops oj = true ∧ okPair P oi oj = true) →
      i ∈ Region.ready md ops listed → fOp P ops i (fAny P md ops K fuel (listed.setIfInBounds i true)) a w → fAny P md ops K (fuel + 1) listed a w := by
  intro fuel
  induction fuel with
  | zero =>
    intro listed a w _ hr H
    refine ⟨fun h => (by rw [h] at hr; cases hr), fun j hj => ?_⟩
    by_cases hji : j = i
    · subst hji; exact H
    · obtain ⟨o, g, v, w', _, h0, _⟩ := fOp_some H
      have := ready_mono hj hji
      rw [h0] at this
      cases this
  | succ fuel ih =>
    intro listed a w hfree hr H
    refine ⟨fun h => (by rw [h] at hr; cases hr), fun j hj => ?_⟩
    by_cases hji : j = i
    · subst hji; exact H
    · obtain ⟨hjun, oj, hoj, hall⟩ := mem_ready.1 hj
      have hnot : ∀ e ∈ oj.after, Region.binds md e = true → e.on ≠ i := fun e he hb heq => by
        have h1 := hall e he hb
        have h0 := (mem_ready.1 hr).1
        rw [heq] at h1
        rcases Nat.lt_or_ge i listed.size with h' | h'
        · simp [h'] at h0 h1; rw [h0] at h1; cases h1
        · simp [Array.getElem?_eq_none h'] at h1
      obtain ⟨hap, hok⟩ := hfree j oj hoj hji hjun hnot
      have h1 : fOp P ops i (fun a' w' => fOp P ops j (fAny P md ops K fuel ((listed.setIfInBounds i true).setIfInBounds j true)) a' w') a w :=
        fOp_mono H fun a' w' h => h.2 j (ready_mono hj hji)
      have h2 := fOp_swap hi hoj hap hok (fun cs b => hsel i oi cs b hi) (fun cs b => hsel j oj cs b hoj) h1
      have hfree' : ∀ k ok, ops[k]? = some ok → k ≠ i → (listed.setIfInBounds j true).getD k true = false →
          (∀ e ∈ ok.after, Region.binds md e = true → e.on ≠ i) → oi.apart ops ok = true ∧ okPair P oi ok = true := fun k ok hk hki hun hno => by
        refine hfree k ok hk hki ?_ hno
        by_cases hjk : j = k
        · subst hjk; exact hjun
        · rw [getD_set_ne true hjk] at hun; exact hun
      refine fOp_mono h2 fun a' w' h3 => ih (listed.setIfInBounds j true) a' w' hfree' (ready_mono hr (Ne.symm hji)) ?_
      rw [Array.setIfInBounds_comm _ _ hji]
      exact h3

/-- Nothing that is left and does not wait for operation i meets what it touches. -/
def freeE (P : Program) (md : Region.Mode) (ops : Array Oper) (listed : Array Bool) (i : Nat) : Bool :=
  match ops[i]? with
  | none => false
  | some oi => (List.range ops.size).all fun j => j == i || listed.getD j true || match ops[j]? with
      | some oj => oj.after.any (fun e => Region.binds md e && e.on == i) || (oi.apart ops oj && okPair P oi oj)
      | none => true
theorem freeE_spec {i : Nat} {oi : Oper} {listed : Array Bool} (hi : ops[i]? = some oi) (h : freeE P md ops listed i = true) (j : Nat) (oj : Oper)
    (hj : ops[j]? = some oj) (hne : j ≠ i) (hun : listed.getD j true = false) (hno : ∀ e ∈ oj.after, Region.binds md e = true → e.on ≠ i) :
    oi.apart ops oj = true ∧ okPair P oi oj = true := by
  simp only [freeE, hi, List.all_eq_true, List.mem_range] at h
  have h1 := h j (Array.getElem?_eq_some_iff.1 hj).1
  simp only [hj, Bool.or_eq_true, beq_iff_eq, hne, false_or, hun, Bool.false_eq_true] at h1
  rcases h1 with h1 | h1
  · obtain ⟨e, he, hb⟩ := Array.any_eq_true'.1 h1
    simp only [Bool.and_eq_true, beq_iff_eq] at hb
    exact absurd hb.2 (hno e he hb.1)
  · simpa using h1
def lexE (P : Program) (md : Region.Mode) (ops : Array Oper) : Nat → Nat → Array Bool → Bool
  | 0, _, listed => (Region.ready md ops listed).isEmpty
  | fuel + 1, k, listed => (Region.ready md ops listed).contains k && freeE P md ops listed k && lexE P md ops fuel (k + 1) (listed.setIfInBounds k true)

/-- The walk in the order of the text, with what is asked of each operation's operands. -/
def fList (P : Program) (ops : Array Oper) (K : Act → World → Prop) : List Oper → Act → World → Prop
  | [], a, w => K a w
  | o :: rest, a, w => if Region.wanted o (yielded ops a.tmps) then kindOk a o = true ∧ tr P (execOp a.eval o) w (fun g v w' => fList P ops K rest (upd a g o.dst v) w') else fList P ops K rest (a.put o.dst undef) w

theorem fAny_lex {K : Act → World → Prop} (hs : Region.noSelect ops = true) : ∀ (l : List Oper) (k : Nat) (listed : Array Bool) (a : Act) (w : World), (∀ j, l[j]? = ops[k + j]?) →
    lexE P md ops l.length k listed = true → fList P ops K l a w → fAny P md ops K l.length listed a w
  | [], _, _, _, _, _, hB, h => ⟨by simpa [lexE] using hB, h⟩
  | o :: l, k, listed, a, w, hl, hB, h => by
    have h0 : ops[k]? = some o := by simpa using (hl 0).symm
    simp only [List.length_cons, lexE, Bool.and_eq_true] at hB
    obtain ⟨⟨hr, hf⟩, hB'⟩ := hB
    refine fAny_first h0 (Region.noSelect_spec hs) l.length listed a w (freeE_spec h0 hf) (by simpa using hr) ?_
    have hst : fOp P ops k (fList P ops K l) a w := by unfold fOp; simp only [h0]; exact h
    exact fOp_mono hst fun a' w' h' => fAny_lex hs l (k + 1) _ _ _ (fun j => by have := hl (j + 1); simpa [Nat.add_assoc, Nat.add_comm 1 j] using this) hB' h'

theorem wp_of_tr {o : Oper} {a : Act} {w : World} {K : Act → World → Prop} {Q : Exit → Act → World → Prop} (h : tr P (execOp a.eval o) w fun g v w' => K (upd a g o.dst v) w') : o.wp P a w K Q := by
  unfold Oper.wp
  unfold tr at h
  generalize (execOp a.eval o).run P w = r at *
  cases r with
  | halt e w' => exact h.elim
  | ok n w' =>
    cases n <;> simp only at h <;> simp only [Oper.upon] <;> first | exact h | exact h.elim | skip
    exact h.mono fun e w'' he => by cases e <;> first | exact he | exact he.elim
theorem tr_of_wp {o : Oper} {a : Act} {w : World} {K : Act → World → Prop} {K0 : Act → World → Prop} (h : o.wp P a w K (Exit.then K0 fun _ _ _ => False)) : tr P (execOp a.eval o) w fun g v w' => K (upd a g o.dst v) w' := by
  unfold Oper.wp at h
  unfold tr
  generalize (execOp a.eval o).run P w = r at *
  cases r with
  | halt e w' => cases e <;> simp only [Oper.upon] at h <;> exact h.elim
  | ok n w' =>
    cases n <;> simp only [Oper.upon] at h ⊢ <;> first | exact h | skip
    exact h.mono fun e w'' he => by
      cases e
      · exact he
      · exact he.elim
      · obtain ⟨a', w3, hh⟩ := he
        exact hh.elim
theorem wpAny_of_fAny {K : Act → World → Prop} {Q : Exit → Act → World → Prop} (hQ : ∀ a w, K a w → Q .normal a w) : ∀ (fuel : Nat) (listed : Array Bool) (a : Act) (w : World), fAny P md ops K fuel listed a w → wpAny P md ops Q fuel listed a w
  | 0, _, _, _, h => ⟨h.1, hQ _ _ h.2⟩
  | fuel + 1, listed, a, w, h => ⟨fun h0 => hQ _ _ (h.1 h0), fun i hi => by
      have h1 := fOp_mono (h.2 i hi) fun a' w' h' => wpAny_of_fAny hQ fuel _ a' w' h'
      unfold fOp at h1
      unfold wpOp
      split at h1
      · exact h1.elim
      · rename_i o ho
        simp only [ho]
        split at h1 <;> rename_i hw
        · rw [if_pos hw]; exact .inl (wp_of_tr h1.2)
        · rw [if_neg hw]; exact h1⟩

/-! ### The operands' kinds, asked once, of the last frame -/
def kindful (o : Oper) : Bool := match o.op with
  | .binOp .. | .convert .. | .nilCheck _ | .slice .. | .indexAddr .. | .call { callee := .builtin .len, .. } => true
  | _ => false
/-- The slots on which an operation's kinds and its guard hang. -/
def hangsOn (ops : Array Oper) (o : Oper) : List Tmp :=
  (if kindful o then o.op.operands.toList.filterMap fun | .tmp t => some t | _ => none else []) ++
  (match o.guard with
   | some (g, _) => ((ops[g]?).bind (·.dst)).toList
   | none => [])
/-- No operation writes a slot on which it or an earlier one hangs. -/
def steady (ops : Array Oper) : List Oper → Bool
  | [] => true
  | o :: rest => (o :: rest).all (fun x => match x.dst with | some d => !(hangsOn ops o).contains d | none => true) && steady ops rest
def askKinds (ops : Array Oper) (a : Act) (l : List Oper) : Bool := l.all fun o => !Region.wanted o (yielded ops a.tmps) || kindOk a o

theorem kind_agree (o : Oper) (a b : Act) (h : ∀ t ∈ hangsOn ops o, b.tmps[t]? = a.tmps[t]?) : kindOk b o = kindOk a o ∧ Region.wanted o (yielded ops b.tmps) = Region.wanted o (yielded ops a.tmps) := by
  refine ⟨?_, ?_⟩
  · by_cases hk : kindful o = true
    · refine kindOk_congr o a b fun x hx => ?_
      cases x with
      | tmp t =>
        have := h t (by
          unfold hangsOn
          rw [if_pos hk]
          exact List.mem_append_left _ (List.mem_filterMap.2 ⟨.tmp t, by simpa using hx, rfl⟩))
        simp [Act.eval, Array.getD_eq_getD_getElem?, this]
      | _ => rfl
    · have triv : ∀ c : Act, kindOk c o = true := fun c => by
        unfold kindOk
        split <;> rename_i ho <;> first
          | exact absurd (by unfold kindful; rw [ho]) hk
          | rfl
      rw [triv, triv]
  · unfold Region.wanted
    cases hg : o.guard with
    | none => rfl
    | some gw =>
      obtain ⟨g, want⟩ := gw
      have hy : yielded ops b.tmps g = yielded ops a.tmps g := by
        unfold yielded
        cases ht : (ops[g]?).bind (·.dst) with
        | none => rfl
        | some t =>
          have := h t (by simp [hangsOn, hg, ht])
          simp only [Option.bind_some, this]
      simp only [hy]

theorem upd_agree (a : Act) (g : List Deferred → List Deferred) (d : Option Tmp) (v : Value) (t : Tmp) (h : d ≠ some t) : (upd a g d v).tmps[t]? = a.tmps[t]? := by
  cases d with
  | none => rfl
  | some e =>
    have hne : e ≠ t := fun he => h (by rw [he])
    simp [upd, Act.put, Array.getElem?_setIfInBounds_ne hne]

theorem wpList_end {K0 : Act → World → Prop} : ∀ (l : List Oper) (a : Act) (w : World), wpList P ops (Exit.then K0 fun _ _ _ => False) l a w →
    ∃ a' w', K0 a' w' ∧ ∀ t, (∀ o ∈ l, o.dst ≠ some t) → a'.tmps[t]? = a.tmps[t]?
  | [], a, w, h => ⟨a, w, h, fun _ _ => rfl⟩
  | o :: rest, a, w, h => by
    unfold wpList at h
    split at h
    · rcases h with h | ⟨_, a', w', hh⟩
      · obtain ⟨g, v, w1, h1⟩ := tr_some (tr_of_wp h)
        obtain ⟨a2, w2, hK, hag⟩ := wpList_end rest _ _ h1
        refine ⟨a2, w2, hK, fun t ht => ?_⟩
        rw [hag t fun o' ho' => ht o' (List.mem_cons_of_mem _ ho')]
        exact upd_agree _ _ _ _ _ (ht o List.mem_cons_self)
      · exact hh.elim
    · obtain ⟨a2, w2, hK, hag⟩ := wpList_end rest _ _ h
      refine ⟨a2, w2, hK, fun t ht => ?_⟩
      rw [hag t fun o' ho' => ht o' (List.mem_cons_of_mem _ ho')]
      exact upd_agree a id _ _ _ (ht o List.mem_cons_self)

theorem fList_of_wpList {K : Act → World → Prop} {all : List Oper} : ∀ (l : List Oper) (a : Act) (w : World), (∀ o ∈ l, o ∈ all) → steady ops l = true →
    wpList P ops (Exit.then (fun a w => askKinds ops a all = true ∧ K a w) fun _ _ _ => False) l a w → fList P ops K l a w
  | [], a, w, _, _, h => (show _ ∧ K a w from h).2
  | o :: rest, a, w, hin, hst, h => by
    have h0 := h
    simp only [steady, Bool.and_eq_true] at hst
    obtain ⟨hs1, hs2⟩ := hst
    have hin' : ∀ o' ∈ rest, o' ∈ all := fun o' ho' => hin o' (List.mem_cons_of_mem _ ho')
    unfold wpList at h
    unfold fList
    split at h <;> rename_i hw
    · rw [if_pos hw]
      rcases h with h | ⟨_, a', w', hh⟩
      case inr => exact hh.elim
      refine ⟨?_, tr_mono (tr_of_wp h) fun g v w' h' => fList_of_wpList rest _ _ hin' hs2 h'⟩
      obtain ⟨a2, w2, ⟨hask, _⟩, hag⟩ := wpList_end (o :: rest) a w h0
      have hh : ∀ t ∈ hangsOn ops o, a2.tmps[t]? = a.tmps[t]? := fun t ht => hag t fun o' ho' hd => by
        have := List.all_eq_true.1 hs1 o' ho'
        simp [hd, ht] at this
      obtain ⟨hk, hwant⟩ := kind_agree (ops := ops) o a a2 hh
      have := List.all_eq_true.1 hask o (hin o List.mem_cons_self)
      rw [hwant, hw, hk] at this
      simpa using this
    · rw [if_neg hw]
      exact fList_of_wpList rest _ _ hin' hs2 h

def seqB (P : Program) (l : List Oper) : Bool := Region.noSelect l.toArray && lexE P .any l.toArray l.length 0 (Array.replicate l.length false) && steady l.toArray l

/-- A region that draws its order, walked in the order of the text. -/
theorem wp_region_seq {id : Nat} {Q : Exit → Act → World → Prop} {a : Act} {w : World} {l : List Oper} (hm : P.follows .mixedOrders = true) (hB : seqB P l = true)
    (h : wpList P l.toArray (Exit.then (fun a' w' => askKinds l.toArray a' l = true ∧ Q .normal a' w') fun _ _ _ => False) l a w.drew) : (Code.region id l.toArray true).wp P Q a w := by
  simp only [seqB, Bool.and_eq_true] at hB
  obtain ⟨⟨h1, h2⟩, h3⟩ := hB
  refine wp_region_any hm ?_
  have hf := fList_of_wpList (K := fun a' w' => Q .normal a' w') l a w.drew (fun _ ho => ho) h3 h
  have hl := fAny_lex (P := P) (ops := l.toArray) (md := .any) h1 l 0 (Array.replicate l.length false) a w.drew (by simp) h2 hf
  have := wpAny_of_fAny (Q := Q) (fun _ _ hh => hh) _ _ _ _ hl
  simpa using this
end

end Go.Proofs.Ytfegjdabjdahgaa
