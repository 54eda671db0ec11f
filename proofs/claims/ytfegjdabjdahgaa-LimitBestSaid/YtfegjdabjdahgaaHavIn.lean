/- A region that draws its order and makes memory, walked by stretches inside a fence (a round of a range over a function): its operations call nothing. No theorem on the program stands here. -/
import Derived.Test.YtfegjdabjdahgaaHav
import Derived.OrdersIn
import Derived.TacticsIn
namespace Go.Proofs.Ytfegjdabjdahgaa
namespace Hv
set_option linter.unusedVariables false
set_option linter.unusedSimpArgs false

/-- It calls nothing and defers nothing. -/
def pureOp (o : Oper) : Bool := match o.op with
  | .call c => match c.callee with
    | .builtin .append | .builtin .len | .builtin .cap | .builtin .min | .builtin .max | .builtin .copy => true
    | _ => false
  | .move _ | .assign _ | .pick _ _ _ | .alloc _ | .box _ _ | .build _ _ | .buildSlice _ _ _ | .load _ _ | .store _ _ _ | .binOp _ _ _ _ _ | .unOp _ _ _ | .convert _ _ _ | .makeSlice _ _ _ | .slice _ _ _ _ _ | .fieldAddr _ _ _ | .indexAddr _ _ _ | .extract _ _ => true
  | .nilCheck _ => true
  | _ => false
/-- A value, none, or a halt. -/
def Plain (r : Result Next) : Prop := (∃ v w, r = .ok (.value v) w) ∨ (∃ w, r = .ok .skip w) ∨ ∃ e w, r = .halt e w
theorem plain_v {P : Program} (s : Sem Value) (w : World) : Plain ((do pure (Next.value (← s)) : Sem Next).run P w) := by
  rw [Sem.run_bind]
  cases s.run P w with
  | ok v w' => exact .inl ⟨v, w', rfl⟩
  | halt e w' => exact .inr (.inr ⟨e, w', rfl⟩)
theorem plain_u {P : Program} (s : Sem Unit) (w : World) : Plain ((do s; pure Next.skip : Sem Next).run P w) := by
  rw [Sem.run_bind]
  cases s.run P w with
  | ok v w' => exact .inr (.inl ⟨w', rfl⟩)
  | halt e w' => exact .inr (.inr ⟨e, w', rfl⟩)
theorem plain_bind {P : Program} {α : Type} (s : Sem α) (f : α → Sem Next) (w : World) (h : ∀ x w', Plain ((f x).run P w')) : Plain ((s >>= f).run P w) := by
  rw [Sem.run_bind]
  cases s.run P w with
  | ok v w' => exact h v w'
  | halt e w' => exact .inr (.inr ⟨e, w', rfl⟩)
theorem plain_pure {P : Program} (v : Value) (w : World) : Plain ((pure (Next.value v) : Sem Next).run P w) := .inl ⟨v, w, rfl⟩
theorem plain_panic {P : Program} (w : World) : Plain ((runtimePanic .nilDeref : Sem Next).run P w) := by
  unfold runtimePanic
  refine plain_bind _ _ _ fun _ _ => ?_
  exact .inr (.inr ⟨_, _, rfl⟩)
theorem pure_plain {P : Program} {o : Oper} (h : pureOp o = true) (ev : Operand → Value) (w : World) : Plain ((execOp ev o).run P w) := by
  unfold pureOp at h
  unfold execOp
  cases ho : o.op <;> simp only [ho] at h ⊢
  case call c =>
    unfold resolve
    cases hc : c.callee <;> simp only [hc] at h ⊢
    case builtin b =>
      rw [Sem.run_bind]
      simp only [Sem.run_pure, Result.andThen]
      cases b <;> simp only at h ⊢ <;> first | (exact absurd h (by decide)) | (unfold invoke builtin; exact plain_v _ _)
    all_goals exact absurd h (by decide)
  case nilCheck x =>
    repeat' split
    all_goals first | exact plain_pure _ _ | exact plain_panic _ | skip
    all_goals
      refine plain_bind _ _ _ fun _ _ => ?_
      refine plain_bind _ _ _ fun _ _ => ?_
      first
        | (split <;> first | exact plain_pure _ _ | exact plain_bind _ _ _ fun _ _ => plain_pure _ _)
        | exact plain_bind _ _ _ fun _ _ => plain_pure _ _
        | exact plain_pure _ _
  case pick c x y =>
    rw [Sem.run_bind]
    cases (asBool (ev c)).run P w with
    | ok v w' => exact .inl ⟨_, w', rfl⟩
    | halt e w' => exact .inr (.inr ⟨e, w', rfl⟩)
  all_goals first | exact plain_v _ _ | exact plain_u _ _ | (exact .inl ⟨_, _, rfl⟩) | (exact absurd h (by decide))
section
variable {P : Program} {Rel R3 : World → World → Prop} {V : Nat → Value → World → Prop} {w0 : World} {ops : Array Oper} {md : Region.Mode} {held free : List Nat} {F : Fence} {n : Nat}
theorem about_pure {o : Oper} (h : pureOp o = true) (w : World) (ev : Operand → Value) : o.about P w ev = none := by
  unfold pureOp at h
  unfold Oper.about
  cases ho : o.op <;> simp only [ho] at h ⊢
  case call c =>
    unfold resolve
    cases hc : c.callee <;> simp only [hc] at h ⊢
    case builtin b =>
      simp only [Sem.run_pure]
      rfl
    all_goals exact absurd h (by decide)
theorem semAt_pure {o : Oper} (h : pureOp o = true) (r : Option Nat) (ev : Operand → Value) : o.semAt r ev = execOp ev o := Oper.semAt_eq r ev o fun c hc => by
  unfold pureOp at h
  simp [hc] at h
theorem wpIn_of_tr {o : Oper} (hp : pureOp o = true) {a : Act} {w : World} {K : Act → World → Prop} {Q : Exit → Act → World → Prop} (h : tr P (execOp a.eval o) w fun g v w' => K (upd a g o.dst v) w') : o.wpIn F n P a w K Q := by
  refine ⟨fun f hf => (by rw [about_pure hp] at hf; cases hf), ?_⟩
  rw [semAt_pure hp]
  unfold tr at h
  rcases pure_plain (P := P) hp a.eval w with ⟨v, w', e⟩ | ⟨w', e⟩ | ⟨x, w', e⟩
  · rw [e] at h ⊢; exact h
  · rw [e] at h ⊢; exact h
  · rw [e] at h; exact h.elim
theorem wpAnyIn_of_hAny (H : Hyp2 Rel R3 V) (hp : ∀ (i : Nat) (o : Oper), ops[i]? = some o → pureOp o = true) {K : Act → World → Prop} {Q : Exit → Act → World → Prop} (hQ : ∀ a w, K a w → Q .normal a w) : ∀ (fuel : Nat) (listed : Array Bool) (a : Act) (w : World), hAny P Rel R3 V w0 md ops held free K fuel listed a w → wpAnyIn F n P md ops Q fuel listed a w
  | 0, _, _, _, h => ⟨h.1, hQ _ _ h.2⟩
  | fuel + 1, listed, a, w, h => by
      refine ⟨fun h0 => hQ _ _ (h.1 h0), fun i hi => ?_⟩
      have h1 := h.2 i hi
      unfold hOp at h1
      unfold wpOpIn
      split at h1
      · exact h1.elim
      · rename_i o ho
        simp only [ho]
        split at h1 <;> rename_i hw
        · rw [if_pos hw]
          refine wpIn_of_tr (hp i o ho) ?_
          generalize hc : cls P held free i o = c at h1
          match c with
          | 0 => obtain ⟨v, hv, hh⟩ := h1; exact (tr_value (hv w)).2 (wpAnyIn_of_hAny H hp hQ fuel _ _ _ hh)
          | 1 => obtain ⟨v, hv, hh⟩ := h1; exact (tr_value (hv w (H.rf _))).2 (wpAnyIn_of_hAny H hp hQ fuel _ _ _ hh)
          | 2 => exact tr_mono (h1 w (H.rf3 _)) fun g v w' hh => wpAnyIn_of_hAny H hp hQ fuel _ _ _ hh.2
          | 3 =>
            refine tr_mono (h1.2.1 w h1.1) fun g v w' hh => ?_
            obtain ⟨rfl, h2, h3⟩ := hh
            exact wpAnyIn_of_hAny H hp hQ fuel _ _ _ (h1.2.2 v w' h2 h3)
          | n + 4 =>
            have h2 : tr P (execOp a.eval o) w fun g v w' => hAny P Rel R3 V w0 md ops held free K fuel (listed.setIfInBounds i true) (upd a g o.dst v) w' := h1
            exact tr_mono h2 fun g v w' hh => wpAnyIn_of_hAny H hp hQ fuel _ _ _ hh
        · rw [if_neg hw]; exact ⟨fun f hf => (by rw [about_pure (hp i o ho)] at hf; cases hf), wpAnyIn_of_hAny H hp hQ fuel _ _ _ h1⟩
end
/-- A region that draws its order, inside a fence. -/
theorem wpIn_region_hav2 (Rel R3 : World → World → Prop) (V : Nat → Value → World → Prop) (H : Hyp2 Rel R3 V) (held free : List Nat) (s : List (Nat × List Nat)) (so : List (Nat × Nat × List Oper)) (l : List Oper)
    {P : Program} {F : Fence} {n : Nat} {id : Nat} {Q : Exit → Act → World → Prop} {a : Act} {w : World} (hm : P.follows .mixedOrders = true) (hB : holdB P l.toArray held free s = true) (hpu : l.all pureOp = true) (hso : segOps l.toArray s = so)
    (h : seg P Rel R3 V w.drew l.toArray (fun a' w' => askH P l.toArray held free a' = true ∧ Q .normal a' w') so a w.drew) : (Code.region id l.toArray true).wpIn F n P Q a w := by
  simp only [holdB, Bool.and_eq_true, beq_iff_eq] at hB
  obtain ⟨⟨⟨⟨h1, h2⟩, h3⟩, h4⟩, h5⟩ := hB
  refine wpIn_region_any hm ?_
  subst hso
  have hg := good_of_seg H (K := fun a' w' => Q .normal a' w') s a w.drew h2 h3 h
  have hl := hAny_ord (P := P) (Rel := Rel) (R3 := R3) (md := .any) H h1 (flat s) (Array.replicate l.toArray.size false) a w.drew (.inl (H.rf _)) h4 hg.1
  have := wpAnyIn_of_hAny (F := F) (n := n) H (fun i o ho => List.all_eq_true.1 hpu o (by
    have h9 := (Array.getElem?_eq_some_iff.1 ho)
    obtain ⟨hlt, e⟩ := h9
    rw [← e]
    simp)) (Q := Q) (fun _ _ hh => hh) _ _ _ _ hl
  rw [h5] at this
  exact this
end Hv
end Go.Proofs.Ytfegjdabjdahgaa
