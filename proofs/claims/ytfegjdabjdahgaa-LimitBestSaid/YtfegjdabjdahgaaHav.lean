/- A region that draws its order, holds calls and makes memory besides them: a walk by stretches in which the operations named 'free' come at any time, each with what its value is good for. No theorem on the program stands here. -/
import Derived.Test.YtfegjdabjdahgaaHold
namespace Go.Proofs.Ytfegjdabjdahgaa
namespace Hv
set_option linter.unusedVariables false

/-- What is asked of the relation of worlds and of what the free ones are good for. -/
structure Hyp2 (Rel R3 : World → World → Prop) (V : Nat → Value → World → Prop) : Prop where
  rf : ∀ w, Rel w w
  tr : ∀ a b c, Rel a b → Rel b c → Rel a c
  st : ∀ i v w w', V i v w → Rel w w' → V i v w'
  rf3 : ∀ w, R3 w w
  tr3 : ∀ a b c, R3 a b → R3 b c → R3 a c
  sub : ∀ w w', R3 w w' → Rel w w'
/-- The two relations are one. -/
structure Hyp (Rel : World → World → Prop) (V : Nat → Value → World → Prop) : Prop where
  rf : ∀ w, Rel w w
  tr : ∀ a b c, Rel a b → Rel b c → Rel a c
  st : ∀ i v w w', V i v w → Rel w w' → V i v w'
theorem Hyp.two {Rel : World → World → Prop} {V : Nat → Value → World → Prop} (h : Hyp Rel V) : Hyp2 Rel Rel V := ⟨h.rf, h.tr, h.st, h.rf, h.tr, fun _ _ h => h⟩

section
variable {P : Program} {Rel R3 : World → World → Prop} {V : Nat → Value → World → Prop} {w0 : World} {ops : Array Oper} {md : Region.Mode} {held free : List Nat}

/-- A step: 0: a value in whatever world; 1: a value in each later world; 2: any other, in each later world; 3: one that comes in any world behind w0; 4: the last one with an effect. -/
def St (P : Program) (Rel R3 : World → World → Prop) (V : Value → World → Prop) (w0 : World) (c : Nat) (s : Sem Next) (w : World) (R : (List Deferred → List Deferred) → Value → World → Prop) : Prop := match c with
  | 0 => ∃ v, (∀ w2, s.run P w2 = .ok (.value v) w2) ∧ R id v w
  | 1 => ∃ v, (∀ w2, Rel w w2 → s.run P w2 = .ok (.value v) w2) ∧ R id v w
  | 2 => ∀ w2, R3 w w2 → tr P s w2 fun g v w' => Rel w2 w' ∧ R g v w'
  | 3 => Rel w0 w ∧ (∀ w2, Rel w0 w2 → tr P s w2 fun g v w' => g = id ∧ R3 w2 w' ∧ V v w') ∧ ∀ v w', R3 w w' → V v w' → R id v w'
  | _ + 4 => tr P s w R

theorem St.mono (H : Hyp2 Rel R3 V) {U : Value → World → Prop} {c : Nat} {s : Sem Next} {w : World} {R R' : (List Deferred → List Deferred) → Value → World → Prop} (h : St P Rel R3 U w0 c s w R)
    (hR : ∀ g v w', (c ≤ 3 → Rel w w') → R g v w' → R' g v w') : St P Rel R3 U w0 c s w R' := by
  match c with
  | 0 => obtain ⟨v, h1, h2⟩ := h; exact ⟨v, h1, hR _ _ _ (fun _ => H.rf _) h2⟩
  | 1 => obtain ⟨v, h1, h2⟩ := h; exact ⟨v, h1, hR _ _ _ (fun _ => H.rf _) h2⟩
  | 2 =>
    intro w2 hw2
    exact tr_mono (h w2 hw2) fun g v w' hh => ⟨hh.1, hR _ _ _ (fun _ => H.tr _ _ _ (H.sub _ _ hw2) hh.1) hh.2⟩
  | 3 => exact ⟨h.1, h.2.1, fun v w' hw hV => hR _ _ _ (fun _ => H.sub _ _ hw) (h.2.2 v w' hw hV)⟩
  | n + 4 => exact tr_mono (show tr P s w R from h) fun g v w' hh => hR _ _ _ (fun h => by omega) hh
theorem St.some (H : Hyp2 Rel R3 V) {U : Value → World → Prop} {c : Nat} {s : Sem Next} {w : World} {R : (List Deferred → List Deferred) → Value → World → Prop} (h : St P Rel R3 U w0 c s w R) : ∃ g v w', R g v w' := by
  match c with
  | 0 => obtain ⟨v, h1, h2⟩ := h; exact ⟨_, _, _, h2⟩
  | 1 => obtain ⟨v, h1, h2⟩ := h; exact ⟨_, _, _, h2⟩
  | 2 =>
    obtain ⟨g, v, w', h1, h2⟩ := tr_some (h w (H.rf3 _))
    exact ⟨_, _, _, h2⟩
  | 3 =>
    obtain ⟨g, v, w', _, h1, h2⟩ := tr_some (h.2.1 w h.1)
    exact ⟨_, _, _, h.2.2 v w' h1 h2⟩
  | n + 4 =>
    obtain ⟨g, v, w', h1⟩ := tr_some (show tr P s w R from h)
    exact ⟨_, _, _, h1⟩

theorem St.swap (H : Hyp2 Rel R3 V) {U1 U2 : Value → World → Prop} (hU2 : ∀ v w w', U2 v w → Rel w w' → U2 v w') {c1 c2 : Nat} (hok : (c1 ≤ 1 ∧ c2 ≤ 3) ∨ c2 = 0 ∨ (c1 ≤ 3 ∧ c2 = 3)) {s1 s2 : Sem Next} {w : World} (hw : c2 = 3 → Rel w0 w)
    {R : (List Deferred → List Deferred) → Value → (List Deferred → List Deferred) → Value → World → Prop}
    (h : St P Rel R3 U1 w0 c1 s1 w fun g v w' => St P Rel R3 U2 w0 c2 s2 w' fun g' v' w'' => R g v g' v' w'') :
    St P Rel R3 U2 w0 c2 s2 w fun g' v' w' => St P Rel R3 U1 w0 c1 s1 w' fun g v w'' => (g = id ∨ g' = id) ∧ R g v g' v' w'' := by
  have calm : ∀ {c1 : Nat} (h : St P Rel R3 U1 w0 c1 s1 w fun g v w' => St P Rel R3 U2 w0 0 s2 w' fun g' v' w'' => R g v g' v' w''), St P Rel R3 U2 w0 0 s2 w fun g' v' w' => St P Rel R3 U1 w0 c1 s1 w' fun g v w'' => (g = id ∨ g' = id) ∧ R g v g' v' w'' := fun {c1} h => by
    obtain ⟨g, v, w', u, hu, _⟩ := St.some H h
    refine ⟨u, hu, St.mono H h fun g v w' _ hh => ⟨.inr rfl, ?_⟩⟩
    obtain ⟨u', hu', hR⟩ := hh
    have e := (hu w).symm.trans (hu' w)
    injection e with e _
    injection e with e
    rw [e]
    exact hR
  by_cases h20 : c2 = 0
  · subst h20
    exact calm h
  match c1, hok with
  | 0, hok =>
    obtain ⟨v, hv, h2⟩ := h
    exact h2.mono H fun g' v' w' _ hR => ⟨v, hv, .inl rfl, hR⟩
  | 1, hok =>
    obtain ⟨v, hv, h2⟩ := h
    exact h2.mono H fun g' v' w' hw' hR => ⟨v, fun w2 hr => hv w2 (H.tr _ _ _ (hw' (by omega)) hr), .inl rfl, hR⟩
  | 2, hok =>
    obtain rfl : c2 = 3 := by omega
    obtain ⟨_, _, _, _, _, hA, _⟩ := tr_some (h w (H.rf3 _))
    refine ⟨hw rfl, hA, fun v' w' hw' hV w2 hw2 => tr_mono (h w2 (H.tr3 _ _ _ hw' hw2)) fun g v w'' hh => ⟨hh.1, .inr rfl, ?_⟩⟩
    exact hh.2.2.2 v' w'' (H.rf3 _) (hU2 _ _ _ hV (H.tr _ _ _ (H.sub _ _ hw2) hh.1))
  | 3, hok =>
    obtain rfl : c2 = 3 := by omega
    obtain ⟨h0, hA, hB⟩ := h
    obtain ⟨g, v, w', _, h1, h2⟩ := tr_some (hA w h0)
    refine ⟨h0, (hB v w' h1 h2).2.1, fun v' w1 hw1 hV' => ⟨H.tr _ _ _ h0 (H.sub _ _ hw1), hA, fun v w2 hw2 hV => ⟨.inl rfl, ?_⟩⟩⟩
    exact (hB v w2 (H.tr3 _ _ _ hw1 hw2) hV).2.2 v' w2 (H.rf3 _) (hU2 _ _ _ hV' (H.sub _ _ hw2))
  | n + 4, hok => exact absurd hok (by omega)

/-- Of 'free': i: it comes at any time; i + 1000: it is the last one with an effect. -/
def cls (P : Program) (held free : List Nat) (i : Nat) (o : Oper) : Nat := if free.contains (i + 1000) then 4 else if free.contains i then 3 else if held.contains i then 1 else if rank P o = 0 then 0 else 2

def hOp (P : Program) (Rel R3 : World → World → Prop) (V : Nat → Value → World → Prop) (w0 : World) (ops : Array Oper) (held free : List Nat) (i : Nat) (K : Act → World → Prop) (a : Act) (w : World) : Prop := match ops[i]? with
  | none => False
  | some o => if Region.wanted o (yielded ops a.tmps) then St P Rel R3 (V i) w0 (cls P held free i o) (execOp a.eval o) w (fun g v w' => K (upd a g o.dst v) w') else K (a.put o.dst undef) w
theorem hOp_mono (H : Hyp2 Rel R3 V) {i : Nat} {K K' : Act → World → Prop} {a : Act} {w : World} (h : hOp P Rel R3 V w0 ops held free i K a w) (hK : ∀ a w', ((∀ o, ops[i]? = some o → cls P held free i o ≤ 3) → Rel w w') → K a w' → K' a w') : hOp P Rel R3 V w0 ops held free i K' a w := by
  unfold hOp at *
  split <;> rename_i ho <;> simp only [ho] at h
  split <;> rename_i hw
  · rw [if_pos hw] at h
    exact h.mono H fun g v w' hw' hh => hK _ _ (fun hc => hw' (hc _ ho)) hh
  · rw [if_neg hw] at h
    exact hK _ _ (fun _ => H.rf _) h
theorem hOp_some (H : Hyp2 Rel R3 V) {i : Nat} {K : Act → World → Prop} {a : Act} {w : World} (h : hOp P Rel R3 V w0 ops held free i K a w) : ∃ o g v w', ops[i]? = some o ∧ K (upd a g o.dst v) w' := by
  unfold hOp at h
  split at h
  · exact h.elim
  · rename_i o ho
    split at h
    · obtain ⟨g, v, w', hK⟩ := h.some H
      exact ⟨o, g, v, w', ho, hK⟩
    · exact ⟨o, id, undef, w, ho, h⟩
def okH (P : Program) (held free : List Nat) (i j : Nat) (oi oj : Oper) : Bool := (decide (cls P held free i oi ≤ 1) && decide (cls P held free j oj ≤ 3)) || decide (cls P held free j oj = 0) || (decide (cls P held free i oi ≤ 3) && decide (cls P held free j oj = 3))

theorem hOp_swap (H : Hyp2 Rel R3 V) {i j : Nat} {oi oj : Oper} (hi : ops[i]? = some oi) (hj : ops[j]? = some oj) (hap : oi.apart ops oj = true) (hok : okH P held free i j oi oj = true)
    (hsi : ∀ cs b, oi.op ≠ .select cs b) (hsj : ∀ cs b, oj.op ≠ .select cs b) {K : Act → World → Prop} {a : Act} {w : World} (hw0 : cls P held free j oj = 3 → Rel w0 w)
    (h : hOp P Rel R3 V w0 ops held free i (fun a' w' => hOp P Rel R3 V w0 ops held free j K a' w') a w) : hOp P Rel R3 V w0 ops held free j (fun a' w' => hOp P Rel R3 V w0 ops held free i K a' w') a w := by
  obtain ⟨h1, h2, h3⟩ := Oper.apart_spec hap
  have h2' : ∀ d, oj.dst = some d → oi.dst ≠ some d := fun d hd he => h2 d he hd
  have si : ∀ g v, SameFor ops oi a (upd a g oj.dst v) := fun g v => same_upd oi hsi a g oj.dst v h3
  have sj : ∀ g v, SameFor ops oj a (upd a g oi.dst v) := fun g v => same_upd oj hsj a g oi.dst v h1
  simp only [okH, Bool.or_eq_true, Bool.and_eq_true, decide_eq_true_eq] at hok
  unfold hOp at h ⊢
  simp only [hi, hj] at h ⊢
  by_cases wi : Region.wanted oi (yielded ops a.tmps) = true
  · by_cases wj : Region.wanted oj (yielded ops a.tmps) = true
    · rw [if_pos wi] at h
      rw [if_pos wj]
      have h' : St P Rel R3 (V i) w0 (cls P held free i oi) (execOp a.eval oi) w fun g v w' => St P Rel R3 (V j) w0 (cls P held free j oj) (execOp a.eval oj) w' fun g' v' w'' => K (upd (upd a g oi.dst v) g' oj.dst v') w'' :=
        h.mono H fun g v w' _ hh => by
          rw [(sj g v).want, if_pos wj, (sj g v).exec] at hh
          exact hh
      refine (St.swap H (H.st j) (by omega) hw0 h').mono H fun g' v' w' _ hh => ?_
      rw [(si g' v').want, if_pos wi, (si g' v').exec]
      refine hh.mono H fun g v w'' _ hR => ?_
      obtain ⟨hg, hR⟩ := hR
      rcases hg with rfl | rfl
      · rw [show upd (upd a g' oj.dst v') id oi.dst v = (upd a g' oj.dst v').put oi.dst v from rfl, ← upd_put a g' oj.dst oi.dst v' v h2']
        exact hR
      · rw [show upd (upd a id oj.dst v') g oi.dst v = upd (a.put oj.dst v') g oi.dst v from rfl, upd_put a g oi.dst oj.dst v v' h2]
        exact hR
    · rw [if_pos wi] at h
      rw [if_neg wj]
      have sp := same_put (ops := ops) oi hsi a oj.dst undef h3
      rw [sp.want, if_pos wi, sp.exec]
      refine h.mono H fun g v w' _ hh => ?_
      rw [(sj g v).want, if_neg wj] at hh
      rwa [upd_put a g oi.dst oj.dst v undef h2]
  · rw [if_neg wi] at h
    have sp := same_put (ops := ops) oj hsj a oi.dst undef h1
    rw [sp.want, sp.exec] at h
    by_cases wj : Region.wanted oj (yielded ops a.tmps) = true
    · rw [if_pos wj] at h ⊢
      refine h.mono H fun g v w' _ hK => ?_
      rw [(si g v).want, if_neg wi, ← upd_put a g oj.dst oi.dst v undef h2']
      exact hK
    · rw [if_neg wj] at h ⊢
      have sq := same_put (ops := ops) oi hsi a oj.dst undef h3
      rw [sq.want, if_neg wi, Act.put_comm a undef undef h2']
      exact h

def hAny (P : Program) (Rel R3 : World → World → Prop) (V : Nat → Value → World → Prop) (w0 : World) (md : Region.Mode) (ops : Array Oper) (held free : List Nat) (K : Act → World → Prop) : Nat → Array Bool → Act → World → Prop
  | 0, listed, a, w => Region.ready md ops listed = [] ∧ K a w
  | fuel + 1, listed, a, w => (Region.ready md ops listed = [] → K a w) ∧ ∀ i ∈ Region.ready md ops listed, hOp P Rel R3 V w0 ops held free i (hAny P Rel R3 V w0 md ops held free K fuel (listed.setIfInBounds i true)) a w

/-- Either the worlds are still in step, or nothing is left but what is calm. -/
def Step3 (P : Program) (Rel : World → World → Prop) (w0 : World) (ops : Array Oper) (held free : List Nat) (listed : Array Bool) (w : World) : Prop :=
  Rel w0 w ∨ ∀ j oj, ops[j]? = some oj → listed.getD j true = false → cls P held free j oj = 0
theorem Step3.next (H : Hyp2 Rel R3 V) {listed : Array Bool} {w w' : World} {k : Nat} (h : Step3 P Rel w0 ops held free listed w) (hw : Rel w w') : Step3 P Rel w0 ops held free (listed.setIfInBounds k true) w' := by
  rcases h with h | h
  · exact .inl (H.tr _ _ _ h hw)
  · refine .inr fun j oj hj hun => h j oj hj ?_
    by_cases hjk : j = k
    · subst hjk
      rcases Nat.lt_or_ge j listed.size with hl | hl
      · simp [hl] at hun
      · simp at hun
    · rwa [getD_set_ne true (Ne.symm hjk)] at hun

theorem hAny_first (H : Hyp2 Rel R3 V) {K : Act → World → Prop} {i : Nat} {oi : Oper} (hi : ops[i]? = some oi) (hsel : ∀ (j : Nat) (o : Oper) cs b, ops[j]? = some o → o.op ≠ .select cs b)
    (B : List Nat) (hB : ∀ j ∈ B, ∃ oj, ops[j]? = some oj ∧ ∃ e ∈ oj.after, Region.binds md e = true ∧ (e.on = i ∨ e.on ∈ B)) :
    ∀ (fuel : Nat) (listed : Array Bool) (a : Act) (w : World), Step3 P Rel w0 ops held free listed w → (∀ j ∈ B, listed.getD j true = false) →
      (∀ j oj, ops[j]? = some oj → j ≠ i → listed.getD j true = false → j ∉ B → oi.apart ops oj = true ∧ okH P held free i j oi oj = true) →
      i ∈ Region.ready md ops listed → hOp P Rel R3 V w0 ops held free i (hAny P Rel R3 V w0 md ops held free K fuel (listed.setIfInBounds i true)) a w → hAny P Rel R3 V w0 md ops held free K (fuel + 1) listed a w := by
  intro fuel
  induction fuel with
  | zero =>
    intro listed a w hw0 _ _ hr HH
    refine ⟨fun h => (by rw [h] at hr; cases hr), fun j hj => ?_⟩
    by_cases hji : j = i
    · subst hji; exact HH
    · obtain ⟨o, g, v, w', _, h0, _⟩ := hOp_some H HH
      have := ready_mono hj hji
      rw [h0] at this
      cases this
  | succ fuel ih =>
    intro listed a w hw0 hBl hfree hr HH
    refine ⟨fun h => (by rw [h] at hr; cases hr), fun j hj => ?_⟩
    by_cases hji : j = i
    · subst hji; exact HH
    · obtain ⟨hjun, oj, hoj, hall⟩ := mem_ready.1 hj
      have hun : ∀ x, listed.getD x true = false → ∀ e ∈ oj.after, Region.binds md e = true → e.on ≠ x := fun x h0 e he hb heq => by
        have h1 := hall e he hb
        rw [heq] at h1
        rcases Nat.lt_or_ge x listed.size with h' | h'
        · simp [h'] at h0 h1; rw [h0] at h1; cases h1
        · simp [Array.getElem?_eq_none h'] at h1
      have hnot : j ∉ B := fun hjB => by
        obtain ⟨oj', ho', e, he, hb, hon⟩ := hB j hjB
        rw [hoj] at ho'
        injection ho' with ho'
        subst ho'
        rcases hon with hon | hon
        · exact hun i (mem_ready.1 hr).1 e he hb hon
        · exact hun e.on (hBl _ hon) e he hb rfl
      obtain ⟨hap, hok⟩ := hfree j oj hoj hji hjun hnot
      have h1 : hOp P Rel R3 V w0 ops held free i (fun a' w' => hOp P Rel R3 V w0 ops held free j (hAny P Rel R3 V w0 md ops held free K fuel ((listed.setIfInBounds i true).setIfInBounds j true)) a' w') a w :=
        hOp_mono H HH fun a' w' _ h => h.2 j (ready_mono hj hji)
      have h2 := hOp_swap H hi hoj hap hok (fun cs b => hsel i oi cs b hi) (fun cs b => hsel j oj cs b hoj) (fun hc => by
        rcases hw0 with h | h
        · exact h
        · exact absurd (h j oj hoj hjun) (by omega)) h1
      have hne : ∀ k, k ≠ j → (listed.setIfInBounds j true).getD k true = listed.getD k true := fun k hk => getD_set_ne true (Ne.symm hk)
      have hfree' : ∀ k ok, ops[k]? = some ok → k ≠ i → (listed.setIfInBounds j true).getD k true = false → k ∉ B → oi.apart ops ok = true ∧ okH P held free i k oi ok = true := fun k ok hk hki hun hno => by
        refine hfree k ok hk hki ?_ hno
        by_cases hjk : j = k
        · subst hjk; exact hjun
        · rw [hne k (Ne.symm hjk)] at hun; exact hun
      have hBl' : ∀ k ∈ B, (listed.setIfInBounds j true).getD k true = false := fun k hk => by
        rw [hne k (fun e => hnot (e ▸ hk))]
        exact hBl k hk
      have hcj : cls P held free j oj ≤ 3 := by
        simp only [okH, Bool.or_eq_true, Bool.and_eq_true, decide_eq_true_eq] at hok
        omega
      refine hOp_mono H h2 fun a' w' hw' h3 => ih (listed.setIfInBounds j true) a' w' (hw0.next H (hw' fun o ho => by rw [hoj] at ho; injection ho with ho; subst ho; exact hcj)) hBl' hfree' (ready_mono hr (Ne.symm hji)) ?_
      rw [Array.setIfInBounds_comm _ _ hji]
      exact h3

def freeH (P : Program) (md : Region.Mode) (ops : Array Oper) (held free : List Nat) (listed : Array Bool) (i : Nat) : Bool :=
  match ops[i]? with
  | none => false
  | some oi => let B := behind md ops listed i; (List.range ops.size).all fun j => j == i || listed.getD j true || B.contains j || match ops[j]? with
      | some oj => oi.apart ops oj && okH P held free i j oi oj
      | none => true
theorem freeH_spec {i : Nat} {oi : Oper} {listed : Array Bool} (hi : ops[i]? = some oi) (h : freeH P md ops held free listed i = true) (j : Nat) (oj : Oper)
    (hj : ops[j]? = some oj) (hne : j ≠ i) (hun : listed.getD j true = false) (hno : j ∉ behind md ops listed i) :
    oi.apart ops oj = true ∧ okH P held free i j oi oj = true := by
  simp only [freeH, hi, List.all_eq_true, List.mem_range] at h
  have h1 := h j (Array.getElem?_eq_some_iff.1 hj).1
  have hno' : (behind md ops listed i).contains j = false := by
    cases hc : (behind md ops listed i).contains j
    · rfl
    · exact absurd (List.contains_iff_mem.1 hc) hno
  simp only [hj, Bool.or_eq_true, beq_iff_eq, hne, false_or, hun, Bool.false_eq_true, hno'] at h1
  simpa using h1
/-- Behind the last one with an effect nothing is left but what is calm. -/
def lastOk (P : Program) (ops : Array Oper) (held free : List Nat) (listed : Array Bool) (k : Nat) : Bool :=
  (match ops[k]? with | some o => decide (cls P held free k o ≤ 3) | none => true) || (List.range ops.size).all fun j => j == k || listed.getD j true || (match ops[j]? with | some oj => cls P held free j oj == 0 | none => true)
theorem lastOk_spec (H : Hyp2 Rel R3 V) {listed : Array Bool} {w w' : World} {k : Nat} (h : lastOk P ops held free listed k = true) (h3 : Step3 P Rel w0 ops held free listed w) (hw : (∀ o, ops[k]? = some o → cls P held free k o ≤ 3) → Rel w w') :
    Step3 P Rel w0 ops held free (listed.setIfInBounds k true) w' := by
  simp only [lastOk, Bool.or_eq_true, List.all_eq_true, List.mem_range, beq_iff_eq] at h
  rcases h with h | h
  · exact h3.next H (hw fun o ho => by rw [ho] at h; simpa using h)
  · refine .inr fun j oj hj hun => ?_
    have hlt := (Array.getElem?_eq_some_iff.1 hj).1
    have hjk : j ≠ k := by
      intro e
      subst e
      rcases Nat.lt_or_ge j listed.size with hl | hl
      · simp [hl] at hun
      · simp at hun
    rw [getD_set_ne true (Ne.symm hjk)] at hun
    have := h j hlt
    simp only [hj, hjk, hun, false_or, Bool.false_eq_true] at this
    simpa using this
def ordE (P : Program) (md : Region.Mode) (ops : Array Oper) (held free : List Nat) : List Nat → Array Bool → Bool
  | [], listed => (Region.ready md ops listed).isEmpty
  | k :: r, listed => (Region.ready md ops listed).contains k && freeH P md ops held free listed k && lastOk P ops held free listed k && ordE P md ops held free r (listed.setIfInBounds k true)
def hIdx (P : Program) (Rel R3 : World → World → Prop) (V : Nat → Value → World → Prop) (w0 : World) (ops : Array Oper) (held free : List Nat) (K : Act → World → Prop) : List Nat → Act → World → Prop
  | [], a, w => K a w
  | k :: r, a, w => hOp P Rel R3 V w0 ops held free k (hIdx P Rel R3 V w0 ops held free K r) a w

theorem hAny_ord (H : Hyp2 Rel R3 V) {K : Act → World → Prop} (hs : Region.noSelect ops = true) : ∀ (l : List Nat) (listed : Array Bool) (a : Act) (w : World), Step3 P Rel w0 ops held free listed w →
    ordE P md ops held free l listed = true → hIdx P Rel R3 V w0 ops held free K l a w → hAny P Rel R3 V w0 md ops held free K l.length listed a w
  | [], _, _, _, _, hB, h => ⟨by simpa [ordE] using hB, h⟩
  | k :: l, listed, a, w, hw0, hB, h => by
    simp only [ordE, Bool.and_eq_true] at hB
    obtain ⟨⟨⟨hr, hf⟩, hla⟩, hB'⟩ := hB
    have hk := hOp_some H (show hOp P Rel R3 V w0 ops held free k (hIdx P Rel R3 V w0 ops held free K l) a w from h)
    obtain ⟨o, _, _, _, h0, _⟩ := hk
    refine hAny_first H h0 (Region.noSelect_spec hs) (behind md ops listed k) (fun j hj => (behind_spec j hj).2) l.length listed a w hw0 (fun j hj => (behind_spec j hj).1) (freeH_spec h0 hf) (by simpa using hr) ?_
    exact hOp_mono H (show hOp P Rel R3 V w0 ops held free k (hIdx P Rel R3 V w0 ops held free K l) a w from h) fun a' w' hw' h' => hAny_ord H hs l _ _ _ (lastOk_spec H hla hw0 hw') hB' h'

theorem wpAny_of_hAny (H : Hyp2 Rel R3 V) {K : Act → World → Prop} {Q : Exit → Act → World → Prop} (hQ : ∀ a w, K a w → Q .normal a w) : ∀ (fuel : Nat) (listed : Array Bool) (a : Act) (w : World), hAny P Rel R3 V w0 md ops held free K fuel listed a w → wpAny P md ops Q fuel listed a w
  | 0, _, _, _, h => ⟨h.1, hQ _ _ h.2⟩
  | fuel + 1, listed, a, w, h => by
      refine ⟨fun h0 => hQ _ _ (h.1 h0), fun i hi => ?_⟩
      have h1 := h.2 i hi
      unfold hOp at h1
      unfold wpOp
      split at h1
      · exact h1.elim
      · rename_i o ho
        simp only [ho]
        split at h1 <;> rename_i hw
        · rw [if_pos hw]
          refine .inl (wp_of_tr ?_)
          generalize hc : cls P held free i o = c at h1
          match c with
          | 0 => obtain ⟨v, hv, hh⟩ := h1; exact (tr_value (hv w)).2 (wpAny_of_hAny H hQ fuel _ _ _ hh)
          | 1 => obtain ⟨v, hv, hh⟩ := h1; exact (tr_value (hv w (H.rf _))).2 (wpAny_of_hAny H hQ fuel _ _ _ hh)
          | 2 => exact tr_mono (h1 w (H.rf3 _)) fun g v w' hh => wpAny_of_hAny H hQ fuel _ _ _ hh.2
          | 3 =>
            refine tr_mono (h1.2.1 w h1.1) fun g v w' hh => ?_
            obtain ⟨rfl, h2, h3⟩ := hh
            exact wpAny_of_hAny H hQ fuel _ _ _ (h1.2.2 v w' h2 h3)
          | n + 4 =>
            have h2 : tr P (execOp a.eval o) w fun g v w' => hAny P Rel R3 V w0 md ops held free K fuel (listed.setIfInBounds i true) (upd a g o.dst v) w' := h1
            exact tr_mono h2 fun g v w' hh => wpAny_of_hAny H hQ fuel _ _ _ hh
        · rw [if_neg hw]; exact wpAny_of_hAny H hQ fuel _ _ _ h1

/-! ### The walk by stretches -/
theorem tr_kind {s : Sem Next} {w : World} {R : (List Deferred → List Deferred) → Value → World → Prop} (h : tr P s w R) : tr P s w fun g v w' => (g = id ∨ ∃ d, g = (d :: ·)) ∧ R g v w' := by
  unfold tr at *
  split <;> rename_i hs <;> simp only [hs] at h
  · exact ⟨.inl rfl, h⟩
  · exact ⟨.inl rfl, h⟩
  · exact ⟨.inr ⟨_, rfl⟩, h⟩
  · exact h.mono fun e w'' he => by cases e <;> first | exact ⟨.inl rfl, he⟩ | exact he
  · exact Rows.mono h fun v w'' he => ⟨.inl rfl, he⟩
theorem tr_put {o : Oper} {a : Act} {w : World} {R : Value → World → Prop} (hd : ∃ t, o.dst = some t ∧ t < a.tmps.size) (h : tr P (execOp a.eval o) w fun g v w' => ∃ u, upd a g o.dst v = a.put o.dst u ∧ R u w') :
    tr P (execOp a.eval o) w fun g v w' => g = id ∧ R v w' := by
  obtain ⟨t, hd, ht⟩ := hd
  refine tr_mono (tr_kind h) fun g v w' hh => ?_
  obtain ⟨hg, u, e, hR⟩ := hh
  rw [hd] at e
  have e1 : (upd a g (some t) v).tmps[t]? = (a.put (some t) u).tmps[t]? := by rw [e]
  have e2 : (upd a g (some t) v).defers = (a.put (some t) u).defers := by rw [e]
  rw [upd_tmps] at e1
  have e1 : (a.tmps.setIfInBounds t v)[t]? = (a.tmps.setIfInBounds t u)[t]? := e1
  rw [Array.getElem?_setIfInBounds_self_of_lt ht, Array.getElem?_setIfInBounds_self_of_lt ht] at e1
  injection e1 with e1
  have e2 : g a.defers = a.defers := e2
  refine ⟨?_, e1 ▸ hR⟩
  rcases hg with hg | ⟨d, hg⟩
  · exact hg
  · rw [hg] at e2
    exact absurd (congrArg List.length e2) (by simp)

/-- The stretches: 0: operations that do not meet the world; 1: one that is read; 3: a free one; 2: any other one. -/
def seg (P : Program) (Rel R3 : World → World → Prop) (V : Nat → Value → World → Prop) (w0 : World) (ops : Array Oper) (K : Act → World → Prop) : List (Nat × Nat × List Oper) → Act → World → Prop
  | [], a, w => K a w
  | (0, _, c) :: r, a, w => wpList P ops (Exit.then (fun a' w' => seg P Rel R3 V w0 ops K r a' w') fun _ _ _ => False) c a w
  | (1, _, c) :: r, a, w => match c with
    | [o] => if Region.wanted o (yielded ops a.tmps) then ∃ v, (∀ w2, Rel w w2 → (execOp a.eval o).run P w2 = .ok (.value v) w2) ∧ seg P Rel R3 V w0 ops K r (a.put o.dst v) w else seg P Rel R3 V w0 ops K r (a.put o.dst undef) w
    | _ => False
  | (4, _, c) :: r, a, w => wpList P ops (Exit.then (fun a' w' => seg P Rel R3 V w0 ops K r a' w') fun _ _ _ => False) c a w
  | (2, _, c) :: r, a, w => ∀ w2, R3 w w2 → wpList P ops (Exit.then (fun a' w' => Rel w2 w' ∧ seg P Rel R3 V w0 ops K r a' w') fun _ _ _ => False) c a w2
  | (_, i, c) :: r, a, w => match c with
    | [o] => Rel w0 w ∧ if Region.wanted o (yielded ops a.tmps) then (∃ t, o.dst = some t ∧ t < a.tmps.size) ∧ (∀ w2, Rel w0 w2 → wpList P ops (Exit.then (fun a' w' => ∃ v, a' = a.put o.dst v ∧ R3 w2 w' ∧ V i v w') fun _ _ _ => False) c a w2) ∧ ∀ v w', R3 w w' → V i v w' → seg P Rel R3 V w0 ops K r (a.put o.dst v) w' else seg P Rel R3 V w0 ops K r (a.put o.dst undef) w
    | _ => False

/-- What is asked of the operands of the operations that do not meet the world. -/
def askH (P : Program) (ops : Array Oper) (held free : List Nat) (a : Act) : Bool := (List.range ops.size).all fun i => match ops[i]? with
  | some o => cls P held free i o != 0 || !Region.wanted o (yielded ops a.tmps) || kindOk a o
  | none => true
def good (P : Program) (Rel R3 : World → World → Prop) (V : Nat → Value → World → Prop) (w0 : World) (ops : Array Oper) (held free : List Nat) (K : Act → World → Prop) (r : List Nat) (a : Act) (w : World) : Prop :=
  hIdx P Rel R3 V w0 ops held free K r a w ∧ ∃ a' : Act, askH P ops held free a' = true ∧ ∀ t, (∀ j ∈ r, (ops[j]?).bind (·.dst) ≠ some t) → a'.tmps[t]? = a.tmps[t]?

theorem good_put {K : Act → World → Prop} {i : Nat} {o : Oper} {r : List Nat} {a : Act} (hi : ops[i]? = some o) {g : List Deferred → List Deferred} {v : Value}
    (h : ∃ a' : Act, askH P ops held free a' = true ∧ ∀ t, (∀ j ∈ r, (ops[j]?).bind (·.dst) ≠ some t) → a'.tmps[t]? = (upd a g o.dst v).tmps[t]?) :
    ∃ a' : Act, askH P ops held free a' = true ∧ ∀ t, (∀ j ∈ i :: r, (ops[j]?).bind (·.dst) ≠ some t) → a'.tmps[t]? = a.tmps[t]? := by
  obtain ⟨a', h1, h2⟩ := h
  refine ⟨a', h1, fun t ht => ?_⟩
  rw [h2 t fun j hj => ht j (List.mem_cons_of_mem _ hj)]
  exact upd_agree _ _ _ _ _ (by have := ht i List.mem_cons_self; simpa [hi] using this)

/-- The one step of an operation. -/
theorem good_step (H : Hyp2 Rel R3 V) {K : Act → World → Prop} {i : Nat} {o : Oper} {r : List Nat} {a : Act} {w : World} (hi : ops[i]? = some o)
    (h : if Region.wanted o (yielded ops a.tmps) then St P Rel R3 (V i) w0 (cls P held free i o) (execOp a.eval o) w (fun g v w' => good P Rel R3 V w0 ops held free K r (upd a g o.dst v) w') else good P Rel R3 V w0 ops held free K r (a.put o.dst undef) w) :
    good P Rel R3 V w0 ops held free K (i :: r) a w := by
  refine ⟨?_, ?_⟩
  · show hOp P Rel R3 V w0 ops held free i (hIdx P Rel R3 V w0 ops held free K r) a w
    unfold hOp
    simp only [hi]
    split at h <;> rename_i hw
    · rw [if_pos hw]; exact h.mono H fun g v w' _ hh => hh.1
    · rw [if_neg hw]; exact h.1
  · split at h
    · obtain ⟨g, v, w', hh⟩ := h.some H
      exact good_put (K := K) hi hh.2
    · exact good_put (K := K) (g := id) hi h.2

theorem good_calm (H : Hyp2 Rel R3 V) {K : Act → World → Prop} : ∀ (c : List (Nat × Oper)) (r : List Nat) (a : Act) (w : World), (∀ p ∈ c, ops[p.1]? = some p.2 ∧ cls P held free p.1 p.2 = 0) → steadyI ops (c.map (·.1) ++ r) = true →
    wpList P ops (Exit.then (fun a' w' => good P Rel R3 V w0 ops held free K r a' w') fun _ _ _ => False) (c.map (·.2)) a w → good P Rel R3 V w0 ops held free K (c.map (·.1) ++ r) a w
  | [], _, _, _, _, _, h => h
  | (i, o) :: c, r, a, w, hc, hst, h => by
    obtain ⟨hi, hcl⟩ := hc (i, o) List.mem_cons_self
    simp only at hi hcl
    simp only [List.map_cons, List.cons_append] at hst h ⊢
    have hst0 := hst
    simp only [steadyI, hi, Bool.and_eq_true] at hst
    obtain ⟨hs1, hs2⟩ := hst
    refine good_step H hi ?_
    unfold wpList at h
    split at h <;> rename_i hw
    · rw [if_pos hw, hcl]
      rcases h with h | ⟨_, a', w', hh⟩
      case inr => exact hh.elim
      have ht := tr_mono (tr_of_wp h) fun g v w' h' => good_calm H c r _ _ (fun p hp => hc p (List.mem_cons_of_mem _ hp)) hs2 h'
      obtain ⟨g, v, w', hg⟩ := tr_some ht
      obtain ⟨a2, hask, hag⟩ := good_put (K := K) hi hg.2
      have hh : ∀ t ∈ hangsOn ops o, a2.tmps[t]? = a.tmps[t]? := fun t ht => hag t fun j hj hd => by
        have := List.all_eq_true.1 hs1 j hj
        simp [hd, ht] at this
      obtain ⟨hk, hwant⟩ := kind_agree (ops := ops) o a a2 hh
      have hko : kindOk a o = true := by
        have hlt : i < ops.size := (Array.getElem?_eq_some_iff.1 hi).1
        have := List.all_eq_true.1 hask i (List.mem_range.2 hlt)
        simp only [hi, hcl, hwant, hw, hk] at this
        simpa using this
      have hr0 : rank P o = 0 := by
        unfold cls at hcl
        split at hcl
        · cases hcl
        · split at hcl
          · cases hcl
          · split at hcl
            · cases hcl
            · split at hcl
              · assumption
              · cases hcl
      obtain ⟨u, hu, hR⟩ := tr_quiet (by omega) hko ht
      exact ⟨u, run_calm hr0 hko hu, hR⟩
    · rw [if_neg hw]
      exact good_calm H c r _ _ (fun p hp => hc p (List.mem_cons_of_mem _ hp)) hs2 h

def segOk (P : Program) (ops : Array Oper) (held free : List Nat) : List (Nat × List Nat) → Bool
  | [] => true
  | (0, c) :: r => c.all (fun i => match ops[i]? with | some o => cls P held free i o == 0 | none => false) && segOk P ops held free r
  | (1, [i]) :: r => (match ops[i]? with | some o => cls P held free i o == 1 | none => false) && segOk P ops held free r
  | (2, [i]) :: r => (match ops[i]? with | some o => cls P held free i o == 2 | none => false) && segOk P ops held free r
  | (3, [i]) :: r => (match ops[i]? with | some o => cls P held free i o == 3 | none => false) && segOk P ops held free r
  | (4, [i]) :: r => (match ops[i]? with | some o => cls P held free i o == 4 | none => false) && segOk P ops held free r
  | _ => false
def segOps (ops : Array Oper) (s : List (Nat × List Nat)) : List (Nat × Nat × List Oper) := s.map fun p => (p.1, p.2.headD 0, (pairs ops p.2).map (·.2))

theorem pairs_fst (c : List Nat) (h : c.all (fun i => match ops[i]? with | some o => cls P held free i o == 0 | none => false) = true) : (pairs ops c).map (·.1) = c ∧ ∀ p ∈ pairs ops c, ops[p.1]? = some p.2 ∧ cls P held free p.1 p.2 = 0 := by
  induction c with
  | nil => exact ⟨rfl, fun p hp => by cases hp⟩
  | cons i c ih =>
    simp only [List.all_cons, Bool.and_eq_true] at h
    obtain ⟨h1, h2⟩ := h
    obtain ⟨e, hp⟩ := ih h2
    cases ho : ops[i]? with
    | none => rw [ho] at h1; cases h1
    | some o =>
      rw [ho] at h1
      have hpe : pairs ops (i :: c) = (i, o) :: pairs ops c := by simp [pairs, ho]
      rw [hpe]
      refine ⟨by rw [List.map_cons, e], fun p hp' => ?_⟩
      rcases List.mem_cons.1 hp' with rfl | hp'
      · exact ⟨ho, by simpa using h1⟩
      · exact hp p hp'

theorem good_of_seg (H : Hyp2 Rel R3 V) {K : Act → World → Prop} : ∀ (s : List (Nat × List Nat)) (a : Act) (w : World), segOk P ops held free s = true → steadyI ops (flat s) = true →
    seg P Rel R3 V w0 ops (fun a' w' => askH P ops held free a' = true ∧ K a' w') (segOps ops s) a w → good P Rel R3 V w0 ops held free K (flat s) a w
  | [], a, w, _, _, h => by
    have h : askH P ops held free a = true ∧ K a w := h
    exact ⟨h.2, a, h.1, fun _ _ => rfl⟩
  | (0, c) :: r, a, w, hok, hst, h => by
    simp only [segOk, Bool.and_eq_true] at hok
    obtain ⟨e, hp⟩ := pairs_fst c hok.1
    have hst' : steadyI ops (c ++ flat r) = true := hst
    show good P Rel R3 V w0 ops held free K (c ++ flat r) a w
    have h' : wpList P ops (Exit.then (fun a' w' => good P Rel R3 V w0 ops held free K (flat r) a' w') fun _ _ _ => False) ((pairs ops c).map (·.2)) a w := by
      exact wpList_then (fun a' w' hh => good_of_seg H r _ _ hok.2 (steadyI_tail c _ hst') hh) _ _ _ (show wpList P ops (Exit.then (fun a' w' => seg P Rel R3 V w0 ops (fun a' w' => askH P ops held free a' = true ∧ K a' w') (segOps ops r) a' w') fun _ _ _ => False) ((pairs ops c).map (·.2)) a w from h)
    rw [← e] at hst' ⊢
    exact good_calm H (pairs ops c) (flat r) a w hp hst' h'
  | (1, [i]) :: r, a, w, hok, hst, h => by
    simp only [segOk, Bool.and_eq_true] at hok
    obtain ⟨h1, h2⟩ := hok
    cases ho : ops[i]? with
    | none => rw [ho] at h1; cases h1
    | some o =>
      rw [ho] at h1
      have hst' : steadyI ops ([i] ++ flat r) = true := hst
      have hc : cls P held free i o = 1 := by simpa using h1
      refine good_step H ho ?_
      simp only [segOps, List.map_cons, pairs, List.filterMap_cons, ho, Option.map_some, List.filterMap_nil, List.map_nil, seg] at h
      split at h <;> rename_i hw
      · rw [if_pos hw, hc]
        obtain ⟨v, hv, hh⟩ := h
        exact ⟨v, hv, good_of_seg H r _ _ h2 (steadyI_tail _ _ hst') hh⟩
      · rw [if_neg hw]
        exact good_of_seg H r _ _ h2 (steadyI_tail _ _ hst') h
  | (2, [i]) :: r, a, w, hok, hst, h => by
    simp only [segOk, Bool.and_eq_true] at hok
    obtain ⟨h1, h2⟩ := hok
    cases ho : ops[i]? with
    | none => rw [ho] at h1; cases h1
    | some o =>
      rw [ho] at h1
      have hst' : steadyI ops ([i] ++ flat r) = true := hst
      have hc : cls P held free i o = 2 := by simpa using h1
      refine good_step H ho ?_
      simp only [segOps, List.map_cons, pairs, List.filterMap_cons, ho, Option.map_some, List.filterMap_nil, List.map_nil, seg] at h
      by_cases hw : Region.wanted o (yielded ops a.tmps) = true
      · rw [if_pos hw, hc]
        intro w2 hw2
        have h := h w2 hw2
        unfold wpList at h
        rw [if_pos hw] at h
        rcases h with h | ⟨_, a', w', hh⟩
        case inr => exact hh.elim
        exact tr_mono (tr_of_wp h) fun g v w' hh => ⟨hh.1, good_of_seg H r _ _ h2 (steadyI_tail _ _ hst') hh.2⟩
      · rw [if_neg hw]
        have h := h w (H.rf3 _)
        unfold wpList at h
        rw [if_neg hw] at h
        have h : Rel w w ∧ _ := h
        exact good_of_seg H r _ _ h2 (steadyI_tail _ _ hst') h.2
  | (3, [i]) :: r, a, w, hok, hst, h => by
    simp only [segOk, Bool.and_eq_true] at hok
    obtain ⟨h1, h2⟩ := hok
    cases ho : ops[i]? with
    | none => rw [ho] at h1; cases h1
    | some o =>
      rw [ho] at h1
      have hst' : steadyI ops ([i] ++ flat r) = true := hst
      have hc : cls P held free i o = 3 := by simpa using h1
      simp only [segOps, List.map_cons, pairs, List.filterMap_cons, ho, Option.map_some, List.filterMap_nil, List.map_nil, seg, List.headD_cons] at h
      obtain ⟨h0, h⟩ := h
      by_cases hw : Region.wanted o (yielded ops a.tmps) = true
      · rw [if_pos hw] at h
        obtain ⟨hd, hA, hB⟩ := h
        refine good_step H ho ?_
        rw [if_pos hw, hc]
        refine ⟨h0, fun w2 hw2 => ?_, fun v w' hw' hV => good_of_seg H r _ _ h2 (steadyI_tail _ _ hst') (hB v w' hw' hV)⟩
        have h := hA w2 hw2
        unfold wpList at h
        rw [if_pos hw] at h
        rcases h with h | ⟨_, a', w', hh⟩
        case inr => exact hh.elim
        exact tr_put (R := fun v w' => R3 w2 w' ∧ V i v w') hd (tr_of_wp h)
      · rw [if_neg hw] at h
        refine good_step H ho ?_
        rw [if_neg hw]
        exact good_of_seg H r _ _ h2 (steadyI_tail _ _ hst') h

  | (4, [i]) :: r, a, w, hok, hst, h => by
    simp only [segOk, Bool.and_eq_true] at hok
    obtain ⟨h1, h2⟩ := hok
    cases ho : ops[i]? with
    | none => rw [ho] at h1; cases h1
    | some o =>
      rw [ho] at h1
      have hst' : steadyI ops ([i] ++ flat r) = true := hst
      have hc : cls P held free i o = 4 := by simpa using h1
      refine good_step H ho ?_
      simp only [segOps, List.map_cons, pairs, List.filterMap_cons, ho, Option.map_some, List.filterMap_nil, List.map_nil, seg] at h
      unfold wpList at h
      by_cases hw : Region.wanted o (yielded ops a.tmps) = true
      · rw [if_pos hw, hc]
        rw [if_pos hw] at h
        rcases h with h | ⟨_, a', w', hh⟩
        case inr => exact hh.elim
        exact tr_mono (tr_of_wp h) fun g v w' hh => good_of_seg H r _ _ h2 (steadyI_tail _ _ hst') hh
      · rw [if_neg hw]
        rw [if_neg hw] at h
        exact good_of_seg H r _ _ h2 (steadyI_tail _ _ hst') h

def holdB (P : Program) (ops : Array Oper) (held free : List Nat) (s : List (Nat × List Nat)) : Bool :=
  Region.noSelect ops && segOk P ops held free s && steadyI ops (flat s) && ordE P .any ops held free (flat s) (Array.replicate ops.size false) && (flat s).length == ops.size

/-- A region that draws its order, walked once by stretches; operations named 'free' come at any time: they keep R3, the others Rel. -/
theorem wp_region_hav2 (Rel R3 : World → World → Prop) (V : Nat → Value → World → Prop) (H : Hyp2 Rel R3 V) (held free : List Nat) (s : List (Nat × List Nat)) (so : List (Nat × Nat × List Oper)) (l : List Oper)
    {id : Nat} {Q : Exit → Act → World → Prop} {a : Act} {w : World} (hm : P.follows .mixedOrders = true) (hB : holdB P l.toArray held free s = true) (hso : segOps l.toArray s = so)
    (h : seg P Rel R3 V w.drew l.toArray (fun a' w' => askH P l.toArray held free a' = true ∧ Q .normal a' w') so a w.drew) : (Code.region id l.toArray true).wp P Q a w := by
  simp only [holdB, Bool.and_eq_true, beq_iff_eq] at hB
  obtain ⟨⟨⟨⟨h1, h2⟩, h3⟩, h4⟩, h5⟩ := hB
  refine wp_region_any hm ?_
  subst hso
  have hg := good_of_seg H (K := fun a' w' => Q .normal a' w') s a w.drew h2 h3 h
  have hl := hAny_ord (P := P) (Rel := Rel) (R3 := R3) (md := .any) H h1 (flat s) (Array.replicate l.toArray.size false) a w.drew (.inl (H.rf _)) h4 hg.1
  have := wpAny_of_hAny H (Q := Q) (fun _ _ hh => hh) _ _ _ _ hl
  rw [h5] at this
  exact this

theorem wp_region_hav (Rel : World → World → Prop) (V : Nat → Value → World → Prop) (H : Hyp Rel V) (held free : List Nat) (s : List (Nat × List Nat)) (so : List (Nat × Nat × List Oper)) (l : List Oper)
    {id : Nat} {Q : Exit → Act → World → Prop} {a : Act} {w : World} (hm : P.follows .mixedOrders = true) (hB : holdB P l.toArray held free s = true) (hso : segOps l.toArray s = so)
    (h : seg P Rel Rel V w.drew l.toArray (fun a' w' => askH P l.toArray held free a' = true ∧ Q .normal a' w') so a w.drew) : (Code.region id l.toArray true).wp P Q a w :=
  wp_region_hav2 Rel Rel V H.two held free s so l hm hB hso h

def planGo (P : Program) (md : Region.Mode) (ops : Array Oper) (held free : List Nat) : Nat → Array Bool → List Nat
  | 0, _ => []
  | fuel + 1, listed =>
    let r := (Region.ready md ops listed).filter fun k => freeH P md ops held free listed k && lastOk P ops held free listed k
    let c (n : Nat) (i : Nat) : Bool := match ops[i]? with | some o => cls P held free i o == n | none => false
    match (r.find? (c 0)).or ((r.find? (c 1)).or ((r.find? (c 2)).or ((r.find? (c 3)).or (r.find? (c 4))))) with
    | some i => i :: planGo P md ops held free fuel (listed.setIfInBounds i true)
    | none => []
def planOf (P : Program) (ops : Array Oper) (held free : List Nat) : List Nat :=
  (planGo P .any ops held free ops.size (Array.replicate ops.size false)).flatMap fun i => [match ops[i]? with | some o => cls P held free i o | none => 9, i]
end

section
variable {P : Program} {Rel R3 : World → World → Prop} {V : Nat → Value → World → Prop} {w0 : World} {ops : Array Oper} {K : Act → World → Prop} {r : List (Nat × Nat × List Oper)} {a : Act} {w : World} {n : Nat}
theorem seg_end (h : K a w) : seg P Rel R3 V w0 ops K [] a w := h
theorem seg_calm {c : List Oper} (h : wpList P ops (Exit.then (fun a' w' => seg P Rel R3 V w0 ops K r a' w') fun _ _ _ => False) c a w) : seg P Rel R3 V w0 ops K ((0, n, c) :: r) a w := h
theorem seg_held {o : Oper} (hw : Region.wanted o (yielded ops a.tmps) = true) (v : Value) (h : ∀ w2, Rel w w2 → (execOp a.eval o).run P w2 = .ok (.value v) w2) (h2 : seg P Rel R3 V w0 ops K r (a.put o.dst v) w) : seg P Rel R3 V w0 ops K ((1, n, [o]) :: r) a w := by
  show if Region.wanted o (yielded ops a.tmps) then ∃ v, (∀ w2, Rel w w2 → (execOp a.eval o).run P w2 = .ok (.value v) w2) ∧ seg P Rel R3 V w0 ops K r (a.put o.dst v) w else seg P Rel R3 V w0 ops K r (a.put o.dst undef) w
  rw [if_pos hw]
  exact ⟨v, h, h2⟩
theorem seg_skip {o : Oper} (hw : Region.wanted o (yielded ops a.tmps) = false) (h2 : seg P Rel R3 V w0 ops K r (a.put o.dst undef) w) : seg P Rel R3 V w0 ops K ((1, n, [o]) :: r) a w := by
  show if Region.wanted o (yielded ops a.tmps) then ∃ v, (∀ w2, Rel w w2 → (execOp a.eval o).run P w2 = .ok (.value v) w2) ∧ seg P Rel R3 V w0 ops K r (a.put o.dst v) w else seg P Rel R3 V w0 ops K r (a.put o.dst undef) w
  rw [if_neg (by rw [hw]; exact Bool.false_ne_true)]
  exact h2
theorem seg_call {c : List Oper} (h : ∀ w2, R3 w w2 → wpList P ops (Exit.then (fun a' w' => Rel w2 w' ∧ seg P Rel R3 V w0 ops K r a' w') fun _ _ _ => False) c a w2) : seg P Rel R3 V w0 ops K ((2, n, c) :: r) a w := h
theorem seg_last {c : List Oper} (h : wpList P ops (Exit.then (fun a' w' => seg P Rel R3 V w0 ops K r a' w') fun _ _ _ => False) c a w) : seg P Rel R3 V w0 ops K ((4, n, c) :: r) a w := h
theorem seg_free {o : Oper} (hw : Region.wanted o (yielded ops a.tmps) = true) (h0 : Rel w0 w) (hd : ∃ t, o.dst = some t ∧ t < a.tmps.size)
    (h : ∀ w2, Rel w0 w2 → wpList P ops (Exit.then (fun a' w' => ∃ v, a' = a.put o.dst v ∧ R3 w2 w' ∧ V n v w') fun _ _ _ => False) [o] a w2)
    (h2 : ∀ v w', R3 w w' → V n v w' → seg P Rel R3 V w0 ops K r (a.put o.dst v) w') : seg P Rel R3 V w0 ops K ((3, n, [o]) :: r) a w := by
  show Rel w0 w ∧ if Region.wanted o (yielded ops a.tmps) then (∃ t, o.dst = some t ∧ t < a.tmps.size) ∧ (∀ w2, Rel w0 w2 → wpList P ops (Exit.then (fun a' w' => ∃ v, a' = a.put o.dst v ∧ R3 w2 w' ∧ V n v w') fun _ _ _ => False) [o] a w2) ∧ ∀ v w', R3 w w' → V n v w' → seg P Rel R3 V w0 ops K r (a.put o.dst v) w' else seg P Rel R3 V w0 ops K r (a.put o.dst undef) w
  rw [if_pos hw]
  exact ⟨h0, hd, h, h2⟩
end
end Hv
end Go.Proofs.Ytfegjdabjdahgaa
