/- A region that draws its order and holds calls: its readers are read as early as they may, each for every later world; the calls keep what was read. One walk. No theorem on the program stands here. -/
import Derived.Test.YtfegjdabjdahgaaSeq
import Derived.Test.YtfegjdabjdahgaaLib
namespace Go.Proofs.Ytfegjdabjdahgaa
set_option linter.unusedVariables false

section
variable {P : Program} {Rel : World → World → Prop} {ops : Array Oper} {md : Region.Mode} {held : List Nat}

/-- A step: 0: a value in whatever world; 1: a value in each later world; 2: any other, to a later world. -/
def St (P : Program) (Rel : World → World → Prop) (c : Nat) (s : Sem Next) (w : World) (R : (List Deferred → List Deferred) → Value → World → Prop) : Prop := match c with
  | 0 => ∃ v, (∀ w2, s.run P w2 = .ok (.value v) w2) ∧ R id v w
  | 1 => ∃ v, (∀ w2, Rel w w2 → s.run P w2 = .ok (.value v) w2) ∧ R id v w
  | _ + 2 => tr P s w fun g v w' => Rel w w' ∧ R g v w'

theorem St.mono {c : Nat} {s : Sem Next} {w : World} {R R' : (List Deferred → List Deferred) → Value → World → Prop} (h : St P Rel c s w R)
    (hR : ∀ g v w', (w' = w ∨ (2 ≤ c ∧ Rel w w')) → (c ≤ 1 → g = id) → R g v w' → R' g v w') : St P Rel c s w R' := by
  match c with
  | 0 => obtain ⟨v, h1, h2⟩ := h; exact ⟨v, h1, hR _ _ _ (.inl rfl) (fun _ => rfl) h2⟩
  | 1 => obtain ⟨v, h1, h2⟩ := h; exact ⟨v, h1, hR _ _ _ (.inl rfl) (fun _ => rfl) h2⟩
  | n + 2 =>
    have h : tr P s w (fun g v w' => Rel w w' ∧ R g v w') := h
    show tr P s w fun g v w' => Rel w w' ∧ R' g v w'
    exact tr_mono h fun g v w' hh => ⟨hh.1, hR _ _ _ (.inr ⟨by omega, hh.1⟩) (fun h => by omega) hh.2⟩
theorem St.some {c : Nat} {s : Sem Next} {w : World} {R : (List Deferred → List Deferred) → Value → World → Prop} (h : St P Rel c s w R) : ∃ g v w', R g v w' := by
  match c with
  | 0 => obtain ⟨v, h1, h2⟩ := h; exact ⟨_, _, _, h2⟩
  | 1 => obtain ⟨v, h1, h2⟩ := h; exact ⟨_, _, _, h2⟩
  | n + 2 =>
    have h : tr P s w (fun g v w' => Rel w w' ∧ R g v w') := h
    obtain ⟨g, v, w', h1, h2⟩ := tr_some h
    exact ⟨_, _, _, h2⟩

theorem St.swap (ht : ∀ a b c, Rel a b → Rel b c → Rel a c) {c1 c2 : Nat} (hok : c1 ≤ 1 ∨ c2 = 0) {s1 s2 : Sem Next} {w : World}
    {R : (List Deferred → List Deferred) → Value → (List Deferred → List Deferred) → Value → World → Prop}
    (h : St P Rel c1 s1 w fun g v w' => St P Rel c2 s2 w' fun g' v' w'' => R g v g' v' w'') :
    St P Rel c2 s2 w fun g' v' w' => St P Rel c1 s1 w' fun g v w'' => (g = id ∨ g' = id) ∧ R g v g' v' w'' := by
  match c1, hok with
  | 0, _ =>
    obtain ⟨v, hv, h2⟩ := h
    exact h2.mono fun g' v' w' _ _ hR => ⟨v, hv, .inl rfl, hR⟩
  | 1, _ =>
    obtain ⟨v, hv, h2⟩ := h
    refine h2.mono fun g' v' w' hw _ hR => ⟨v, fun w2 hr => ?_, .inl rfl, hR⟩
    rcases hw with rfl | ⟨_, hw⟩
    · exact hv w2 hr
    · exact hv w2 (ht _ _ _ hw hr)
  | n + 2, hok =>
    obtain rfl : c2 = 0 := by omega
    have h : tr P s1 w (fun g v w' => Rel w w' ∧ ∃ u, (∀ w2, s2.run P w2 = .ok (.value u) w2) ∧ R g v id u w') := h
    obtain ⟨g, v, w', _, u, hu, _⟩ := tr_some h
    refine ⟨u, hu, ?_⟩
    show tr P s1 w fun g v w' => Rel w w' ∧ ((g = id ∨ id = id) ∧ R g v id u w')
    refine tr_mono h fun g v w' hh => ⟨hh.1, .inr rfl, ?_⟩
    obtain ⟨_, u', hu', hR⟩ := hh
    have e := (hu w).symm.trans (hu' w)
    injection e with e _
    injection e with e
    rw [e]
    exact hR

def cls (P : Program) (held : List Nat) (i : Nat) (o : Oper) : Nat := if held.contains i then 1 else if rank P o = 0 then 0 else 2

def hOp (P : Program) (Rel : World → World → Prop) (ops : Array Oper) (held : List Nat) (i : Nat) (K : Act → World → Prop) (a : Act) (w : World) : Prop := match ops[i]? with
  | none => False
  | some o => if Region.wanted o (yielded ops a.tmps) then St P Rel (cls P held i o) (execOp a.eval o) w (fun g v w' => K (upd a g o.dst v) w') else K (a.put o.dst undef) w
theorem hOp_mono {i : Nat} {K K' : Act → World → Prop} {a : Act} {w : World} (h : hOp P Rel ops held i K a w) (hK : ∀ a w, K a w → K' a w) : hOp P Rel ops held i K' a w := by
  unfold hOp at *
  split <;> rename_i ho <;> simp only [ho] at h
  split <;> rename_i hw
  · rw [if_pos hw] at h
    exact h.mono fun g v w' _ _ => hK _ _
  · rw [if_neg hw] at h
    exact hK _ _ h
theorem hOp_some {i : Nat} {K : Act → World → Prop} {a : Act} {w : World} (h : hOp P Rel ops held i K a w) : ∃ o g v w', ops[i]? = some o ∧ K (upd a g o.dst v) w' := by
  unfold hOp at h
  split at h
  · exact h.elim
  · rename_i o ho
    split at h
    · obtain ⟨g, v, w', hK⟩ := h.some
      exact ⟨o, g, v, w', ho, hK⟩
    · exact ⟨o, id, undef, w, ho, h⟩
def okH (P : Program) (held : List Nat) (i j : Nat) (oi oj : Oper) : Bool := decide (cls P held i oi ≤ 1) || decide (cls P held j oj = 0)

theorem hOp_swap (ht : ∀ a b c, Rel a b → Rel b c → Rel a c) {i j : Nat} {oi oj : Oper} (hi : ops[i]? = some oi) (hj : ops[j]? = some oj) (hap : oi.apart ops oj = true) (hok : okH P held i j oi oj = true)
    (hsi : ∀ cs b, oi.op ≠ .select cs b) (hsj : ∀ cs b, oj.op ≠ .select cs b) {K : Act → World → Prop} {a : Act} {w : World}
    (h : hOp P Rel ops held i (fun a' w' => hOp P Rel ops held j K a' w') a w) : hOp P Rel ops held j (fun a' w' => hOp P Rel ops held i K a' w') a w := by
  obtain ⟨h1, h2, h3⟩ := Oper.apart_spec hap
  have h2' : ∀ d, oj.dst = some d → oi.dst ≠ some d := fun d hd he => h2 d he hd
  have si : ∀ g v, SameFor ops oi a (upd a g oj.dst v) := fun g v => same_upd oi hsi a g oj.dst v h3
  have sj : ∀ g v, SameFor ops oj a (upd a g oi.dst v) := fun g v => same_upd oj hsj a g oi.dst v h1
  simp only [okH, Bool.or_eq_true, decide_eq_true_eq] at hok
  unfold hOp at h ⊢
  simp only [hi, hj] at h ⊢
  by_cases wi : Region.wanted oi (yielded ops a.tmps) = true
  · by_cases wj : Region.wanted oj (yielded ops a.tmps) = true
    · rw [if_pos wi] at h
      rw [if_pos wj]
      have h' : St P Rel (cls P held i oi) (execOp a.eval oi) w fun g v w' => St P Rel (cls P held j oj) (execOp a.eval oj) w' fun g' v' w'' => K (upd (upd a g oi.dst v) g' oj.dst v') w'' :=
        h.mono fun g v w' _ _ hh => by
          rw [(sj g v).want, if_pos wj, (sj g v).exec] at hh
          exact hh
      refine (St.swap ht hok h').mono fun g' v' w' _ _ hh => ?_
      rw [(si g' v').want, if_pos wi, (si g' v').exec]
      refine hh.mono fun g v w'' _ _ hR => ?_
      obtain ⟨hg, hR⟩ := hR
      rcases hg with rfl | rfl
      · rw [show upd (upd a g' oj.dst v') id oi.dst v = (upd a g' oj.dst v').put oi.dst v from rfl, ← upd_put a g' oj.dst oi.dst v' v h2']
        exact hR
      · rw [show upd (upd a id oj.dst v') g oi.dst v = upd (a.put oj.dst v') g oi.dst v from rfl, upd_put a g oi.dst oj.dst v v' h2]
        exact hR
    · rw [if_pos wi] at h
      rw [if_neg wj]
      have sp := same_put (ops := ops) oi hsi a oj.dst undef h3
      rw [sp.want, if_pos wi, sp.exec]
      refine h.mono fun g v w' _ _ hh => ?_
      rw [(sj g v).want, if_neg wj] at hh
      rwa [upd_put a g oi.dst oj.dst v undef h2]
  · rw [if_neg wi] at h
    have sp := same_put (ops := ops) oj hsj a oi.dst undef h1
    rw [sp.want, sp.exec] at h
    by_cases wj : Region.wanted oj (yielded ops a.tmps) = true
    · rw [if_pos wj] at h ⊢
      refine h.mono fun g v w' _ _ hK => ?_
      rw [(si g v).want, if_neg wi, ← upd_put a g oj.dst oi.dst v undef h2']
      exact hK
    · rw [if_neg wj] at h ⊢
      have sq := same_put (ops := ops) oi hsi a oj.dst undef h3
      rw [sq.want, if_neg wi, Act.put_comm a undef undef h2']
      exact h

def hAny (P : Program) (Rel : World → World → Prop) (md : Region.Mode) (ops : Array Oper) (held : List Nat) (K : Act → World → Prop) : Nat → Array Bool → Act → World → Prop
  | 0, listed, a, w => Region.ready md ops listed = [] ∧ K a w
  | fuel + 1, listed, a, w => (Region.ready md ops listed = [] → K a w) ∧ ∀ i ∈ Region.ready md ops listed, hOp P Rel ops held i (hAny P Rel md ops held K fuel (listed.setIfInBounds i true)) a w

theorem hAny_first (ht : ∀ a b c, Rel a b → Rel b c → Rel a c) {K : Act → World → Prop} {i : Nat} {oi : Oper} (hi : ops[i]? = some oi) (hsel : ∀ (j : Nat) (o : Oper) cs b, ops[j]? = some o → o.op ≠ .select cs b)
    (B : List Nat) (hB : ∀ j ∈ B, ∃ oj, ops[j]? = some oj ∧ ∃ e ∈ oj.after, Region.binds md e = true ∧ (e.on = i ∨ e.on ∈ B)) :
    ∀ (fuel : Nat) (listed : Array Bool) (a : Act) (w : World), (∀ j ∈ B, listed.getD j true = false) →
      (∀ j oj, ops[j]? = some oj → j ≠ i → listed.getD j true = false → j ∉ B → oi.apart ops oj = true ∧ okH P held i j oi oj = true) →
      i ∈ Region.ready md ops listed → hOp P Rel ops held i (hAny P Rel md ops held K fuel (listed.setIfInBounds i true)) a w → hAny P Rel md ops held K (fuel + 1) listed a w := by
  intro fuel
  induction fuel with
  | zero =>
    intro listed a w _ _ hr H
    refine ⟨fun h => (by rw [h] at hr; cases hr), fun j hj => ?_⟩
    by_cases hji : j = i
    · subst hji; exact H
    · obtain ⟨o, g, v, w', _, h0, _⟩ := hOp_some H
      have := ready_mono hj hji
      rw [h0] at this
      cases this
  | succ fuel ih =>
    intro listed a w hBl hfree hr H
    refine ⟨fun h => (by rw [h] at hr; cases hr), fun j hj => ?_⟩
    by_cases hji : j = i
    · subst hji; exact H
    · obtain ⟨hjun, oj, hoj, hall⟩ := mem_ready.1 hj
      have hun : ∀ x, listed.getD x true = false → ∀ e ∈ oj.after, Region.binds md e = true → e.on ≠ x := fun x h0 e he hb heq => by
        have h1 := hall e he hb
        rw [heq] at h1
        rcases Nat.lt_or_ge x listed.size with h' | h'
        · simp [h'] at h0 h1; rw [h0] at h1; cases h1
        · simp [Array.getElem?_eq_none h'] at h1
      have hnot : j ∉ B := fun hjB => by
        obtain ⟨oj', ho', e, he, hb, hon⟩ := hB j hjB
        rw [hoj] at ho'
        injection ho' with ho'
        subst ho'
        rcases hon with hon | hon
        · exact hun i (mem_ready.1 hr).1 e he hb hon
        · exact hun e.on (hBl _ hon) e he hb rfl
      obtain ⟨hap, hok⟩ := hfree j oj hoj hji hjun hnot
      have h1 : hOp P Rel ops held i (fun a' w' => hOp P Rel ops held j (hAny P Rel md ops held K fuel ((listed.setIfInBounds i true).setIfInBounds j true)) a' w') a w :=
        hOp_mono H fun a' w' h => h.2 j (ready_mono hj hji)
      have h2 := hOp_swap ht hi hoj hap hok (fun cs b => hsel i oi cs b hi) (fun cs b => hsel j oj cs b hoj) h1
      have hne : ∀ k, k ≠ j → (listed.setIfInBounds j true).getD k true = listed.getD k true := fun k hk => getD_set_ne true (Ne.symm hk)
      have hfree' : ∀ k ok, ops[k]? = some ok → k ≠ i → (listed.setIfInBounds j true).getD k true = false → k ∉ B → oi.apart ops ok = true ∧ okH P held i k oi ok = true := fun k ok hk hki hun hno => by
        refine hfree k ok hk hki ?_ hno
        by_cases hjk : j = k
        · subst hjk; exact hjun
        · rw [hne k (Ne.symm hjk)] at hun; exact hun
      have hBl' : ∀ k ∈ B, (listed.setIfInBounds j true).getD k true = false := fun k hk => by
        rw [hne k (fun e => hnot (e ▸ hk))]
        exact hBl k hk
      refine hOp_mono h2 fun a' w' h3 => ih (listed.setIfInBounds j true) a' w' hBl' hfree' (ready_mono hr (Ne.symm hji)) ?_
      rw [Array.setIfInBounds_comm _ _ hji]
      exact h3

/-- What waits for operation i, in one step or in more. -/
def behindGo (md : Region.Mode) (ops : Array Oper) (listed : Array Bool) (i : Nat) : List Nat → List Nat → List Nat
  | [], B => B
  | j :: r, B => behindGo md ops listed i r (match ops[j]? with
      | some oj => if !listed.getD j true && oj.after.any (fun e => Region.binds md e && (e.on == i || B.contains e.on)) then j :: B else B
      | none => B)
theorem behindGo_spec {listed : Array Bool} {i : Nat} : ∀ (l B : List Nat), (∀ j ∈ B, listed.getD j true = false ∧ ∃ oj, ops[j]? = some oj ∧ ∃ e ∈ oj.after, Region.binds md e = true ∧ (e.on = i ∨ e.on ∈ B)) →
    ∀ j ∈ behindGo md ops listed i l B, listed.getD j true = false ∧ ∃ oj, ops[j]? = some oj ∧ ∃ e ∈ oj.after, Region.binds md e = true ∧ (e.on = i ∨ e.on ∈ behindGo md ops listed i l B)
  | [], B, h => h
  | k :: r, B, h => by
    unfold behindGo
    refine behindGo_spec r _ ?_
    split
    · rename_i ok hk
      split
      · rename_i hc
        simp only [Bool.and_eq_true, Bool.not_eq_true'] at hc
        obtain ⟨hl, he⟩ := hc
        obtain ⟨e, hem, hb⟩ := Array.any_eq_true'.1 he
        simp only [Bool.and_eq_true, Bool.or_eq_true, beq_iff_eq, List.contains_iff_mem] at hb
        intro j hj
        rcases List.mem_cons.1 hj with rfl | hj
        · exact ⟨hl, ok, hk, e, hem, hb.1, hb.2.imp id (List.mem_cons_of_mem _)⟩
        · obtain ⟨h1, oj, h2, e', h3, h4, h5⟩ := h j hj
          exact ⟨h1, oj, h2, e', h3, h4, h5.imp id (List.mem_cons_of_mem _)⟩
      · exact h
    · exact h
def behind (md : Region.Mode) (ops : Array Oper) (listed : Array Bool) (i : Nat) : List Nat := behindGo md ops listed i (List.range ops.size) []
theorem behind_spec {listed : Array Bool} {i : Nat} : ∀ j ∈ behind md ops listed i, listed.getD j true = false ∧ ∃ oj, ops[j]? = some oj ∧ ∃ e ∈ oj.after, Region.binds md e = true ∧ (e.on = i ∨ e.on ∈ behind md ops listed i) :=
  behindGo_spec (List.range ops.size) [] (fun _ h => by cases h)

def freeH (P : Program) (md : Region.Mode) (ops : Array Oper) (held : List Nat) (listed : Array Bool) (i : Nat) : Bool :=
  match ops[i]? with
  | none => false
  | some oi => let B := behind md ops listed i; (List.range ops.size).all fun j => j == i || listed.getD j true || B.contains j || match ops[j]? with
      | some oj => oi.apart ops oj && okH P held i j oi oj
      | none => true
theorem freeH_spec {i : Nat} {oi : Oper} {listed : Array Bool} (hi : ops[i]? = some oi) (h : freeH P md ops held listed i = true) (j : Nat) (oj : Oper)
    (hj : ops[j]? = some oj) (hne : j ≠ i) (hun : listed.getD j true = false) (hno : j ∉ behind md ops listed i) :
    oi.apart ops oj = true ∧ okH P held i j oi oj = true := by
  simp only [freeH, hi, List.all_eq_true, List.mem_range] at h
  have h1 := h j (Array.getElem?_eq_some_iff.1 hj).1
  have hno' : (behind md ops listed i).contains j = false := by
    cases hc : (behind md ops listed i).contains j
    · rfl
    · exact absurd (List.contains_iff_mem.1 hc) hno
  simp only [hj, Bool.or_eq_true, beq_iff_eq, hne, false_or, hun, Bool.false_eq_true, hno'] at h1
  simpa using h1
def ordE (P : Program) (md : Region.Mode) (ops : Array Oper) (held : List Nat) : List Nat → Array Bool → Bool
  | [], listed => (Region.ready md ops listed).isEmpty
  | k :: r, listed => (Region.ready md ops listed).contains k && freeH P md ops held listed k && ordE P md ops held r (listed.setIfInBounds k true)
def hIdx (P : Program) (Rel : World → World → Prop) (ops : Array Oper) (held : List Nat) (K : Act → World → Prop) : List Nat → Act → World → Prop
  | [], a, w => K a w
  | k :: r, a, w => hOp P Rel ops held k (hIdx P Rel ops held K r) a w

theorem hAny_ord (ht : ∀ a b c, Rel a b → Rel b c → Rel a c) {K : Act → World → Prop} (hs : Region.noSelect ops = true) : ∀ (l : List Nat) (listed : Array Bool) (a : Act) (w : World),
    ordE P md ops held l listed = true → hIdx P Rel ops held K l a w → hAny P Rel md ops held K l.length listed a w
  | [], _, _, _, hB, h => ⟨by simpa [ordE] using hB, h⟩
  | k :: l, listed, a, w, hB, h => by
    simp only [ordE, Bool.and_eq_true] at hB
    obtain ⟨⟨hr, hf⟩, hB'⟩ := hB
    have hk := hOp_some (show hOp P Rel ops held k (hIdx P Rel ops held K l) a w from h)
    obtain ⟨o, _, _, _, h0, _⟩ := hk
    refine hAny_first ht h0 (Region.noSelect_spec hs) (behind md ops listed k) (fun j hj => (behind_spec j hj).2) l.length listed a w (fun j hj => (behind_spec j hj).1) (freeH_spec h0 hf) (by simpa using hr) ?_
    exact hOp_mono (show hOp P Rel ops held k (hIdx P Rel ops held K l) a w from h) fun a' w' h' => hAny_ord ht hs l _ _ _ hB' h'

theorem wpAny_of_hAny (hrf : ∀ w, Rel w w) {K : Act → World → Prop} {Q : Exit → Act → World → Prop} (hQ : ∀ a w, K a w → Q .normal a w) : ∀ (fuel : Nat) (listed : Array Bool) (a : Act) (w : World), hAny P Rel md ops held K fuel listed a w → wpAny P md ops Q fuel listed a w
  | 0, _, _, _, h => ⟨h.1, hQ _ _ h.2⟩
  | fuel + 1, listed, a, w, h => ⟨fun h0 => hQ _ _ (h.1 h0), fun i hi => by
      have h1 := hOp_mono (h.2 i hi) fun a' w' h' => wpAny_of_hAny hrf hQ fuel _ a' w' h'
      unfold hOp at h1
      unfold wpOp
      split at h1
      · exact h1.elim
      · rename_i o ho
        simp only [ho]
        split at h1 <;> rename_i hw
        · rw [if_pos hw]
          refine .inl (wp_of_tr ?_)
          generalize hc : cls P held i o = c at h1
          match c with
          | 0 => obtain ⟨v, hv, hh⟩ := h1; exact (tr_value (hv w)).2 hh
          | 1 => obtain ⟨v, hv, hh⟩ := h1; exact (tr_value (hv w (hrf w))).2 hh
          | n + 2 =>
            have h1 : tr P (execOp a.eval o) w (fun g v w' => Rel w w' ∧ wpAny P md ops Q fuel (listed.setIfInBounds i true) (upd a g o.dst v) w') := h1
            exact tr_mono h1 fun g v w' hh => hh.2
        · rw [if_neg hw]; exact h1⟩

theorem wpList_then {K K' : Act → World → Prop} (hK : ∀ a w, K a w → K' a w) : ∀ (l : List Oper) (a : Act) (w : World), wpList P ops (Exit.then K fun _ _ _ => False) l a w → wpList P ops (Exit.then K' fun _ _ _ => False) l a w
  | [], _, _, h => hK _ _ h
  | o :: rest, a, w, h => by
    unfold wpList at h ⊢
    split at h <;> rename_i hw
    · rw [if_pos hw]
      rcases h with h | ⟨_, a', w', hh⟩
      · exact .inl (wp_of_tr (tr_mono (tr_of_wp h) fun g v w' hh => wpList_then hK rest _ _ hh))
      · exact hh.elim
    · rw [if_neg hw]
      exact wpList_then hK rest _ _ h

/-! ### The walk by stretches -/
/-- The stretches: 0: operations that do not meet the world; 1: one that is read; 2: any other one. -/
def seg (P : Program) (Rel : World → World → Prop) (ops : Array Oper) (K : Act → World → Prop) : List (Nat × List Oper) → Act → World → Prop
  | [], a, w => K a w
  | (0, c) :: r, a, w => wpList P ops (Exit.then (fun a' w' => seg P Rel ops K r a' w') fun _ _ _ => False) c a w
  | (1, c) :: r, a, w => match c with
    | [o] => if Region.wanted o (yielded ops a.tmps) then ∃ v, (∀ w2, Rel w w2 → (execOp a.eval o).run P w2 = .ok (.value v) w2) ∧ seg P Rel ops K r (a.put o.dst v) w else seg P Rel ops K r (a.put o.dst undef) w
    | _ => False
  | (_, c) :: r, a, w => wpList P ops (Exit.then (fun a' w' => Rel w w' ∧ seg P Rel ops K r a' w') fun _ _ _ => False) c a w

/-- What is asked of the operands of the operations that do not meet the world. -/
def askH (P : Program) (ops : Array Oper) (held : List Nat) (a : Act) : Bool := (List.range ops.size).all fun i => match ops[i]? with
  | some o => cls P held i o != 0 || !Region.wanted o (yielded ops a.tmps) || kindOk a o
  | none => true
/-- No operation writes a slot on which it or an earlier one hangs. -/
def steadyI (ops : Array Oper) : List Nat → Bool
  | [] => true
  | i :: r => (match ops[i]? with | some o => (i :: r).all (fun j => match (ops[j]?).bind (·.dst) with | some d => !(hangsOn ops o).contains d | none => true) | none => false) && steadyI ops r
def good (P : Program) (Rel : World → World → Prop) (ops : Array Oper) (held : List Nat) (K : Act → World → Prop) (r : List Nat) (a : Act) (w : World) : Prop :=
  hIdx P Rel ops held K r a w ∧ ∃ a' : Act, askH P ops held a' = true ∧ ∀ t, (∀ j ∈ r, (ops[j]?).bind (·.dst) ≠ some t) → a'.tmps[t]? = a.tmps[t]?

theorem good_put {K : Act → World → Prop} {i : Nat} {o : Oper} {r : List Nat} {a : Act} (hi : ops[i]? = some o) {g : List Deferred → List Deferred} {v : Value}
    (h : ∃ a' : Act, askH P ops held a' = true ∧ ∀ t, (∀ j ∈ r, (ops[j]?).bind (·.dst) ≠ some t) → a'.tmps[t]? = (upd a g o.dst v).tmps[t]?) :
    ∃ a' : Act, askH P ops held a' = true ∧ ∀ t, (∀ j ∈ i :: r, (ops[j]?).bind (·.dst) ≠ some t) → a'.tmps[t]? = a.tmps[t]? := by
  obtain ⟨a', h1, h2⟩ := h
  refine ⟨a', h1, fun t ht => ?_⟩
  rw [h2 t fun j hj => ht j (List.mem_cons_of_mem _ hj)]
  exact upd_agree _ _ _ _ _ (by have := ht i List.mem_cons_self; simpa [hi] using this)

/-- The one step of an operation. -/
theorem good_step {K : Act → World → Prop} {i : Nat} {o : Oper} {r : List Nat} {a : Act} {w : World} (hi : ops[i]? = some o)
    (h : if Region.wanted o (yielded ops a.tmps) then St P Rel (cls P held i o) (execOp a.eval o) w (fun g v w' => good P Rel ops held K r (upd a g o.dst v) w') else good P Rel ops held K r (a.put o.dst undef) w) :
    good P Rel ops held K (i :: r) a w := by
  refine ⟨?_, ?_⟩
  · show hOp P Rel ops held i (hIdx P Rel ops held K r) a w
    unfold hOp
    simp only [hi]
    split at h <;> rename_i hw
    · rw [if_pos hw]; exact h.mono fun g v w' _ _ hh => hh.1
    · rw [if_neg hw]; exact h.1
  · split at h
    · obtain ⟨g, v, w', hh⟩ := h.some
      exact good_put (K := K) hi hh.2
    · exact good_put (K := K) (g := id) hi h.2

theorem good_calm {K : Act → World → Prop} : ∀ (c : List (Nat × Oper)) (r : List Nat) (a : Act) (w : World), (∀ p ∈ c, ops[p.1]? = some p.2 ∧ cls P held p.1 p.2 = 0) → steadyI ops (c.map (·.1) ++ r) = true →
    wpList P ops (Exit.then (fun a' w' => good P Rel ops held K r a' w') fun _ _ _ => False) (c.map (·.2)) a w → good P Rel ops held K (c.map (·.1) ++ r) a w
  | [], _, _, _, _, _, h => h
  | (i, o) :: c, r, a, w, hc, hst, h => by
    obtain ⟨hi, hcl⟩ := hc (i, o) List.mem_cons_self
    simp only at hi hcl
    simp only [List.map_cons, List.cons_append] at hst h ⊢
    have hst0 := hst
    simp only [steadyI, hi, Bool.and_eq_true] at hst
    obtain ⟨hs1, hs2⟩ := hst
    refine good_step hi ?_
    unfold wpList at h
    split at h <;> rename_i hw
    · rw [if_pos hw, hcl]
      rcases h with h | ⟨_, a', w', hh⟩
      case inr => exact hh.elim
      have ht := tr_mono (tr_of_wp h) fun g v w' h' => good_calm c r _ _ (fun p hp => hc p (List.mem_cons_of_mem _ hp)) hs2 h'
      obtain ⟨g, v, w', hg⟩ := tr_some ht
      obtain ⟨a2, hask, hag⟩ := good_put (K := K) hi hg.2
      have hh : ∀ t ∈ hangsOn ops o, a2.tmps[t]? = a.tmps[t]? := fun t ht => hag t fun j hj hd => by
        have := List.all_eq_true.1 hs1 j hj
        simp [hd, ht] at this
      obtain ⟨hk, hwant⟩ := kind_agree (ops := ops) o a a2 hh
      have hko : kindOk a o = true := by
        have hlt : i < ops.size := (Array.getElem?_eq_some_iff.1 hi).1
        have := List.all_eq_true.1 hask i (List.mem_range.2 hlt)
        simp only [hi, hcl, hwant, hw, hk] at this
        simpa using this
      have hr0 : rank P o = 0 := by
        unfold cls at hcl
        split at hcl
        · cases hcl
        · split at hcl
          · assumption
          · cases hcl
      obtain ⟨u, hu, hR⟩ := tr_quiet (by omega) hko ht
      exact ⟨u, run_calm hr0 hko hu, hR⟩
    · rw [if_neg hw]
      exact good_calm c r _ _ (fun p hp => hc p (List.mem_cons_of_mem _ hp)) hs2 h

/-- The stretches are those of the order. -/
def pairs (ops : Array Oper) (c : List Nat) : List (Nat × Oper) := c.filterMap fun i => (ops[i]?).map fun o => (i, o)
def segOk (P : Program) (ops : Array Oper) (held : List Nat) : List (Nat × List Nat) → Bool
  | [] => true
  | (0, c) :: r => c.all (fun i => match ops[i]? with | some o => cls P held i o == 0 | none => false) && segOk P ops held r
  | (1, [i]) :: r => (match ops[i]? with | some o => cls P held i o == 1 | none => false) && segOk P ops held r
  | (2, [i]) :: r => (match ops[i]? with | some o => cls P held i o == 2 | none => false) && segOk P ops held r
  | _ => false
def flat (s : List (Nat × List Nat)) : List Nat := s.flatMap (·.2)
def segOps (ops : Array Oper) (s : List (Nat × List Nat)) : List (Nat × List Oper) := s.map fun p => (p.1, (pairs ops p.2).map (·.2))

theorem pairs_fst (c : List Nat) (h : c.all (fun i => match ops[i]? with | some o => cls P held i o == 0 | none => false) = true) : (pairs ops c).map (·.1) = c ∧ ∀ p ∈ pairs ops c, ops[p.1]? = some p.2 ∧ cls P held p.1 p.2 = 0 := by
  induction c with
  | nil => exact ⟨rfl, fun p hp => by cases hp⟩
  | cons i c ih =>
    simp only [List.all_cons, Bool.and_eq_true] at h
    obtain ⟨h1, h2⟩ := h
    obtain ⟨e, hp⟩ := ih h2
    cases ho : ops[i]? with
    | none => rw [ho] at h1; cases h1
    | some o =>
      rw [ho] at h1
      have hpe : pairs ops (i :: c) = (i, o) :: pairs ops c := by simp [pairs, ho]
      rw [hpe]
      refine ⟨by rw [List.map_cons, e], fun p hp' => ?_⟩
      rcases List.mem_cons.1 hp' with rfl | hp'
      · exact ⟨ho, by simpa using h1⟩
      · exact hp p hp'

theorem steadyI_tail : ∀ (c r : List Nat), steadyI ops (c ++ r) = true → steadyI ops r = true
  | [], _, h => h
  | _ :: c, r, h => by
    simp only [List.cons_append, steadyI, Bool.and_eq_true] at h
    exact steadyI_tail c r h.2

theorem good_of_seg {K : Act → World → Prop} : ∀ (s : List (Nat × List Nat)) (a : Act) (w : World), segOk P ops held s = true → steadyI ops (flat s) = true →
    seg P Rel ops (fun a' w' => askH P ops held a' = true ∧ K a' w') (segOps ops s) a w → good P Rel ops held K (flat s) a w
  | [], a, w, _, _, h => by
    have h : askH P ops held a = true ∧ K a w := h
    exact ⟨h.2, a, h.1, fun _ _ => rfl⟩
  | (0, c) :: r, a, w, hok, hst, h => by
    simp only [segOk, Bool.and_eq_true] at hok
    obtain ⟨e, hp⟩ := pairs_fst c hok.1
    have hst' : steadyI ops (c ++ flat r) = true := hst
    show good P Rel ops held K (c ++ flat r) a w
    have h' : wpList P ops (Exit.then (fun a' w' => good P Rel ops held K (flat r) a' w') fun _ _ _ => False) ((pairs ops c).map (·.2)) a w := by
      exact wpList_then (fun a' w' hh => good_of_seg r _ _ hok.2 (steadyI_tail c _ hst') hh) _ _ _ (show wpList P ops (Exit.then (fun a' w' => seg P Rel ops (fun a' w' => askH P ops held a' = true ∧ K a' w') (segOps ops r) a' w') fun _ _ _ => False) ((pairs ops c).map (·.2)) a w from h)
    rw [← e] at hst' ⊢
    exact good_calm (pairs ops c) (flat r) a w hp hst' h'
  | (1, [i]) :: r, a, w, hok, hst, h => by
    simp only [segOk, Bool.and_eq_true] at hok
    obtain ⟨h1, h2⟩ := hok
    cases ho : ops[i]? with
    | none => rw [ho] at h1; cases h1
    | some o =>
      rw [ho] at h1
      have hst' : steadyI ops ([i] ++ flat r) = true := hst
      have hc : cls P held i o = 1 := by simpa using h1
      refine good_step ho ?_
      simp only [segOps, List.map_cons, pairs, List.filterMap_cons, ho, Option.map_some, List.filterMap_nil, List.map_nil, seg] at h
      split at h <;> rename_i hw
      · rw [if_pos hw, hc]
        obtain ⟨v, hv, hh⟩ := h
        exact ⟨v, hv, good_of_seg r _ _ h2 (steadyI_tail _ _ hst') hh⟩
      · rw [if_neg hw]
        exact good_of_seg r _ _ h2 (steadyI_tail _ _ hst') h
  | (2, [i]) :: r, a, w, hok, hst, h => by
    simp only [segOk, Bool.and_eq_true] at hok
    obtain ⟨h1, h2⟩ := hok
    cases ho : ops[i]? with
    | none => rw [ho] at h1; cases h1
    | some o =>
      rw [ho] at h1
      have hst' : steadyI ops ([i] ++ flat r) = true := hst
      have hc : cls P held i o = 2 := by simpa using h1
      refine good_step ho ?_
      simp only [segOps, List.map_cons, pairs, List.filterMap_cons, ho, Option.map_some, List.filterMap_nil, List.map_nil, seg] at h
      unfold wpList at h
      split at h <;> rename_i hw
      · rw [if_pos hw, hc]
        rcases h with h | ⟨_, a', w', hh⟩
        case inr => exact hh.elim
        show tr P (execOp a.eval o) w fun g v w' => Rel w w' ∧ good P Rel ops held K (flat r) (upd a g o.dst v) w'
        exact tr_mono (tr_of_wp h) fun g v w' hh => ⟨hh.1, good_of_seg r _ _ h2 (steadyI_tail _ _ hst') hh.2⟩
      · rw [if_neg hw]
        have h : Rel w w ∧ _ := h
        exact good_of_seg r _ _ h2 (steadyI_tail _ _ hst') h.2

def holdB (P : Program) (ops : Array Oper) (held : List Nat) (s : List (Nat × List Nat)) : Bool :=
  Region.noSelect ops && segOk P ops held s && steadyI ops (flat s) && ordE P .any ops held (flat s) (Array.replicate ops.size false) && (flat s).length == ops.size

/-- A region that draws its order, walked once by stretches. -/
theorem wp_region_hold (Rel : World → World → Prop) (hrf : ∀ w, Rel w w) (ht : ∀ a b c, Rel a b → Rel b c → Rel a c) (held : List Nat) (s : List (Nat × List Nat)) (so : List (Nat × List Oper)) (l : List Oper)
    {id : Nat} {Q : Exit → Act → World → Prop} {a : Act} {w : World} (hm : P.follows .mixedOrders = true) (hB : holdB P l.toArray held s = true) (hso : segOps l.toArray s = so)
    (h : seg P Rel l.toArray (fun a' w' => askH P l.toArray held a' = true ∧ Q .normal a' w') so a w.drew) : (Code.region id l.toArray true).wp P Q a w := by
  simp only [holdB, Bool.and_eq_true, beq_iff_eq] at hB
  obtain ⟨⟨⟨⟨h1, h2⟩, h3⟩, h4⟩, h5⟩ := hB
  refine wp_region_any hm ?_
  subst hso
  have hg := good_of_seg (K := fun a' w' => Q .normal a' w') s a w.drew h2 h3 h
  have hl := hAny_ord (P := P) (Rel := Rel) (md := .any) ht h1 (flat s) (Array.replicate l.toArray.size false) a w.drew h4 hg.1
  have := wpAny_of_hAny hrf (Q := Q) (fun _ _ hh => hh) _ _ _ _ hl
  rw [h5] at this
  exact this

/-! ### The plan -/
/-- Operations that only read. -/
def readish (P : Program) (o : Oper) : Bool := rank P o != 0 && match o.op with
  | .load .. | .field .. | .index .. => true
  | .convert s d _ => s != d
  | .call { callee := .builtin .len, .. } => true
  | _ => false
def heldOf (P : Program) (ops : Array Oper) : List Nat := (List.range ops.size).filter fun i => match ops[i]? with | some o => readish P o | none => false
def planGo (P : Program) (md : Region.Mode) (ops : Array Oper) (held : List Nat) : Nat → Array Bool → List Nat
  | 0, _ => []
  | fuel + 1, listed =>
    let r := (Region.ready md ops listed).filter (freeH P md ops held listed)
    let c (n : Nat) (i : Nat) : Bool := match ops[i]? with | some o => cls P held i o == n | none => false
    match (r.find? (c 0)).or ((r.find? (c 1)).or (r.find? (c 2))) with
    | some i => i :: planGo P md ops held fuel (listed.setIfInBounds i true)
    | none => []
/-- The order's classes and places, one behind the other. -/
def planOf (P : Program) (ops : Array Oper) (held : List Nat) : List Nat :=
  (planGo P .any ops held ops.size (Array.replicate ops.size false)).flatMap fun i => [match ops[i]? with | some o => cls P held i o | none => 9, i]
end

section
variable {P : Program} {Rel : World → World → Prop} {ops : Array Oper} {K : Act → World → Prop} {r : List (Nat × List Oper)} {a : Act} {w : World}
theorem seg_end (h : K a w) : seg P Rel ops K [] a w := h
theorem seg_calm {c : List Oper} (h : wpList P ops (Exit.then (fun a' w' => seg P Rel ops K r a' w') fun _ _ _ => False) c a w) : seg P Rel ops K ((0, c) :: r) a w := h
theorem seg_held {o : Oper} (hw : Region.wanted o (yielded ops a.tmps) = true) (v : Value) (h : ∀ w2, Rel w w2 → (execOp a.eval o).run P w2 = .ok (.value v) w2) (h2 : seg P Rel ops K r (a.put o.dst v) w) : seg P Rel ops K ((1, [o]) :: r) a w := by
  show if Region.wanted o (yielded ops a.tmps) then ∃ v, (∀ w2, Rel w w2 → (execOp a.eval o).run P w2 = .ok (.value v) w2) ∧ seg P Rel ops K r (a.put o.dst v) w else seg P Rel ops K r (a.put o.dst undef) w
  rw [if_pos hw]
  exact ⟨v, h, h2⟩
theorem seg_skip {o : Oper} (hw : Region.wanted o (yielded ops a.tmps) = false) (h2 : seg P Rel ops K r (a.put o.dst undef) w) : seg P Rel ops K ((1, [o]) :: r) a w := by
  show if Region.wanted o (yielded ops a.tmps) then ∃ v, (∀ w2, Rel w w2 → (execOp a.eval o).run P w2 = .ok (.value v) w2) ∧ seg P Rel ops K r (a.put o.dst v) w else seg P Rel ops K r (a.put o.dst undef) w
  rw [if_neg (by rw [hw]; exact Bool.false_ne_true)]
  exact h2
theorem seg_call {c : List Oper} (h : wpList P ops (Exit.then (fun a' w' => Rel w w' ∧ seg P Rel ops K r a' w') fun _ _ _ => False) c a w) : seg P Rel ops K ((2, c) :: r) a w := h
end
theorem held_convert {P : Program} {o : Oper} {ev : Operand → Value} {src dst : TypeId} {x : Operand} {v : Value} {w : World} (ho : o.op = .convert src dst x) (h : (convert src dst (ev x)).run P w = .ok v w) : (execOp ev o).run P w = .ok (.value v) w := by
  obtain ⟨d, op, t, p, af, g⟩ := o
  simp only at ho
  subst ho
  show (convert src dst (ev x) >>= fun v => (pure (Next.value v) : Sem Next)).run P w = _
  rw [Sem.run_bind, h]
  rfl
theorem held_load {P : Program} {o : Oper} {ev : Operand → Value} {t : TypeId} {x : Operand} {v : Value} {w : World} (ho : o.op = .load t x) (h : (Instr.loadAt t (ev x)).run P w = .ok v w) : (execOp ev o).run P w = .ok (.value v) w := by
  obtain ⟨d, op, t', p, af, g⟩ := o
  simp only at ho
  subst ho
  show (Instr.loadAt t (ev x) >>= fun v => (pure (Next.value v) : Sem Next)).run P w = _
  rw [Sem.run_bind, h]
  rfl
/-- Nothing that was there has changed. -/
def Grow (w w' : World) : Prop := Keeps (fun _ => False) w w'
theorem Grow.refl (w : World) : Grow w w := Keeps.refl _ w
theorem Grow.trans (a b c : World) (h : Grow a b) (k : Grow b c) : Grow a c := Keeps.trans h k fun _ _ h => h
end Go.Proofs.Ytfegjdabjdahgaa
