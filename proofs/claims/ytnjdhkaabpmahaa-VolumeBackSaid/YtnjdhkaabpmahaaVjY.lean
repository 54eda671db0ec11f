/- volume: rows of parts, read. -/
import Derived.Test.YtnjdhkaabpmahaaVjX
namespace Go.Proofs.Ytnjdhkaabpmahaa
open Go.RowKit
set_option linter.unusedVariables false
set_option linter.unusedSimpArgs false

theorem rowsOf {w : World} {B B2 n c : Nat} {A : Option Addr} {Ts : List Part} (h : w.ownsRow B 24 1 (.slice A n c) n (Ts.map pV)) (he : ∀ t ∈ Ts, w.ownsRow B2 5 1 (pV t) t.2.2.length (t.2.2.map (Value.int .u8)))
    (hr : ∀ t ∈ Ts, ∀ x ∈ t.2.2, inKind .u8 x) (hf : n ≤ 1048576) (ht : ((Ts.map (fun t => t.2.2)).map List.length).sum ≤ 4194304) : RowsR w A n c (Ts.map fun t => t.2.2) := by
  have hl : Ts.length = n := by have := h.1; simpa using this
  refine ⟨by simpa using hl, ?_, fun e => ?_, fun hpos => ?_, fun j hj => ?_, hf, ht⟩
  · rcases h.2 with ⟨hv, h0⟩ | ⟨g, cap, cur, hv, _, _, hnc, _⟩
    · omega
    · injection hv with _ _ e; omega
  · subst e
    rcases h.2 with ⟨hv, h0⟩ | ⟨g, cap, cur, hv, _⟩
    · injection hv with _ _ e
    · cases hv
  · obtain ⟨g, e, _, _⟩ := own_addr h hpos
    refine ⟨g, 0, e, fun j hj => ?_⟩
    subst e
    have hc := h.cellAt j (by omega)
    obtain ⟨t, htj⟩ : ∃ t, Ts[j]? = some t := ⟨_, List.getElem?_eq_getElem (by omega)⟩
    have hg : (Ts.map fun t => t.2.2).getD j [] = t.2.2 := by rw [List.getD_eq_getElem?_getD, List.getElem?_map, htj]; rfl
    have hm := List.mem_of_getElem? htj
    rw [hg, Nat.zero_add, hc, List.getElem?_map, htj]
    exact ⟨some ⟨t.1, 0, none⟩, t.2.1, rfl, Nums.of_own (he t hm) (hr t hm)⟩
  · have := len_le_sum (Ts.map fun t => t.2.2) j; omega
theorem RowsR.tail {w : World} {A : Option Addr} {n c : Nat} {l : List (List Int)} (h : RowsR w A n c l) (hn : 0 < n) : RowsR w (Nums.off A c 1) (n - 1) (c - 1) l.tail := by
  have hcap := h.cap
  have hgd : ∀ j, l.tail.getD j [] = l.getD (j + 1) [] := fun j => by
    cases l with
    | nil => rfl
    | cons a r => rfl
  refine ⟨by rw [List.length_tail, h.len], by omega, fun e => ?_, fun hm => ?_, fun j hj => by rw [hgd]; exact h.sm (j + 1) (by omega), by have := h.few; omega, ?_⟩
  · unfold Nums.off at e
    split at e
    · omega
    · cases A with
      | none => have := h.nil rfl; omega
      | some a => cases e
  · obtain ⟨b, o, e, hc⟩ := h.at_ hn
    refine ⟨b, o + 1, ?_, fun j hj => ?_⟩
    · unfold Nums.off
      rw [if_neg (by omega), e]
      exact congrArg some (Addr.add_mid b o 1)
    · rw [hgd, Nat.add_assoc, Nat.add_comm 1 j]
      exact hc (j + 1) (by omega)
  · have := h.tot
    cases l with
    | nil => simp
    | cons a r => simp only [List.map_cons, List.sum_cons, List.tail_cons] at this ⊢; omega
/-- Bools that lie in a slice. -/
def Bools (w : World) (A : Option Addr) (l : List Bool) : Prop := ∀ j, j < l.length → ∃ b o, A = some ⟨b, o, none⟩ ∧ w.cell? ⟨b, o + j, none⟩ = some (.bool (l.getD j false))
theorem Bools.grow {w w' : World} {A : Option Addr} {l : List Bool} (h : Bools w A l) (k : Grow w w') : Bools w' A l := fun j hj => by
  obtain ⟨b, o, e, hc⟩ := h j hj
  exact ⟨b, o, e, ckp hc k (fun h => h)⟩
theorem bools_of_rd {w : World} {A : Option Addr} {c : Nat} {l : List Bool} (h : Sh.Rd w (.sl 1 .bool) [.slice A l.length c] l) : Bools w A l := by
  obtain ⟨a, cap, e, h1, h2, h3, hn, h4⟩ := h
  injection e with e _
  injection e with e1 _ e3
  subst e1
  intro j hj
  obtain ⟨b, off, ea, _, hel⟩ := h4 (by omega)
  have hg : l[j]? = some (l.getD j false) := by rw [List.getD_eq_getElem?_getD, List.getElem?_eq_getElem hj]; rfl
  obtain ⟨cs, hl, hc, hr⟩ := hel j _ hg
  have hr : cs = [.bool (l.getD j false)] := hr
  have hc0 := hc 0 (by show 0 < 1; decide)
  have e0 : off + (j * Sh.size .bool + 0) = off + j := by show off + (j * 1 + 0) = off + j; omega
  rw [e0, hr] at hc0
  exact ⟨b, off, ea, hc0⟩
theorem lit3_nums {B e g : Nat} {w : World} (h : Lit8 B e [97, 98, 99] (.slice (some ⟨g, 0, none⟩) 3 3) w) : Nums .u8 w (some ⟨g, 0, none⟩) 3 3 [97, 98, 99] :=
  ⟨rfl, fun x hx => by simp at hx; rcases hx with rfl | rfl | rfl <;> exact ⟨by decide, by decide⟩, by decide, fun h => (by cases h), fun _ => ⟨g, 0, rfl, fun j hj => by
    have h9 := h.cellAt j hj
    rw [Nat.zero_add, h9]
    rcases (show j = 0 ∨ j = 1 ∨ j = 2 by omega) with rfl | rfl | rfl <;> rfl⟩⟩
theorem far2 {w : World} {B1 B2 e1 e2 s1 s2 n m : Nat} {v1 v2 : Value} {x1 x2 : List Value} (h1 : w.ownsRow B1 e1 s1 v1 n x1) (h2 : w.ownsRow B2 e2 s2 v2 m x2) (hne : e1 ≠ e2) : ∀ i, v1.ownBlock = some i → ¬ (v2.ownBlock = some i) := fun i hi => by
  rcases h1.2 with ⟨hv, _⟩ | ⟨g, cap, cur, hv, _, hh, _⟩
  · subst hv; simp [Value.ownBlock] at hi
  · subst hv
    have hi : g = i := by simpa [Value.ownBlock] using hi
    subst hi
    exact row_ne h2 hh (fun h => hne h.symm)
theorem probe_ok : (splP [97, 98, 99] 26).1 = 0 ∧ (splP [97, 98, 99] 26).2.length = 2 := by
  have hc : cntP ([97, 98, 99] : List Int).length (26 - 24 : Int).toNat = 2 := by decide
  unfold splP
  rw [if_neg (by omega), hc, if_neg (by omega)]
  exact ⟨rfl, rfl⟩
theorem splP_bad {xs : List Int} {size : Int} (h : (splP xs size).1 ≠ 0) : (splP xs size).2 = [] := by
  unfold splP at h ⊢
  split
  · rfl
  · rename_i h1
    rw [if_neg h1] at h
    split
    · rfl
    · rename_i h2
      rw [if_neg h2] at h
      exact absurd rfl h
theorem splP_good {xs : List Int} {size : Int} (h : (splP xs size).1 = 0) : 1 ≤ (size - 24).toNat ∧ cntP xs.length (size - 24).toNat ≤ 1024 ∧ 1 ≤ cntP xs.length (size - 24).toNat ∧ (splP xs size).2 = (List.range (cntP xs.length (size - 24).toNat)).map (volP xs (size - 24).toNat (cntP xs.length (size - 24).toNat)) := by
  unfold splP at h ⊢
  split
  · rename_i h1
    rw [if_pos h1] at h
    cases h
  · rename_i h1
    rw [if_neg h1] at h
    split
    · rename_i h2
      rw [if_pos h2] at h
      cases h
    · rename_i h2
      refine ⟨by omega, by omega, ?_, rfl⟩
      unfold cntP
      split <;> omega
theorem splP_small {xs : List Int} {size : Int} (h : (splP xs size).1 ≤ 3) : True := trivial
theorem splP_code (xs : List Int) (size : Int) : (splP xs size).1 ≤ 3 := by
  unfold splP
  split
  · decide
  split
  · decide
  · exact Nat.zero_le _
theorem sum_le_mul (k : Nat) : ∀ l : List Nat, (∀ x ∈ l, x ≤ k) → l.sum ≤ l.length * k
  | [], _ => by simp
  | a :: r, h => by
    have h1 := h a (List.mem_cons_self ..)
    have h2 := sum_le_mul k r fun x hx => h x (List.mem_cons_of_mem _ hx)
    rw [List.sum_cons, List.length_cons, Nat.succ_mul]
    omega
/-- Some volumes' bytes are few. -/
theorem SubV.tot {xs : List Int} {sz cnt : Nat} {I : List Nat} (h : SubV xs sz cnt I) : ((I.map (volP xs sz cnt)).map List.length).sum ≤ 4194304 ∧ I.length ≤ cnt := by
  have hIl : I.length ≤ cnt := by
    have := pigeon I (List.range cnt) h.nd fun x hx => List.mem_range.2 (h.lt x hx)
    rwa [List.length_range] at this
  refine ⟨?_, hIl⟩
  have key : ∀ J : List Nat, J.Nodup → (∀ i ∈ J, i < cnt) → ((J.map (volP xs sz cnt)).map List.length).sum ≤ J.length * 24 + ((J.map (shr xs sz)).map List.length).sum := by
    intro J
    induction J with
    | nil => intro _ _; simp
    | cons a r ih =>
      intro hn hl
      have h1 := ih (List.nodup_cons.1 hn).2 fun i hi => hl i (List.mem_cons_of_mem _ hi)
      have h2 : (volP xs sz cnt a).length = 24 + (shr xs sz a).length := by
        obtain ⟨s20, hl2, _, hv⟩ := vol_form xs sz cnt a
        rw [hv, List.length_append, List.length_append, hl2, leN_len]; omega
      simp only [List.map_cons, List.sum_cons, List.length_cons, h2]
      omega
  have hsum : ((I.map (shr xs sz)).map List.length).sum ≤ xs.length := by
    have hp : ∀ (J K : List Nat), J.Nodup → (∀ i ∈ J, i ∈ K) → ((J.map (shr xs sz)).map List.length).sum ≤ ((K.map (shr xs sz)).map List.length).sum := by
      intro J
      induction J with
      | nil => intro K _ _; simp
      | cons a r ih =>
        intro K hn hs
        have ha := hs a (List.mem_cons_self ..)
        have h1 := ih (K.erase a) (List.nodup_cons.1 hn).2 fun i hi => (List.mem_erase_of_ne (fun e : i = a => (List.nodup_cons.1 hn).1 (by rw [← e]; exact hi))).2 (hs i (List.mem_cons_of_mem _ hi))
        have h2 := perm_sum (((List.perm_cons_erase ha).map (shr xs sz)).map List.length)
        simp only [List.map_cons, List.sum_cons] at h2 ⊢
        omega
    have h1 := hp I (List.range cnt) h.nd fun i hi => List.mem_range.2 (h.lt i hi)
    have h2 := congrArg List.length (shr_flat xs sz cnt)
    rw [List.length_flatten, List.length_take] at h2
    omega
  have h1 := key I h.nd h.lt
  have := h.few
  have := h.small
  omega
end Go.Proofs.Ytnjdhkaabpmahaa
