/- limit.Lengths: what stands between the plain and the walk. -/
import Derived.Test.YtfegjdabjdahgaaLmD
namespace Go.Proofs.Ytfegjdabjdahgaa
open Go.RowKit
set_option linter.unusedVariables false
set_option linter.unusedSimpArgs false

def leafT (p : Nat × Nat) : CoinT := .leaf p.1 p.2
theorem list_getD_ext {xs ys : List Int} (hl : xs.length = ys.length) (h : ∀ j, j < xs.length → xs.getD j 0 = ys.getD j 0) : xs = ys := by
  apply List.ext_getElem hl
  intro j h1 h2
  have := h j h1
  simpa [List.getD_eq_getElem?_getD, h1, h2] using this
theorem lensP_get {xs : List Int} {L j : Nat} (hj : j < xs.length) : (lensP xs L).getD j 0 = ((if (baseP xs).length < 2 then cntX j (0, (baseP xs).map (·.2)) else lenP (baseP xs) L j : Nat) : Int) := by
  unfold lensP
  simp [List.getD_eq_getElem?_getD, hj]
theorem zeros_get (n j : Nat) : (List.replicate n (0 : Int)).getD j 0 = 0 := by
  rw [List.getD_eq_getElem?_getD, List.getElem?_replicate]
  split <;> rfl
theorem lens_eq1 {xs : List Int} {L n : Nat} (hn : xs.length = n) (hk : (baseP xs).length < 2) : bumpL (List.replicate n 0) ((comers 0 xs).map (·.2)) = lensP xs L := by
  refine list_getD_ext (by rw [bumpL_len]; simp [lensP, hn]) fun j hj => ?_
  rw [bumpL_len, List.length_replicate] at hj
  rw [bumpL_get _ _ j (by simpa using hj), zeros_get, lensP_get (by omega), if_pos hk, Int.zero_add]
  congr 1
  exact (((baseP_perm xs).map (·.2)).count_eq j).symm
theorem lens_eq2 {xs : List Int} {L n : Nat} (hn : xs.length = n) (hk : ¬ (baseP xs).length < 2) : bumpL (List.replicate n 0) (((rounds ((baseP xs).map coinOf) (L - 1)).take (2 * (baseP xs).length - 2)).flatMap (·.2)) = lensP xs L := by
  refine list_getD_ext (by rw [bumpL_len]; simp [lensP, hn]) fun j hj => ?_
  rw [bumpL_len, List.length_replicate] at hj
  rw [bumpL_get _ _ j (by simpa using hj), zeros_get, lensP_get (by omega), if_neg hk, Int.zero_add]
  unfold lenP
  rw [sumF_flat]
/-- The order of a world's coins. -/
def ordOf (w : World) : Ord := ⟨fun b => match w.cell? ⟨b, 0, none⟩ with | some (.int _ x) => x | _ => 0, fun b => match w.cell? ⟨b, 1, none⟩ with | some (.int _ x) => x.toNat | _ => 0⟩
theorem ord_leaf {w : World} {v s b : Nat} (h : CoinAt w (.leaf v s) b) : (ordOf w).wo b = (v : Int) ∧ (ordOf w).ix b = s := by
  have h1 : w.cell? ⟨b, 0, none⟩ = some (.int .i64 (v : Nat)) := by rw [blk_cell (show w.heap[b]? = some (coinBlk v s none none) from h)]; rfl
  have h2 : w.cell? ⟨b, 1, none⟩ = some (.int .i64 (s : Nat)) := by rw [blk_cell (show w.heap[b]? = some (coinBlk v s none none) from h)]; rfl
  simp [ordOf, h1, h2]
/-- The block at a place. -/
def fOf (ps : List PC) (j : Nat) : Nat := match ps[j]? with | some p => p.2 | none => 0
theorem fOf_some {ps : List PC} {j : Nat} {p : PC} (h : ps[j]? = some p) : fOf ps j = p.2 := by unfold fOf; rw [h]
/-- A row of leaves as the sort wants it. -/
theorem rowF_of {w : World} {B g cap k : Nat} {ps : List PC} {cs : List (Nat × Nat)} (h : w.ownsRow B 37 1 (.slice (some ⟨g, 0, none⟩) k cap) k (ps.map ptrOf)) (hc : Coins w ps) (ht : ps.map (·.1) = cs.map leafT) (hb : ∀ p ∈ cs, p.1 ≤ 1099511627776) (hk : 0 < k) :
    RowF (ordOf w) w g cap k (fOf ps) ∧ ((List.range k).map (fOf ps)).map (fun b => (((ordOf w).wo b).toNat, (ordOf w).ix b)) = cs := by
  have hl : ps.length = k := by have := h.1; simpa using this
  have hlc : cs.length = k := by have h9 := congrArg List.length ht; simp at h9; omega
  have hat : ∀ j, j < k → ∃ p c, ps[j]? = some p ∧ cs[j]? = some c ∧ p.1 = leafT c := fun j hj => by
    refine ⟨ps[j]'(by omega), cs[j]'(by omega), List.getElem?_eq_getElem _, List.getElem?_eq_getElem _, ?_⟩
    have h1 : (ps.map (·.1))[j]? = (cs.map leafT)[j]? := by rw [ht]
    rw [List.getElem?_map, List.getElem?_map, List.getElem?_eq_getElem (show j < ps.length by omega), List.getElem?_eq_getElem (show j < cs.length by omega)] at h1
    simpa using h1
  have hval : ∀ j, j < k → ∃ c, cs[j]? = some c ∧ CoinAt w (leafT c) (fOf ps j) := fun j hj => by
    obtain ⟨p, c, h1, h2, h3⟩ := hat j hj
    refine ⟨c, h2, ?_⟩
    rw [fOf_some h1, ← h3]
    exact hc p (List.mem_of_getElem? h1)
  rcases h.2 with ⟨hv, _⟩ | ⟨g', cap', cur, hv, _, hh, hnc, hcm, hcs, htk⟩
  · injection hv with hv; cases hv
  injection hv with hv h1 h2
  injection hv with hv
  injection hv with hv _ _
  subst hv
  subst h2
  refine ⟨⟨⟨cur, hh, by omega, hnc, fun j hj => ?_⟩, fun j hj => ?_, fun j hj => ?_⟩, ?_⟩
  · obtain ⟨p, c, h1, h2, h3⟩ := hat j hj
    have e1 : (cur.toList.take (k * 1))[j]? = (ps.map ptrOf)[j]? := by rw [htk]
    rw [List.getElem?_take, if_pos (by omega), List.getElem?_map, h1] at e1
    rw [fOf_some h1]
    simpa [ptrOf] using e1
  · obtain ⟨c, h1, h2⟩ := hval j hj
    have h3 := ord_leaf h2
    refine ⟨?_, fun e => ?_⟩
    · rw [h3.1]; exact h2.worth
    · have h4 : w.heap[fOf ps j]? = some (coinBlk c.1 c.2 none none) := h2
      rw [e, hh] at h4
      injection h4 with h4
      injection h4 with _ h4
      exact absurd h4 (by decide)
  · obtain ⟨c, h1, h2⟩ := hval j hj
    have h3 := ord_leaf h2
    have := hb c (List.mem_of_getElem? h1)
    rw [h3.1]
    omega
  · rw [List.map_map]
    apply List.ext_getElem
    · simp [hlc]
    · intro j h1 h2
      simp only [List.getElem_map, List.getElem_range, Function.comp]
      obtain ⟨c, h3, h4⟩ := hval j (by omega)
      have h5 := ord_leaf h4
      rw [List.getElem?_eq_getElem h2] at h3
      injection h3 with h3
      rw [h5.1, h5.2, h3]
      rfl
/-- The sorted row as coins. -/
def basePC (o : Ord) (k : Nat) (f : Nat → Nat) : List PC := (List.range k).map fun i => (CoinT.leaf (o.wo (f i)).toNat (o.ix (f i)), f i)
theorem sorted_base {w w' : World} {B g cap k : Nat} {ps : List PC} {xs : List Int} (h : w.ownsRow B 37 1 (.slice (some ⟨g, 0, none⟩) k cap) k (ps.map ptrOf)) (hc : Coins w ps) (ht : ps.map (·.1) = (comers 0 xs).map leafT) (hb : ∀ p ∈ comers 0 xs, p.1 ≤ 1099511627776) (hk : 0 < k)
    {f' : Nat → Nat} (hr : RowF (ordOf w) w' g cap k f') (hp : Pm k (fOf ps) f') (hu : Up (ordOf w) 0 k f') (hK : Keeps (fun x => x = g) w w') :
    Ptrs w' (some ⟨g, 0, none⟩) k cap (basePC (ordOf w) k f') ∧ (basePC (ordOf w) k f').map (fun p => p.1.coin) = (baseP xs).map coinOf := by
  obtain ⟨h1, h2⟩ := rowF_of h hc ht hb hk
  have hl : ps.length = k := by have := h.1; simpa using this
  have hmem : ∀ i, i < k → ∃ q, q < k ∧ f' i = fOf ps q := fun i hi => by
    have : f' i ∈ (List.range k).map (fOf ps) := hp.mem_iff.1 (List.mem_map_of_mem (List.mem_range.2 hi))
    obtain ⟨q, hq, e⟩ := List.mem_map.1 this
    exact ⟨q, List.mem_range.1 hq, e.symm⟩
  have hg : NoCoin w (fun x => x = g) := fun x hx c f hh => by
    obtain ⟨cur, hcur, _⟩ := h1.blk
    subst hx
    rw [hcur] at hh
    injection hh with hh
    injection hh with _ hh
    exact absurd hh (by decide)
  have hbs : ((List.range k).map f').map (fun b => (((ordOf w).wo b).toNat, (ordOf w).ix b)) = baseP xs := by
    refine baseP_only ?_ ?_
    · rw [List.pairwise_map, List.pairwise_map]
      refine List.pairwise_iff_getElem.2 fun i j hi hj hij => ?_
      rw [List.length_range] at hi hj
      simp only [List.getElem_range]
      have h3 := hu i j (Nat.zero_le _) hij hj
      have h4 := (hr.big i hi).1
      have h5 := (hr.big j hj).1
      unfold Ord.lt at h3
      unfold Lex
      simp only
      omega
    · have h3 := hp.map (fun b => (((ordOf w).wo b).toNat, (ordOf w).ix b))
      rw [h2] at h3
      exact h3
  refine ⟨⟨by simp [basePC], (by obtain ⟨cur, _, _, h3, _⟩ := hr.blk; exact h3), fun e => (by cases e), fun _ => ⟨g, 0, rfl, fun j p hj => ?_⟩, fun p hp9 => ?_⟩, ?_⟩
  · unfold basePC at hj
    rw [List.getElem?_map] at hj
    cases hq : (List.range k)[j]? with
    | none => rw [hq] at hj; cases hj
    | some i =>
      rw [hq] at hj
      injection hj with hj
      obtain ⟨hjk, e⟩ := List.getElem?_eq_some_iff.1 hq
      rw [List.getElem_range] at e
      subst e
      subst hj
      rw [Nat.zero_add]
      exact hr.cell (by simpa using hjk)
  · obtain ⟨i, hi, rfl⟩ := List.mem_map.1 hp9
    have hik := List.mem_range.1 hi
    obtain ⟨q, hq, e⟩ := hmem i hik
    have hps : ps[q]? = some (ps[q]'(by omega)) := List.getElem?_eq_getElem _
    have hc1 := hc _ (List.mem_of_getElem? hps)
    have ht1 : (ps.map (·.1))[q]? = ((comers 0 xs).map leafT)[q]? := by rw [ht]
    rw [List.getElem?_map, List.getElem?_map, hps] at ht1
    cases hcq : (comers 0 xs)[q]? with
    | none => rw [hcq] at ht1; cases ht1
    | some c =>
      rw [hcq] at ht1
      injection ht1 with ht1
      have ht1 : (ps[q]'(by omega)).1 = leafT c := ht1
      rw [ht1] at hc1
      have h3 := ord_leaf hc1
      have ef : f' i = (ps[q]'(by omega)).2 := by rw [e, fOf_some hps]
      show CoinAt w' (.leaf ((ordOf w).wo (f' i)).toNat ((ordOf w).ix (f' i))) (f' i)
      rw [ef, h3.1, h3.2, Int.toNat_natCast]
      exact hc1.keep hK hg
  · rw [← hbs]
    unfold basePC
    simp only [List.map_map]
    refine List.map_congr_left fun i _ => ?_
    rfl
/-- A round. -/
theorem round_coins {base cs qs : List PC} {B : List Coin} {j : Nat} (hb : base.map (fun p => p.1.coin) = B) (hc : cs.map (fun p => p.1.coin) = rounds B j) (hq : qs.map (·.1) = pairsT cs) : (mergeBy keyOf base qs).map (fun p => p.1.coin) = rounds B (j + 1) := by
  rw [mergeBy_map keyOf (·.1) (fun p : PC => p.1.coin) (fun _ => rfl), hb, rounds, ← hc, ← pairsT_coin cs, ← hq, List.map_map]
  rfl
theorem coin_val {cs : List PC} {B : List Coin} {j : Nat} (hc : cs.map (fun p => p.1.coin) = rounds B j) (hs : sumF (·.1) B ≤ 1099511627776) (hj : j ≤ 20) : ∀ p ∈ cs, p.1.val ≤ 1152921504606846976 := fun p hp => by
  have h1 : p.1.coin ∈ rounds B j := by rw [← hc]; exact List.mem_map_of_mem hp
  have h2 := sumF_mem (F := (·.1)) h1
  have h3 := rounds_sum addi_fst B j
  have h4 : (j + 1) * sumF (·.1) B ≤ 21 * 1099511627776 := Nat.mul_le_mul (by omega) hs
  have h5 : p.1.coin.1 = p.1.val := rfl
  have h2 : p.1.coin.1 ≤ sumF (·.1) (rounds B j) := h2
  omega
end Go.Proofs.Ytfegjdabjdahgaa
