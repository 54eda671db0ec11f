/- Coins in memory: trees of blocks; rows of pointers to them; the row of lengths; spend. -/
import Derived.Test.YtfegjdabjdahgaaStF
import Derived.Test.YtfegjdabjdahgaaLmP
import Derived.Test.YtfegjdabjdahgaaMakG
namespace Go.Proofs.Ytfegjdabjdahgaa
open Go.RowKit
set_option linter.unusedVariables false
set_option linter.unusedSimpArgs false

inductive CoinT where
  | leaf (v s : Nat)
  | node (v : Nat) (a b : CoinT)
namespace CoinT
def val : CoinT → Nat
  | leaf v _ => v
  | node v _ _ => v
def syms : CoinT → List Nat
  | leaf _ s => [s]
  | node _ a b => a.syms ++ b.syms
/-- What it is in the plain. -/
def coin (t : CoinT) : Coin := (t.val, t.syms)
end CoinT
/-- A block of a coin. -/
def coinBlk (v s : Nat) (a b : Option Addr) : Obj := .cells #[.int .i64 v, .int .i64 s, .pointer a, .pointer b] 39 (0, 0)
def CoinAt (w : World) : CoinT → Nat → Prop
  | .leaf v s, g => w.heap[g]? = some (coinBlk v s none none)
  | .node v a b, g => ∃ ga gb, w.heap[g]? = some (coinBlk v 0 (some ⟨ga, 0, none⟩) (some ⟨gb, 0, none⟩)) ∧ CoinAt w a ga ∧ CoinAt w b gb
/-- No coin's block. -/
def NoCoin (w : World) (S : Nat → Prop) : Prop := ∀ x, S x → ∀ c f, w.heap[x]? ≠ some (.cells c 39 f)
theorem noCoin_row {w : World} {B e size n : Nat} {v : Value} {xs : List Value} (h : w.ownsRow B e size v n xs) (he : e ≠ 39) : NoCoin w (fun k => v.ownBlock = some k) := fun x hx c f hh => by
  rcases h.2 with ⟨rfl, _⟩ | ⟨g', cap, cur, rfl, _, hg, _⟩
  · simp [Value.ownBlock] at hx
  · have e' : g' = x := by simpa [Value.ownBlock] using hx
    subst e'
    rw [hg] at hh
    injection hh with hh
    injection hh with _ ht
    exact he ht
theorem noCoin_none (w : World) : NoCoin w (fun _ => False) := fun _ h => h.elim
namespace CoinAt
variable {w w' : World}
theorem keep {S : Nat → Prop} (k : Keeps S w w') (hS : NoCoin w S) : ∀ {t : CoinT} {g : Nat}, CoinAt w t g → CoinAt w' t g
  | .leaf v s, g, h => block_keep (show w.heap[g]? = some (coinBlk v s none none) from h) k (fun hs => hS g hs _ _ h)
  | .node v a b, g, h => by
    obtain ⟨ga, gb, h1, h2, h3⟩ := h
    exact ⟨ga, gb, block_keep h1 k (fun hs => hS g hs _ _ h1), keep k hS h2, keep k hS h3⟩
theorem grow (k : Grow w w') {t : CoinT} {g : Nat} (h : CoinAt w t g) : CoinAt w' t g := h.keep k (noCoin_none w)
theorem blk {t : CoinT} {g : Nat} (h : CoinAt w t g) : ∃ s a b, w.heap[g]? = some (coinBlk t.val s a b) := by
  cases t with
  | leaf v s => exact ⟨s, none, none, h⟩
  | node v a b => obtain ⟨ga, gb, h1, _⟩ := h; exact ⟨0, _, _, h1⟩
theorem lt {t : CoinT} {g : Nat} (h : CoinAt w t g) : g < w.heap.size := by
  obtain ⟨s, a, b, h⟩ := h.blk
  exact blk_lt h
theorem worth {t : CoinT} {g : Nat} (h : CoinAt w t g) : w.cell? ⟨g, 0, none⟩ = some (.int .i64 (t.val : Nat)) := by
  obtain ⟨s, a, b, h⟩ := h.blk
  rw [blk_cell h]; rfl
end CoinAt
/-- A coin and its block. -/
abbrev PC := CoinT × Nat
def ptrOf (p : PC) : Value := .pointer (some ⟨p.2, 0, none⟩)
def keyOf (p : PC) : Nat := p.1.val
def Coins (w : World) (ps : List PC) : Prop := ∀ p ∈ ps, CoinAt w p.1 p.2
theorem Coins.keep {w w' : World} {ps : List PC} {S : Nat → Prop} (h : Coins w ps) (k : Keeps S w w') (hS : NoCoin w S) : Coins w' ps := fun p hp => (h p hp).keep k hS
theorem Coins.grow {w w' : World} {ps : List PC} (h : Coins w ps) (k : Grow w w') : Coins w' ps := fun p hp => (h p hp).grow k
/-- A slice of pointers to coins that can be read. -/
structure Ptrs (w : World) (A : Option Addr) (n c : Nat) (ps : List PC) : Prop where
  len : ps.length = n
  cap : n ≤ c
  nil : A = none → c = 0
  at_ : 0 < n → ∃ b o, A = some ⟨b, o, none⟩ ∧ ∀ j p, ps[j]? = some p → w.cell? ⟨b, o + j, none⟩ = some (ptrOf p)
  coins : Coins w ps
namespace Ptrs
variable {w w' : World} {A : Option Addr} {n c : Nat} {ps : List PC}
theorem keep {S : Nat → Prop} (h : Ptrs w A n c ps) (k : Keeps S w w') (hS : ∀ b o, A = some ⟨b, o, none⟩ → ¬ S b) (hC : NoCoin w S) : Ptrs w' A n c ps := by
  refine ⟨h.len, h.cap, h.nil, fun hn => ?_, h.coins.keep k hC⟩
  obtain ⟨b, o, e, hc⟩ := h.at_ hn
  exact ⟨b, o, e, fun j p hj => ckp (hc j p hj) k (hS b o e)⟩
theorem grow (h : Ptrs w A n c ps) (k : Grow w w') : Ptrs w' A n c ps := h.keep k (fun _ _ _ h => h) (noCoin_none w)
theorem of_own {B : Nat} (h : w.ownsRow B 37 1 (.slice A n c) n (ps.map ptrOf)) (hc : Coins w ps) : Ptrs w A n c ps := by
  have hl : ps.length = n := by have := h.1; simpa using this
  rcases h.2 with ⟨hv, h0⟩ | ⟨g, cap, cur, hv, _, hh, hnc, hcm, hcs, htk⟩
  · injection hv with hv h1 h2
    exact ⟨hl, by omega, fun _ => h2, fun h => by omega, hc⟩
  · injection hv with hv h1 h2
    subst hv
    subst h2
    refine ⟨hl, hnc, fun e => by (cases e), fun _ => ⟨g, 0, rfl, fun j p hj => ?_⟩, hc⟩
    have hjn : j < n := by rw [← hl]; exact (List.getElem?_eq_some_iff.1 hj).1
    rw [Nat.zero_add, blk_cell hh]
    have e1 : (cur.toList.take (n * 1))[j]? = (ps.map ptrOf)[j]? := by rw [htk]
    rw [List.getElem?_take, if_pos (by omega), List.getElem?_map, hj] at e1
    simpa using e1
theorem src (h : Ptrs w A n c ps) : Src w 1 A n c (ps.map ptrOf) := by
  refine ⟨by rw [List.length_map, h.len, Nat.mul_one], fun e => ?_, fun ad e j u hj => ?_, fun u hu => by obtain ⟨y, _, rfl⟩ := List.mem_map.1 hu; rfl⟩
  · have := h.nil e; have := h.cap; omega
  · rw [List.getElem?_map] at hj
    cases hy : ps[j]? with
    | none => rw [hy] at hj; cases hj
    | some y =>
      rw [hy] at hj
      injection hj with hj
      subst hj
      have hlt : j < n := by rw [← h.len]; exact (List.getElem?_eq_some_iff.1 hy).1
      obtain ⟨b, o, e2, hc⟩ := h.at_ (by omega)
      rw [e2] at e
      injection e with e
      subst e
      rw [Addr.add_mid, hc j y hy]
theorem take (h : Ptrs w A n c ps) (m : Nat) (hm : m ≤ n) : Ptrs w A m c (ps.take m) := by
  refine ⟨by rw [List.length_take, h.len]; omega, Nat.le_trans hm h.cap, h.nil, fun hm0 => ?_, fun p hp => h.coins p (List.mem_of_mem_take hp)⟩
  obtain ⟨b, o, e, hc⟩ := h.at_ (by omega)
  refine ⟨b, o, e, fun j p hj => hc j p ?_⟩
  rw [List.getElem?_take] at hj
  split at hj
  · exact hj
  · cases hj
theorem drop (h : Ptrs w A n c ps) (m : Nat) (hm : m ≤ n) : Ptrs w (Nums.off A c m) (n - m) (c - m) (ps.drop m) := by
  have hcap := h.cap
  refine ⟨by rw [List.length_drop, h.len], by omega, fun e => ?_, fun hm0 => ?_, fun p hp => h.coins p (List.mem_of_mem_drop hp)⟩
  · unfold Nums.off at e
    split at e
    · omega
    · cases A with
      | none => have := h.nil rfl; omega
      | some a => cases e
  · obtain ⟨b, o, e, hc⟩ := h.at_ (by omega)
    refine ⟨b, o + m, ?_, fun j p hj => ?_⟩
    · unfold Nums.off
      rw [if_neg (by omega), e]
      exact congrArg some (Addr.add_mid b o m)
    · rw [Nat.add_assoc]
      rw [List.getElem?_drop] at hj
      exact hc (m + j) p hj
end Ptrs
/-! ### The row of lengths -/
def LenRow (w : World) (go n : Nat) (xs : List Int) : Prop := ∃ cur, w.heap[go]? = some (.cells cur 3 (0, 0)) ∧ cur.size = n ∧ xs.length = n ∧ n ≤ 1048576 ∧ ∀ j, j < n → cur[j]? = some (.int .i64 (xs.getD j 0))
namespace LenRow
variable {w w' : World} {go n : Nat} {xs : List Int}
theorem cell (h : LenRow w go n xs) {j : Nat} (hj : j < n) : w.cell? ⟨go, j, none⟩ = some (.int .i64 (xs.getD j 0)) := by
  obtain ⟨cur, hh, _, _, _, hc⟩ := h
  rw [blk_cell hh]; exact hc j hj
theorem frz (h : LenRow w go n xs) (j : Nat) : w.frozen? ⟨go, j, none⟩ = false := by
  obtain ⟨cur, hh, _⟩ := h
  exact blk_frozen hh j
theorem lt (h : LenRow w go n xs) : go < w.heap.size := by
  obtain ⟨cur, hh, _⟩ := h
  exact blk_lt hh
theorem noCoin (h : LenRow w go n xs) : NoCoin w (fun k => k = go) := fun x hx c f hh => by
  obtain ⟨cur, h1, _⟩ := h
  subst hx
  rw [h1] at hh
  injection hh with hh
  injection hh with _ ht
  exact absurd ht (by decide)
theorem no_ptr (h : LenRow w go n xs) (j : Nat) (p : Option Addr) : w.cell? ⟨go, j, none⟩ ≠ some (.pointer p) := fun e => by
  obtain ⟨cur, hh, h1, _, _, hc⟩ := h
  rw [blk_cell hh] at e
  by_cases hj : j < n
  · rw [hc j hj] at e; cases e
  · rw [Array.getElem?_eq_none (by omega)] at e; cases e
theorem keep {S : Nat → Prop} (h : LenRow w go n xs) (k : Keeps S w w') (hg : ¬ S go) : LenRow w' go n xs := by
  obtain ⟨cur, hh, r⟩ := h
  exact ⟨cur, block_keep hh k hg, r⟩
theorem set (h : LenRow w go n xs) {j : Nat} (hj : j < n) (y : Int) : LenRow (w.setCell ⟨go, j, none⟩ (.int .i64 y)) go n (xs.set j y) := by
  obtain ⟨cur, hh, h1, h2, h3, hc⟩ := h
  refine ⟨_, blk_set hh j _, by simpa using h1, by simpa using h2, h3, fun k hk => ?_⟩
  by_cases e : k = j
  · subst e
    rw [Array.getElem?_setIfInBounds_self_of_lt (by omega)]
    simp [List.getD_eq_getElem?_getD, show k < xs.length by omega]
  · rw [Array.getElem?_setIfInBounds_ne (by omega), hc k hk]
    simp [List.getD_eq_getElem?_getD, List.getElem?_set, show ¬ j = k from fun h => e h.symm]
theorem own (h : LenRow w go n xs) {B : Nat} (hB : B ≤ go) : w.ownsRow B 3 1 (.slice (some ⟨go, 0, none⟩) n n) n (xs.map (Value.int .i64)) := by
  obtain ⟨cur, hh, h1, h2, h3, hc⟩ := h
  refine ⟨by simpa using h2, .inr ⟨go, n, cur, rfl, hB, hh, Nat.le_refl _, by unfold maxLen; omega, by omega, ?_⟩⟩
  apply List.ext_getElem?
  intro j
  rw [List.getElem?_take, List.getElem?_map]
  by_cases hj : j < n
  · rw [if_pos (by omega), Array.getElem?_toList, hc j hj, List.getD_eq_getElem?_getD, List.getElem?_eq_getElem (l := xs) (by omega)]
    rfl
  · rw [if_neg (by omega), List.getElem?_eq_none (l := xs) (by omega)]
    rfl
theorem of_own {B : Nat} (h : w.ownsRow B 3 1 (.slice (some ⟨go, 0, none⟩) n n) n (xs.map (Value.int .i64))) (hn : n ≤ 1048576) : LenRow w go n xs := by
  have hl : xs.length = n := by have := h.1; simpa using this
  rcases h.2 with ⟨hv, h0⟩ | ⟨g, cap, cur, hv, _, hh, hnc, hcm, hcs, htk⟩
  · injection hv with hv; cases hv
  · injection hv with hv h1 h2
    injection hv with hv
    injection hv with hv _ _
    subst hv
    subst h2
    refine ⟨cur, hh, by omega, hl, hn, fun j hj => ?_⟩
    have e1 : (cur.toList.take (n * 1))[j]? = (xs.map (Value.int .i64))[j]? := by rw [htk]
    rw [List.getElem?_take, if_pos (by omega), List.getElem?_map, List.getElem?_eq_getElem (l := xs) (by omega)] at e1
    rw [List.getD_eq_getElem?_getD, List.getElem?_eq_getElem (l := xs) (by omega)]
    simpa using e1
end LenRow
def bumpL (xs : List Int) (ss : List Nat) : List Int := ss.foldl (fun xs s => xs.set s (xs.getD s 0 + 1)) xs
theorem bumpL_append (xs : List Int) (a b : List Nat) : bumpL xs (a ++ b) = bumpL (bumpL xs a) b := by unfold bumpL; rw [List.foldl_append]
theorem bumpL_len : ∀ (ss : List Nat) (xs : List Int), (bumpL xs ss).length = xs.length
  | [], xs => rfl
  | s :: ss, xs => by
    show (bumpL (xs.set s (xs.getD s 0 + 1)) ss).length = _
    rw [bumpL_len ss]; simp
theorem bumpL_get : ∀ (ss : List Nat) (xs : List Int) (j : Nat), j < xs.length → (bumpL xs ss).getD j 0 = xs.getD j 0 + (ss.count j : Nat)
  | [], xs, j, _ => by simp [bumpL]
  | s :: ss, xs, j, hj => by
    show (bumpL (xs.set s (xs.getD s 0 + 1)) ss).getD j 0 = _
    rw [bumpL_get ss _ j (by simpa using hj), List.count_cons]
    by_cases e : s = j
    · subst e
      simp only [List.getD_eq_getElem?_getD, List.getElem?_set_self hj, BEq.rfl, if_true]
      simp only [Option.getD_some]
      omega
    · simp only [List.getD_eq_getElem?_getD, List.getElem?_set_ne e]
      rw [if_neg (by simpa using e)]
      omega
/-- All of it may still grow by so much. -/
def Room (xs : List Int) (k : Nat) : Prop := ∀ j, 0 ≤ xs.getD j 0 ∧ xs.getD j 0 + k ≤ 1152921504606846976
theorem Room.bump {xs : List Int} {ss : List Nat} {k : Nat} (h : Room xs (ss.length + k)) : Room (bumpL xs ss) k := fun j => by
  have h1 := h j
  by_cases hj : j < xs.length
  · rw [bumpL_get ss xs j hj]
    have := List.count_le_length (a := j) (l := ss)
    omega
  · rw [List.getD_eq_getElem?_getD, List.getElem?_eq_none (by rw [bumpL_len]; omega)]
    simp; omega
set_option maxRecDepth 4000 in
set_option maxHeartbeats 2000000 in
theorem spend_is : ∀ (t : CoinT) (w : World) (g go n : Nat) (xs : List Int), CoinAt w t g → LenRow w go n xs → (∀ s ∈ t.syms, s < n) → Room xs t.syms.length →
    Calls Try.prog 18 #[.pointer (some ⟨g, 0, none⟩), .slice (some ⟨go, 0, none⟩) n n] w fun e w' => e = .returned (.tuple #[]) ∧ LenRow w' go n (bumpL xs t.syms) ∧ Keeps (fun k => k = go) w w' := by
  intro t
  induction t with
  | leaf v s =>
    intro w g go n xs hc hr hs hroom
    have hsn : s < n := hs s (by simp [CoinT.syms])
    have hsi : (s : Int) < (n : Int) := by omega
    have c1 : w.cell? ⟨g, 1, none⟩ = some (.int .i64 (s : Nat)) := by rw [blk_cell (show w.heap[g]? = some (coinBlk v s none none) from hc)]; rfl
    have c2 : w.cell? ⟨g, 2, none⟩ = some (.pointer none) := by rw [blk_cell (show w.heap[g]? = some (coinBlk v s none none) from hc)]; rfl
    have cl := hr.cell hsn
    have fl := hr.frz s
    have hx := hroom s
    have HS := Lib.hid (hr.set hsn (xs.getD s 0 + 1))
    have HK := Lib.hid (Keeps.setCell (S := fun k => k = go) (Keeps.refl _ w) (p := ⟨go, s, none⟩) (fun _ => rfl) (.int .i64 (xs.getD s 0 + 1)))
    have HE : Hid (bumpL xs (CoinT.leaf v s).syms = xs.set s (xs.getD s 0 + 1)) := rfl
    generalize xs.getD s 0 = x at *
    have hx0 : 0 ≤ x := hx.1
    have hx1 : x ≤ 1152921504606846976 := by have := hx.2; omega
    clear hc hr hs hroom hx
    go_enter Try.func18, Try.ntmps18
    go_wp2_with fail
    refine bodyPost_ret (results_none rfl _ _ _) rfl ⟨rfl, ?_, HK.out⟩
    rw [HE.out]; exact HS.out
  | node v a b iha ihb =>
    intro w g go n xs hc hr hs hroom
    obtain ⟨ga, gb, hb, hca, hcb⟩ := hc
    have c2 : w.cell? ⟨g, 2, none⟩ = some (.pointer (some ⟨ga, 0, none⟩)) := by rw [blk_cell hb]; rfl
    have hr1 : Room xs (a.syms.length + b.syms.length) := by
      have h9 := hroom
      rw [CoinT.syms, List.length_append] at h9
      exact h9
    have HA := Lib.hid (iha w ga go n xs hca hr (fun s h => hs s (by simp [CoinT.syms, h])) (fun j => by have := hr1 j; omega))
    have HB := Lib.hid (fun w1 (k : Keeps (fun k => k = go) w w1) (r : LenRow w1 go n (bumpL xs a.syms)) => ihb w1 gb go n _ (hcb.keep k hr.noCoin) r (fun s h => hs s (by simp [CoinT.syms, h])) (hr1.bump))
    have HG : Hid (∀ w1, Keeps (fun k => k = go) w w1 → w1.cell? ⟨g, 3, none⟩ = some (.pointer (some ⟨gb, 0, none⟩))) := fun w1 k => by
      have h9 := block_keep hb k (fun e => hr.noCoin g e _ _ hb)
      rw [blk_cell h9]; rfl
    have HE : Hid (bumpL xs (CoinT.node v a b).syms = bumpL (bumpL xs a.syms) b.syms) := bumpL_append _ _ _
    clear iha ihb hca hcb hr hs hroom hr1 hb
    go_enter Try.func18, Try.ntmps18
    go_wp2_with fail
    refine HA.out.mono ?_
    rintro e w1 ⟨rfl, h1, k1⟩
    have c3 := HG.out w1 k1
    have HB1 := Lib.hid (HB.out w1 k1 h1)
    have HK1 := Lib.hid k1
    clear h1 k1 HA HB HG
    go_wp2_with fail
    refine HB1.out.mono ?_
    rintro e w2 ⟨rfl, h2, k2⟩
    go_wp2_with fail
    go_end0
    refine ⟨rfl, ?_, Keeps.trans HK1.out k2 fun _ _ h => h⟩
    rw [HE.out]; exact h2
theorem key_is (w : World) (t : CoinT) (g : Nat) (h : CoinAt w t g) : Calls Try.prog 15 #[.pointer (some ⟨g, 0, none⟩)] w fun e w' => e = .returned (.int .i64 (t.val : Nat)) ∧ w' = w := by
  have hw := h.worth
  clear h
  go_enter Try.func15, Try.ntmps15
  go_wp2_with fail
  go_ret
  exact ⟨rfl, rfl⟩
end Go.Proofs.Ytfegjdabjdahgaa
