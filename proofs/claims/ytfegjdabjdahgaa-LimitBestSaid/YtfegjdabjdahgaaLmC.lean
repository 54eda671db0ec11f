/- slices.Chunk at pointers: the iterator's contract; limit.packed. -/
import Derived.Test.YtfegjdabjdahgaaLmB
import Derived.Test.YtfegjdabjdahgaaHavIn
import Derived.RangeFuncBox
import Derived.RangeFuncNested
import Derived.RangeFuncLeaves
import Derived.Shelf.Abstract
import Derived.OwnWalkIn
import Derived.TacticsInMore
import Derived.LoopNIn
import Derived.LoopIn
import Derived.Maps.AppendAt
import Derived.Sort.QuietIn
namespace Go.Proofs.Ytfegjdabjdahgaa
open Go.RowKit Go.Shelf
set_option linter.unusedVariables false
set_option linter.unusedSimpArgs false
attribute [local go_sem] Oper.semAt_some

/-- Two boxes hold what they held. -/
def K2 (g1 g2 : Nat) (W W' : World) : Prop := W'.cell? ⟨g1, 0, none⟩ = W.cell? ⟨g1, 0, none⟩ ∧ W'.cell? ⟨g2, 0, none⟩ = W.cell? ⟨g2, 0, none⟩
theorem run_full {P : Program} {t e : TypeId} {i : TypeInfo} (h1 : P.underlying t = some (.slice e)) (hi : P.info? e = some i) (hs : i.size = 1) (A : Option Addr) (l c m n k : Nat) (hm : m ≤ n) (hn : n ≤ k) (hk : k ≤ c) (w : World) :
    (Instr.slice t (.slice A l c) (some (.int .i64 m)) (some (.int .i64 n)) (some (.int .i64 k))).run P w = .ok (.slice (Nums.off A k m) (n - m) (k - m)) w := by
  have h0 : (0 : Int) ≤ m := by omega
  have h0' : (0 : Int) ≤ n := by omega
  have h0'' : (0 : Int) ≤ k := by omega
  have h2 : (m : Int) ≤ n := by omega
  have h2' : (n : Int) ≤ k := by omega
  have h2'' : (k : Int) ≤ c := by omega
  have h3 : ¬ n < m := by omega
  have h4 : ¬ k < n := by omega
  have h5 : ¬ c < k := by omega
  simp [Instr.slice, run_underlying h1, Instr.sliceBounds, Instr.sliceBound, asIntOf, h0, h0', h0'', h2, h2', h2'', h3, h4, h5, hm, hn, hk, sizeOf, typeInfo, hi, hs, Nums.off]
theorem run_from {P : Program} {t e : TypeId} {i : TypeInfo} (h1 : P.underlying t = some (.slice e)) (hi : P.info? e = some i) (hs : i.size = 1) (A : Option Addr) (l c m : Nat) (hm : m ≤ l) (hn : l ≤ c) (w : World) :
    (Instr.slice t (.slice A l c) (some (.int .i64 m)) none none).run P w = .ok (.slice (Nums.off A c m) (l - m) (c - m)) w := by
  have h0 : (0 : Int) ≤ m := by omega
  have h2 : (m : Int) ≤ c := by omega
  have h2' : (m : Int) ≤ l := by omega
  have h3 : ¬ l < m := by omega
  have h4 : ¬ c < l := by omega
  simp [Instr.slice, run_underlying h1, Instr.sliceBounds, Instr.sliceBound, asIntOf, h0, h2, h2', h3, h4, hm, hn, sizeOf, typeInfo, hi, hs, Nums.off]
/-- The k-th chunk of a row of n bytes. -/
def chkV (b o n sz k : Nat) : Value := .slice (some ⟨b, o + k * sz, none⟩) (min sz (n - k * sz)) (min sz (n - k * sz))
def chkN (n sz : Nat) : Nat := (n + sz - 1) / sz
theorem chkN_lt {n sz k : Nat} (h : 0 < sz) : k * sz < n ↔ k < chkN n sz := by
  unfold chkN
  rw [Nat.lt_div_iff_mul_lt h]
  constructor <;> intro <;> omega
set_option maxRecDepth 4000 in
theorem chunk_is (w : World) (A : Option Addr) (n c sz : Nat) (hsz : 1 ≤ sz) :
    Calls Try.prog 25 #[.slice A n c, .int .i64 (sz : Nat)] w fun e w' => e = .returned (.func (.func 29) #[] #[.pointer (some ⟨w.heap.size, 0, none⟩), .pointer (some ⟨w.heap.size + 1, 0, none⟩)]) ∧ w' = (w.alloc (.cells #[.slice A n c] 36)).alloc (.cells #[.int .i64 (sz : Nat)] 3) := by
  have h1 : (1 : Int) ≤ (sz : Int) := by omega
  go_enter Try.func25, Try.ntmps25
  go_wp2_with fail
  go_ret
  exact ⟨rfl, rfl⟩
set_option maxRecDepth 100000 in
set_option maxHeartbeats 1000000 in
theorem chunk1_in (N : Nat) (hn : 1 ≤ N) (l g1 g2 n₀ : Nat) (A : Option Addr) (n c sz b o : Nat) (hA : 0 < n → A = some ⟨b, o, none⟩) (hc : n ≤ c) (hnb : n ≤ 1048576) (hsz : 1 ≤ sz) (hszb : sz ≤ 1073741824) (hg1 : g1 < n₀) (hg2 : g2 < n₀) (J Jx : List Nat → World → Prop) (hJd : ∀ s W m, J s W → J s (W.drewN m))
    (hY : ∀ pre x W, J pre W → pre.length < chkN n sz → YieldAt Fence.wide (N - 1) Try.prog l #[chkV b o n sz x] W fun e W' =>
      (e = .returned (.bool true) ∧ J (pre ++ [x]) W' ∧ K2 g1 g2 W W') ∨ (e = .returned (.bool false) ∧ Jx (pre ++ [x]) W'))
    (W : World) (hb1 : W.cell? ⟨g1, 0, none⟩ = some (.slice A n c)) (hb2 : W.cell? ⟨g2, 0, none⟩ = some (.int .i64 (sz : Nat))) (h0 : J [] W) :
    CallsIn Fence.wide N Try.prog 29 #[.func (.yield l) #[] #[], .pointer (some ⟨g1, 0, none⟩), .pointer (some ⟨g2, 0, none⟩)] W fun e W' => (∃ v, e = .returned v) ∧
      ((∃ ys, ys = List.range (chkN n sz) ∧ J ys W') ∨ (∃ pre, pre <+: List.range (chkN n sz) ∧ Jx pre W')) := by
  refine callsIn_of_wp Try.func29 rfl trivial ?_ rfl
  simp only [Try.ntmps29, List.size_toArray, List.length_cons, List.length_nil, Nat.reduceAdd, Nat.reduceSub, Array.replicate_succ, Array.replicate_zero, List.push_toArray, List.append_toArray, List.nil_append, List.cons_append]
  gi_wp2
  gi_loopw [4, 5] (fun vi _ wr => ∃ (k : Nat), k ≤ chkN n sz ∧ vi = .int .i64 ((k * sz : Nat) : Int) ∧ wr.cell? ⟨g1, 0, none⟩ = some (.slice A n c) ∧ wr.cell? ⟨g2, 0, none⟩ = some (.int .i64 (sz : Nat)) ∧ J (List.range k) wr) (fun vi _ _ => n - (intOf vi).toNat)
  case atStart => exact ⟨0, Nat.zero_le _, by simp, hb1, hb2, h0⟩
  case round =>
    obtain ⟨k, hk, rfl, hc1, hc2, hJs⟩ := hrel
    by_cases hp : k * sz < n
    · have hkl := (chkN_lt (n := n) (k := k) (by omega : 0 < sz)).1 hp
      obtain rfl := hA (by omega)
      obtain ⟨p, hpe⟩ : ∃ p, p = k * sz := ⟨_, rfl⟩
      obtain ⟨d, hd⟩ : ∃ d, d = n - p := ⟨_, rfl⟩
      obtain ⟨m, hm⟩ : ∃ m, m = min sz d := ⟨_, rfl⟩
      obtain ⟨q, hq⟩ : ∃ q, q = p + m := ⟨_, rfl⟩
      have hval : chkV b o n sz k = .slice (some ⟨b, o + p, none⟩) (q - p) (q - p) := by unfold chkV; rw [← hpe, ← hd, ← hm, show q - p = m by omega]
      have hsl1 : ∀ w : World, (Instr.slice 36 (.slice (some ⟨b, o, none⟩) n c) (some (.int .i64 (p : Nat))) none none).run Try.prog w = .ok (.slice (Nums.off (some ⟨b, o, none⟩) c p) d (c - p)) w := fun w => by
        have h9 := run_from Try.underlying36 (P := Try.prog) rfl rfl (some ⟨b, o, none⟩) n c p (by omega) hc w
        rw [h9, hd]
      have HYk := Lib.hid (fun W h => hY (List.range k) k W h (by rw [List.length_range]; exact hkl))
      rw [hval] at HYk
      have HJd := Lib.hid hJd
      have HJs := Lib.hid hJs
      rw [← hpe]
      have hpn : (p : Int) < (n : Int) := by omega
      have hqi : (p : Int) + (m : Int) = (q : Int) := by omega
      have hqb : (q : Int) ≤ 1048576 := by omega
      have hpq : p ≤ q := by omega
      have hqc : q ≤ c := by omega
      have hpp1 : ¬ q = p := by omega
      have hpp2 : ¬ p = q := by omega
      have hpp3 : (q == p) = false := by simp; omega
      have hpp4 : (p == q) = false := by simp; omega
      have hpq3 : ¬ q < p := by omega
      have hqc3 : ¬ c < q := by omega
      have hmin : (if d < sz then (d : Int) else (sz : Int)) = (m : Int) := by split <;> omega
      have HMIN := Lib.hid hmin
      have HP := Lib.hid (And.intro hpe (And.intro hd (And.intro hm (And.intro hq hkl))))
      have HY := Lib.hid hY
      have HSZ := Lib.hid (And.intro hsz (And.intro hszb (And.intro hnb (And.intro hc (And.intro hg1 (And.intro hg2 hk))))))
      clear hmin hm hpe hd hq hp hkl hval hA hY hJd hJs hszb hsz hnb hc hg1 hg2 hk hb1 hb2
      gi_wp2
      gi_quiet (fail)
      rw [HMIN.out]
      obtain ⟨fn, tmps, assign, body, hy, hR⟩ := HYk.out (wr.drewN nq) (HJd.out _ _ _ HJs.out)
      have HR := Lib.hid hR
      clear hR
      gi_wp2
      refine HR.out.mono ?_
      rintro e W3 (⟨rfl, hJ3, hk3⟩ | ⟨rfl, hJx3⟩)
      · have hc1' : W3.cell? ⟨g1, 0, none⟩ = some (.slice (some ⟨b, o, none⟩) n c) := hk3.1.trans hc1
        have hc2' : W3.cell? ⟨g2, 0, none⟩ = some (.int .i64 (sz : Nat)) := hk3.2.trans hc2
        have hszi : (sz : Int) ≤ 1073741824 := by have := HSZ.out; omega
        have hsz1 : (1 : Int) ≤ (sz : Int) := by have := HSZ.out; omega
        have hpi : (p : Int) ≤ 1048576 := by have := HSZ.out; omega
        have HJ3 := Lib.hid hJ3
        clear hJ3 hk3 hy HR
        gi_wp2
        go_roundw
        case rel => exact ⟨k + 1, HP.out.2.2.2.2, by rw [HP.out.1, Nat.succ_mul]; go_num, hc1', hc2', by rw [List.range_succ]; exact HJ3.out⟩
        case measure => simp [intOf]; omega
      · gi_wp2
        refine bodyPost_ret (results_none rfl _ _ _) rfl ?_
        exact ⟨⟨_, rfl⟩, .inr ⟨List.range k ++ [k], by
          rw [← List.range_succ]
          exact List.prefix_iff_eq_take.2 (by rw [List.length_range, List.take_range, Nat.min_eq_left HP.out.2.2.2.2]), hJx3⟩⟩
    · obtain rfl : k = chkN n sz := by
        have h9 : ¬ k < chkN n sz := fun h => hp ((chkN_lt (by omega)).2 h)
        omega
      have hpi : ¬ ((chkN n sz * sz : Nat) : Int) < (n : Int) := by omega
      have hp9 : decide (((chkN n sz * sz : Nat) : Int) < (n : Int)) = false := decide_eq_false hpi
      obtain ⟨p, hpe⟩ : ∃ p, p = chkN n sz * sz := ⟨_, rfl⟩
      rw [← hpe] at hpi hp9 hp ⊢
      have HJ3 := Lib.hid hJs
      clear hpe hJs hY hA
      gi_wp2
      go_end0
      exact ⟨⟨_, rfl⟩, .inl HJ3.out⟩
theorem chunk_stops (N : Nat) (hn : 1 ≤ N) (g1 g2 n₀ : Nat) (A : Option Addr) (n c sz b o : Nat) (hA : 0 < n → A = some ⟨b, o, none⟩) (hc : n ≤ c) (hnb : n ≤ 1048576) (hsz : 1 ≤ sz) (hszb : sz ≤ 1073741824) (hg1 : g1 < n₀) (hg2 : g2 < n₀) (w : World) (hn₀ : n₀ ≤ w.heap.size) (hb1 : w.cell? ⟨g1, 0, none⟩ = some (.slice A n c)) (hb2 : w.cell? ⟨g2, 0, none⟩ = some (.int .i64 (sz : Nat))) :
    SeqStopsK Fence.wide N Try.prog 29 #[.pointer (some ⟨g1, 0, none⟩), .pointer (some ⟨g2, 0, none⟩)] (fun k : Nat => #[chkV b o n sz k]) (K2 g1 g2) (fun ys => ys = List.range (chkN n sz)) (fun pre => pre <+: List.range (chkN n sz)) (chkN n sz) w := fun l J Jx W hW hJ _ hY h0 =>
  chunk1_in N hn l g1 g2 n₀ A n c sz b o hA hc hnb hsz hszb hg1 hg2 J Jx (fun s W m hs => hJ s W (W.drewN m) none hs ⟨rfl, rfl, rfl, Nat.le_refl _, fun _ _ _ => rfl⟩ (fun r e => by cases e)) hY W ((hW.cell (p := ⟨g1, 0, none⟩) (by show g1 < _; omega)).trans hb1) ((hW.cell (p := ⟨g2, 0, none⟩) (by show g2 < _; omega)).trans hb2) h0
/-- The pair at k. -/
def treeK (ps : List PC) (k : Nat) : Option CoinT := match ps[2 * k]?, ps[2 * k + 1]? with
  | some p, some q => some (.node (p.1.val + q.1.val) p.1 q.1)
  | _, _ => none
def pairsT (ps : List PC) : List CoinT := (List.range (chkN ps.length 2)).filterMap (treeK ps)
theorem pairsT_coin : ∀ ps : List PC, (pairsT ps).map CoinT.coin = pairsP (ps.map (fun p => p.1.coin))
  | [] => by simp [pairsT, pairsP, chkN]
  | [p] => by
    have e : chkN [p].length 2 = 1 := by unfold chkN; simp
    unfold pairsT
    rw [e]
    simp [treeK, pairsP, List.range_succ]
  | p :: q :: r => by
    have ih := pairsT_coin r
    have e : chkN (p :: q :: r).length 2 = chkN r.length 2 + 1 := by unfold chkN; simp only [List.length_cons]; omega
    unfold pairsT at ih ⊢
    rw [e, List.range_succ_eq_map, List.filterMap_cons]
    have e0 : treeK (p :: q :: r) 0 = some (.node (p.1.val + q.1.val) p.1 q.1) := rfl
    rw [e0]
    simp only [List.map_cons, pairsP]
    rw [← ih]
    congr 1
    rw [List.filterMap_map]
    congr 1
theorem k2_trans {g1 g2 : Nat} {A B C : World} (h : K2 g1 g2 A B) (k : K2 g1 g2 B C) : K2 g1 g2 A C := ⟨k.1.trans h.1, k.2.trans h.2⟩
theorem k2_put {g1 g2 : Nat} {W : World} {l : Nat} {o' : Obj} (h1 : g1 < l) (h2 : g2 < l) : K2 g1 g2 W (W.putObj l o') :=
  ⟨World.cell?_of_block (World.putObj_heap_other (by show g1 ≠ l; omega)), World.cell?_of_block (World.putObj_heap_other (by show g2 ≠ l; omega))⟩
/-- What the variable holds. -/
structure Pk (w : World) (gb B : Nat) (ps : List PC) (pre : List Nat) (W : World) (v : Value) (qs : List PC) : Prop where
  box : Boxed W gb 36 v
  row : W.ownsRow B 37 1 v qs.length (qs.map ptrOf)
  coins : Coins W qs
  trees : qs.map (·.1) = pre.filterMap (treeK ps)
  grow : Grow w W
  size : B ≤ W.heap.size
  len : qs.length ≤ pre.length
theorem cells_not {W : World} {row : Option Nat} (h : ∀ r, row = some r → ∃ o : Obj, W.heap[r]? = some o ∧ o.isCells = false) {x : Nat} {c : Array Value} {e : TypeId} {f : Nat × Nat} (hx : W.heap[x]? = some (.cells c e f)) : ¬ row = some x := fun e => by
  obtain ⟨o, h1, h2⟩ := h x e
  rw [hx] at h1
  injection h1 with h1
  subst h1
  cases h2
theorem Pk.stay {w : World} {gb B : Nat} {ps : List PC} {pre : List Nat} {W W' : World} {v : Value} {qs : List PC} {row : Option Nat} (h : Pk w gb B ps pre W v qs) (hg : W.grownBy W' row) (hB : w.heap.size ≤ B) (hr : ∀ r, row = some r → B ≤ r ∧ ∃ o : Obj, W.heap[r]? = some o ∧ o.isCells = false) : Pk w gb B ps pre W' v qs := by
  have k : Keeps (fun k => row = some k) W W' := ⟨hg.os, hg.tape, hg.output, hg.size, fun k hk hn => hg.block k hk (fun e => hn e.symm)⟩
  have hn : ∀ r, row = some r → ∃ o : Obj, W.heap[r]? = some o ∧ o.isCells = false := fun r e => (hr r e).2
  refine ⟨block_keep h.box k (cells_not hn h.box), owns_keep h.row k fun i hi => ?_, h.coins.keep k fun x hx c f hc => cells_not hn hc hx, h.trees, Keeps.trans h.grow k fun i hi e => by have := (hr i e).1; omega, Nat.le_trans h.size hg.size, h.len⟩
  rcases h.row.2 with ⟨hv, _⟩ | ⟨g', cap, cur, hv, _, hh, _⟩
  · rw [hv] at hi; simp [Value.ownBlock] at hi
  · rw [hv] at hi
    have e : g' = i := by simpa [Value.ownBlock] using hi
    subst e
    exact cells_not hn hh
theorem hyO (v : Value) : Hv.Hyp2 (Keeps (fun k => v.ownBlock = some k)) Grow (fun _ _ _ => True) :=
  ⟨Keeps.refl _, fun _ _ _ h k => Keeps.trans h k fun _ _ h => h, fun _ _ _ _ _ _ => trivial, Keeps.refl _, fun _ _ _ h k => Keeps.trans h k fun _ _ h => h, fun _ _ h => h.mono fun _ _ h => h.elim⟩
set_option maxRecDepth 100000 in
set_option maxHeartbeats 4000000 in
theorem packed_in (N : Nat) (hn : 3 ≤ N) (w : World) (A : Option Addr) (n c : Nat) (ps : List PC) (h : Ptrs w A n c ps) (hnb : n ≤ 262144) (hv : ∀ p ∈ ps, p.1.val ≤ 1152921504606846976) :
    CallsIn Fence.wide N Try.prog 17 #[.slice A n c] w fun e W' => ∃ v qs, e = .returned v ∧ qs.map (·.1) = pairsT ps ∧ W'.ownsRow w.heap.size 37 1 v qs.length (qs.map ptrOf) ∧ Coins W' qs ∧ Grow w W' := by
  obtain ⟨b, o, hA⟩ : ∃ b o, 0 < n → A = some ⟨b, o, none⟩ := by
    by_cases h0 : 0 < n
    · obtain ⟨b, o, e, _⟩ := h.at_ h0
      exact ⟨b, o, fun _ => e⟩
    · exact ⟨0, 0, fun h => absurd h h0⟩
  have H := Lib.hid h
  have HV := Lib.hid hv
  have HAo := Lib.hid hA
  have hcap := h.cap
  clear h hv hA
  have h1 : 1 ≤ N := by omega
  refine callsIn_of_wp_marks Try.func17 rfl trivial ?_ rfl
  simp only [Try.ntmps17, List.size_toArray, List.length_cons, List.length_nil, Nat.reduceAdd, Nat.reduceSub, Array.replicate_succ, Array.replicate_zero, List.push_toArray, List.append_toArray, List.nil_append, List.cons_append]
  gi_wp2
  refine ⟨trivial, CallsIn.mono (callsIn_wide.2 (show Calls Try.prog 25 #[.slice A n c, .int .i64 2] _ _ from chunk_is _ A n c 2 (by omega))) ?_⟩
  rintro e _ ⟨rfl, rfl⟩
  obtain ⟨gb, hgb⟩ : ∃ gb, gb = w.heap.size := ⟨_, rfl⟩
  have hz1 : (w.alloc (.cells #[.slice none 0 0] 36)).heap.size = gb + 1 := by rw [hgb]; simp
  have bO := Boxed.new w 36 (.slice none 0 0)
  have k1 : Grow w (w.alloc (.cells #[.slice none 0 0] 36)) := (Keeps.refl _ w).alloc _
  rw [hz1]
  simp only [← hgb]
  rw [← hgb] at bO
  rw [show gb + 1 + 1 = gb + 2 from rfl]
  generalize w.alloc (.cells #[.slice none 0 0] 36) = w1 at *
  have e1 : ((w1.alloc (.cells #[.slice A n c] 36)).alloc (.cells #[.int .i64 ((2 : Nat) : Int)] 3)).cell? ⟨gb + 1, 0, none⟩ = some (.slice A n c) := by
    have h9 : (w1.alloc (.cells #[.slice A n c] 36)).heap[gb + 1]? = some (.cells #[.slice A n c] 36 (0, 0)) := by rw [← hz1]; exact heap_alloc_new w1 _
    rw [blk_cell (blk_alloc h9 _)]; rfl
  have e2 : ((w1.alloc (.cells #[.slice A n c] 36)).alloc (.cells #[.int .i64 ((2 : Nat) : Int)] 3)).cell? ⟨gb + 2, 0, none⟩ = some (.int .i64 ((2 : Nat) : Int)) := by
    have h9 : (w1.alloc (.cells #[.slice A n c] 36)).heap.size = gb + 2 := by simp [hz1]
    have h8 := heap_alloc_new (w1.alloc (.cells #[.slice A n c] 36)) (.cells #[.int .i64 ((2 : Nat) : Int)] 3)
    rw [h9] at h8
    rw [blk_cell h8]; rfl
  have k3 : Grow w ((w1.alloc (.cells #[.slice A n c] 36)).alloc (.cells #[.int .i64 ((2 : Nat) : Int)] 3)) := (k1.alloc _).alloc _
  have bO3 : Boxed ((w1.alloc (.cells #[.slice A n c] 36)).alloc (.cells #[.int .i64 ((2 : Nat) : Int)] 3)) gb 36 (.slice none 0 0) := (bO.alloc _).alloc _
  have hz3 : ((w1.alloc (.cells #[.slice A n c] 36)).alloc (.cells #[.int .i64 ((2 : Nat) : Int)] 3)).heap.size = gb + 3 := by simp [hz1]
  generalize (w1.alloc (.cells #[.slice A n c] 36)).alloc (.cells #[.int .i64 ((2 : Nat) : Int)] 3) = w3 at *
  have hwz : w.heap.size ≤ gb + 3 := by omega
  have HWZ := Lib.hid (And.intro hgb hwz)
  clear k1 bO hz1 hgb hwz
  gi_wp2
  refine wpIn_rangeFunc_ownG rfl h1 (gf := 29) (lb := #[.pointer (some ⟨gb + 1, 0, none⟩), .pointer (some ⟨gb + 2, 0, none⟩)]) rfl trivial (enters_of Try.func29 (by kernel_rfl) rfl)
    (chunk_stops (N - 1) (by omega) (gb + 1) (gb + 2) w3.heap.size A n c 2 b o HAo.out hcap (by omega) (by omega) (by omega) (by omega) (by omega) w3 (Nat.le_refl _) e1 e2) (fun h k => k2_trans h k) (fun W l o o' hl _ _ _ => k2_put (by omega) (by omega)) (Below.refl _ _) (fun _ => rfl)
    (fun pre W => ∃ v qs, Pk w gb (gb + 3) ps pre W v qs)
    (fun _ _ _ => False)
    (fun pre W W' row hs hg hr => by
      obtain ⟨v, qs, h⟩ := hs
      exact ⟨v, qs, h.stay hg HWZ.out.2 (fun r e => ⟨by have := (hr r e).1; omega, (hr r e).2⟩)⟩)
    (fun _ _ _ _ _ hs _ _ => hs)
    ⟨_, [], bO3, own_nil _ _ _, fun p hp => (by cases hp), rfl, k3, by omega, Nat.le_refl _⟩
    (fun x => { tmps := #[.slice A n c, undef, .slice none 0 0, .pointer (some ⟨gb, 0, none⟩), chkV b o n 2 x, .slice A n c, .func (.func 29) #[] #[.pointer (some ⟨gb + 1, 0, none⟩), .pointer (some ⟨gb + 2, 0, none⟩)], chkV b o n 2 x, undef, undef, undef, undef, undef, undef, undef, undef, undef, undef, undef, undef, undef, undef, undef, undef, undef, undef, undef, undef, undef, undef, undef, undef, undef, undef, undef, undef], defers := [] }) ?assign ?body ?done ?stop
  case assign =>
    intro l x W K hK
    gi_wp2
    exact hK
  case stop =>
    rintro D c pre W _ _ h _
    exact h.elim
  case done =>
    rintro D ys W hD rfl ⟨v, qs, hp⟩ hK
    have hc := hp.box.cell
    gi_wp2
    refine ⟨by simp, .inl ⟨_, _, rfl, run_takeDeferred hK, ?_⟩⟩
    have hp2 := hp.stay (grownBy_putObj' W D (.deferred none)) HWZ.out.2 (fun r e => by cases e; exact ⟨by omega, _, hK, rfl⟩)
    refine ⟨_, results_tmp rfl _ _ _, v, qs, rfl, ?_, owns_any_base hp2.row HWZ.out.2, hp2.coins, hp2.grow⟩
    rw [hp.trees]
    unfold pairsT
    rw [H.out.len]
  case body =>
    rintro l pre x W ⟨v, qs, hp⟩ hlt
    obtain ⟨L, hL⟩ : ∃ L, L = min 2 (n - x * 2) := ⟨_, rfl⟩
    obtain ⟨y, hy⟩ : ∃ y, y = o + x * 2 := ⟨_, rfl⟩
    have hVx : chkV b o n 2 x = .slice (some ⟨b, y, none⟩) L L := by unfold chkV; rw [← hL, hy]
    rw [hVx]
    clear hVx
    have HP := Lib.hid hp
    have hpl : pre.length ≤ 131072 := by unfold chkN at hlt; omega
    by_cases hL2 : L = 2
    · subst hL2
      have hx2 : 2 * x + 1 < n := by omega
      have hn0 : 0 < n := by omega
      obtain ⟨p, hpp⟩ : ∃ p, ps[2 * x]? = some p := ⟨_, List.getElem?_eq_getElem (by rw [H.out.len]; omega)⟩
      obtain ⟨q, hqq⟩ : ∃ q, ps[2 * x + 1]? = some q := ⟨_, List.getElem?_eq_getElem (by rw [H.out.len]; omega)⟩
      have HT : Hid (treeK ps x = some (.node (p.1.val + q.1.val) p.1 q.1)) := by
        show _ = _
        unfold treeK; rw [hpp, hqq]
      have HPW := Lib.hid (H.out.grow hp.grow)
      obtain ⟨b', o', eA, hcell⟩ := HPW.out.at_ hn0
      have eA2 := HAo.out hn0
      rw [eA] at eA2
      injection eA2 with eA2
      injection eA2 with eb eo
      subst eb eo
      have c0 : W.cell? ⟨b', y, none⟩ = some (.pointer (some ⟨p.2, 0, none⟩)) := by
        have h9 := hcell _ p hpp
        rw [hy, show o' + x * 2 = o' + 2 * x by omega]; exact h9
      have c1 : W.cell? ⟨b', y + 1, none⟩ = some (.pointer (some ⟨q.2, 0, none⟩)) := by
        have h9 := hcell _ q hqq
        rw [hy, show o' + x * 2 + 1 = o' + (2 * x + 1) by omega]; exact h9
      have hpm := List.mem_of_getElem? hpp
      have hqm := List.mem_of_getElem? hqq
      have HCP : Hid (CoinAt W p.1 p.2) := (H.out.coins p hpm).grow hp.grow
      have HCQ : Hid (CoinAt W q.1 q.2) := (H.out.coins q hqm).grow hp.grow
      have HGW : Hid (p.2 < w.heap.size ∧ q.2 < w.heap.size) := ⟨(H.out.coins p hpm).lt, (H.out.coins q hqm).lt⟩
      have hpv := HV.out p hpm
      have hqv := HV.out q hqm
      obtain ⟨tp, gp⟩ := p
      obtain ⟨tq, gq⟩ := q
      simp only at c0 c1 HCP HCQ hpv hqv HT HGW
      obtain ⟨vp, hvp⟩ : ∃ vp, vp = tp.val := ⟨_, rfl⟩
      obtain ⟨vq, hvq⟩ : ∃ vq, vq = tq.val := ⟨_, rfl⟩
      have w0 := HCP.out.worth
      have w1' := HCQ.out.worth
      rw [← hvp] at w0 hpv
      rw [← hvq] at w1' hqv
      have HVV := Lib.hid (And.intro hvp hvq)
      have hbx := hp.box.cell
      clear hcell hpp hqq hpm hqm hvp hvq hy hL eA
      gi_wp2
      have HSB : Hid (∀ k, v.ownBlock = some k → gb + 3 ≤ k ∧ k < W.heap.size) := fun k hk => HP.out.row.lt k hk
      have hb'w : b' < w.heap.size := by
        have h9 := H.out.at_ hn0
        obtain ⟨b2, o2, e2, hc2⟩ := h9
        have e3 := HAo.out hn0
        rw [e2] at e3
        injection e3 with e3
        injection e3 with e3 _
        subst e3
        exact World.block_lt_of_cell? w _ (hc2 0 _ (List.getElem?_eq_getElem (by rw [H.out.len]; exact hn0)))
      have hgpw := HGW.out.1
      have hgqw := HGW.out.2
      have HC : Hid (∀ w7, Keeps (fun k => v.ownBlock = some k) W.drew w7 → w7.cell? ⟨gb, 0, none⟩ = some v ∧ w7.cell? ⟨b', y, none⟩ = some (.pointer (some ⟨gp, 0, none⟩)) ∧ w7.cell? ⟨b', y + 1, none⟩ = some (.pointer (some ⟨gq, 0, none⟩)) ∧ w7.cell? ⟨gp, 0, none⟩ = some (.int .i64 (vp : Nat)) ∧ w7.cell? ⟨gq, 0, none⟩ = some (.int .i64 (vq : Nat))) := fun w7 h7 => by
        have hn : ∀ k, k < gb + 3 → ¬ v.ownBlock = some k := fun k hk e => by have := (HSB.out k e).1; omega
        have hw := HWZ.out.1
        exact ⟨ckp (show W.drew.cell? _ = _ from hbx) h7 (hn gb (by omega)), ckp (show W.drew.cell? _ = _ from c0) h7 (hn b' (by omega)), ckp (show W.drew.cell? _ = _ from c1) h7 (hn b' (by omega)), ckp (show W.drew.cell? _ = _ from w0) h7 (hn gp (by omega)), ckp (show W.drew.cell? _ = _ from w1') h7 (hn gq (by omega))⟩
      have hvpi : (vp : Int) ≤ 1152921504606846976 := by omega
      have hvqi : (vq : Int) ≤ 1152921504606846976 := by omega
      refine Hv.wpIn_region_hav2 (Keeps (fun k => v.ownBlock = some k)) Grow (fun _ _ _ => True) (hyO v) [0, 3, 6, 9, 12, 16, 19, 20] [1024] [(0, [1, 2, 7, 8, 14, 15, 17, 18]), (1, [0]), (1, [3]), (0, [4, 5]), (1, [6]), (1, [9]), (0, [10, 11]), (1, [12]), (0, [13]), (1, [16]), (1, [19]), (1, [20]), (2, [21]), (2, [22]), (2, [23]), (4, [24])] [(0, 1, [?o1, ?o2, ?o7, ?o8, ?o14, ?o15, ?o17, ?o18]), (1, 0, [?o0]), (1, 3, [?o3]), (0, 4, [?o4, ?o5]), (1, 6, [?o6]), (1, 9, [?o9]), (0, 10, [?o10, ?o11]), (1, 12, [?o12]), (0, 13, [?o13]), (1, 16, [?o16]), (1, 19, [?o19]), (1, 20, [?o20]), (2, 21, [?o21]), (2, 22, [?o22]), (2, 23, [?o23]), (4, 24, [?o24])] [?o0, ?o1, ?o2, ?o3, ?o4, ?o5, ?o6, ?o7, ?o8, ?o9, ?o10, ?o11, ?o12, ?o13, ?o14, ?o15, ?o16, ?o17, ?o18, ?o19, ?o20, ?o21, ?o22, ?o23, ?o24] (by kernel_rfl) (by kernel_rfl) (by kernel_rfl) (by kernel_rfl) ?_
      have KW : Hid (Grow W W.drew) := (Keeps.refl _ _).drew
      clear c0 c1 w0 w1' hbx hb'w hgpw hgqw
      generalize W.drew = wd at *
      refine Hv.seg_calm ?_
      go_wp2_with fail
      refine Hv.seg_held (by kernel_rfl) v (fun w7 hk7 => ?_) ?_
      · have c7 := (HC.out w7 hk7).1
        go_simp
      refine Hv.seg_held (by kernel_rfl) (.pointer (some ⟨gp, 0, none⟩)) (fun w7 hk7 => ?_) ?_
      · have c7 := (HC.out w7 hk7).2.1
        go_simp
      refine Hv.seg_calm ?_
      go_wp2_with fail
      refine Hv.seg_held (by kernel_rfl) (.int .i64 (vp : Nat)) (fun w7 hk7 => ?_) ?_
      · have c7 := (HC.out w7 hk7).2.2.2.1
        go_simp
      refine Hv.seg_held (by kernel_rfl) (.pointer (some ⟨gq, 0, none⟩)) (fun w7 hk7 => ?_) ?_
      · have c7 := (HC.out w7 hk7).2.2.1
        go_simp
      refine Hv.seg_calm ?_
      go_wp2_with fail
      refine Hv.seg_held (by kernel_rfl) (.int .i64 (vq : Nat)) (fun w7 hk7 => ?_) ?_
      · have c7 := (HC.out w7 hk7).2.2.2.2
        go_simp
      refine Hv.seg_calm ?_
      have hvs : (vp : Int) + (vq : Int) = ((vp + vq : Nat) : Int) := by omega
      obtain ⟨vs, hvse⟩ : ∃ vs, vs = vp + vq := ⟨_, rfl⟩
      rw [← hvse] at hvs
      have HVS := Lib.hid hvse
      clear hvse
      go_wp2_with fail
      refine Hv.seg_held (by kernel_rfl) (.pointer (some ⟨gp, 0, none⟩)) (fun w7 hk7 => ?_) ?_
      · have c7 := (HC.out w7 hk7).2.1
        go_simp
      refine Hv.seg_held (by kernel_rfl) (.pointer (some ⟨gq, 0, none⟩)) (fun w7 hk7 => ?_) ?_
      · have c7 := (HC.out w7 hk7).2.2.1
        go_simp
      refine Hv.seg_held (by kernel_rfl) (.agg #[.int .i64 (vs : Nat), .int .i64 0, .pointer (some ⟨gp, 0, none⟩), .pointer (some ⟨gq, 0, none⟩)]) (fun w7 hk7 => ?_) ?_
      · go_simp
      clear HC
      refine Hv.seg_call (fun w5 q5 => ?_)
      go_wp2_with fail
      refine ⟨(Keeps.refl _ _).alloc _, ?_⟩
      obtain ⟨g, hg⟩ : ∃ g, g = w5.heap.size := ⟨_, rfl⟩
      have HB6 : Hid ((w5.alloc (coinBlk vs 0 (some ⟨gp, 0, none⟩) (some ⟨gq, 0, none⟩))).heap[g]? = some (coinBlk vs 0 (some ⟨gp, 0, none⟩) (some ⟨gq, 0, none⟩))) := by
        show _ = _
        rw [hg]; exact heap_alloc_new w5 _
      have K6 : Hid (Grow W (w5.alloc (coinBlk vs 0 (some ⟨gp, 0, none⟩) (some ⟨gq, 0, none⟩)))) := (Grow.trans _ _ _ KW.out q5).alloc _
      unfold coinBlk at HB6 K6
      simp only [← hg]
      clear q5 hg KW
      generalize w5.alloc (.cells #[.int .i64 (vs : Nat), .int .i64 ((0 : Nat) : Int), .pointer (some ⟨gp, 0, none⟩), .pointer (some ⟨gq, 0, none⟩)] 39) = w6 at *
      refine Hv.seg_call (fun w7 q7 => ?_)
      go_wp2_with fail
      refine ⟨(Keeps.refl _ _).alloc _, ?_⟩
      obtain ⟨bn, hbn⟩ : ∃ bn, bn = w7.heap.size := ⟨_, rfl⟩
      have HB8 : Hid ((w7.alloc (.cells #[.pointer (some ⟨g, 0, none⟩)] 37)).heap[g]? = some (coinBlk vs 0 (some ⟨gp, 0, none⟩) (some ⟨gq, 0, none⟩))) := blk_alloc (block_keep HB6.out q7 (fun h => h)) _
      have HS8 : Hid ((w7.alloc (.cells #[.pointer (some ⟨g, 0, none⟩)] 37)).heap[bn]? = some (.cells #[.pointer (some ⟨g, 0, none⟩)] 37 (0, 0))) := by
        show _ = _
        rw [hbn]; exact heap_alloc_new w7 _
      have K8 : Hid (Grow W (w7.alloc (.cells #[.pointer (some ⟨g, 0, none⟩)] 37))) := (Grow.trans _ _ _ K6.out q7).alloc _
      simp only [← hbn]
      clear q7 hbn K6 HB6
      generalize w7.alloc (.cells #[.pointer (some ⟨g, 0, none⟩)] 37) = w8 at *
      refine Hv.seg_call (fun w9 q9 => ?_)
      have HB9 : Hid (w9.heap[g]? = some (coinBlk vs 0 (some ⟨gp, 0, none⟩) (some ⟨gq, 0, none⟩))) := block_keep HB8.out q9 (fun h => h)
      have HS9 := Lib.hid (srcP_one (p := (.node vs tp tq, g)) (block_keep HS8.out q9 (fun h => h)))
      have K9 := Lib.hid (Grow.trans _ _ _ K8.out q9)
      have HO9 := Lib.hid (owns_keep HP.out.row K9.out (fun _ _ h => h))
      have hz9 : gb + 3 ≤ w9.heap.size := Nat.le_trans HP.out.size K9.out.size
      have hql : qs.length ≤ 131072 := Nat.le_trans HP.out.len hpl
      have hqi : (qs.length : Int) ≤ 131072 := by omega
      clear q9 HB8 HS8 K8
      obtain ⟨qn, hqn⟩ : ∃ qn, qn = qs.length := ⟨_, rfl⟩
      rw [← hqn] at HO9 hql hqi
      have HQN := Lib.hid hqn
      clear hqn
      go_wp2_with (at_builtin; refine wpList_appS rfl (.tmp 11) (.tmp 33) 36 37 rfl Try.underlying36 Try.infoPtr rfl (by decide) (gb + 3) v qn _ rfl HO9.out hz9 (some ⟨bn, 0, none⟩) 1 1 _ rfl HS9.out (by unfold maxLen; omega) (by omega) ?_)
      intro A5 c5 w10 ho hk hm
      have HO10 := Lib.hid ho
      have HK10 := Lib.hid hk
      have KT : Hid (Keeps (fun k => v.ownBlock = some k) W w10) := Keeps.trans (gk K9.out) hk fun _ _ h => h
      have hgW : g ≠ gb ∧ ¬ v.ownBlock = some g := by
        refine ⟨fun e => ?_, fun e => ?_⟩
        · have h9 := K9.out.block gb (Boxed.lt HP.out.box) (fun h => h)
          rw [HP.out.box, ← e, HB9.out] at h9
          injection h9 with h9
          injection h9 with _ h9
          exact absurd h9 (by decide)
        · have h9 := HSB.out g e
          rcases HO9.out.2 with ⟨hv0, _⟩ | ⟨g', cap, cur, hv0, _, hh, _⟩
          · rw [hv0] at e; simp [Value.ownBlock] at e
          · rw [hv0] at e
            have e' : g' = g := by simpa [Value.ownBlock] using e
            subst e'
            rw [HB9.out] at hh
            injection hh with hh
            injection hh with _ hh
            exact absurd hh (by decide)
      have HB10 : Hid (w10.heap[g]? = some (coinBlk vs 0 (some ⟨gp, 0, none⟩) (some ⟨gq, 0, none⟩))) := block_keep HB9.out hk hgW.2
      have hbx10 : Boxed w10 gb 36 v := block_keep HP.out.box KT.out (fun e => by have := (HSB.out gb e).1; omega)
      have HBX10 := Lib.hid hbx10
      clear ho hk hm hbx10 HO9 HS9 K9 hz9 HB9
      go_wp2_with fail
      refine ⟨HK10.out, ?_⟩
      refine Hv.seg_last ?_
      have d0 := HBX10.out.cell
      have f0 := HBX10.out.frozen
      go_wp2_with fail
      refine Hv.seg_end ⟨by kernel_rfl, ?_⟩
      have KF : Keeps (fun k => k = gb ∨ v.ownBlock = some k) W (w10.setCell ⟨gb, 0, none⟩ (.slice A5 (qn + 1) c5)) := (KT.out.mono fun _ _ h => .inr h).setCell (p := ⟨gb, 0, none⟩) (fun _ => .inl rfl) _
      have hNC : NoCoin W (fun k => k = gb ∨ v.ownBlock = some k) := fun z hz c f hh => by
        rcases hz with rfl | hz
        · rw [HP.out.box] at hh
          injection hh with hh
          injection hh with _ hh
          exact absurd hh (by decide)
        · exact noCoin_row HP.out.row (by decide) z hz c f hh
      have hS2 : ∀ k, k = gb + 1 ∨ k = gb + 2 → k < W.heap.size ∧ ¬ (k = gb ∨ v.ownBlock = some k) := fun k hk => by
        have h1 := HP.out.size
        refine ⟨by omega, fun h => ?_⟩
        rcases h with h | h
        · omega
        · have := (HSB.out k h).1; omega
      have hrow : w10.ownsRow (gb + 3) 37 1 (.slice A5 (qn + 1) c5) (qn + 1) ((qs ++ [(CoinT.node vs tp tq, g)]).map ptrOf) := by
        rw [List.map_append]
        exact HO10.out
      refine ⟨⟨KF.size, fun k o hB hk0 hc0 => (KF.block k (blk_lt hk0) (fun h => ?_)).trans hk0⟩, ⟨World.cell?_of_block (KF.block (gb + 1) (hS2 _ (.inl rfl)).1 (hS2 _ (.inl rfl)).2), World.cell?_of_block (KF.block (gb + 2) (hS2 _ (.inr rfl)).1 (hS2 _ (.inr rfl)).2)⟩, .slice A5 (qn + 1) c5, qs ++ [(.node vs tp tq, g)], ?_⟩
      · rcases h with rfl | h
        · rw [HP.out.box] at hk0
          injection hk0 with hk0
          subst hk0
          cases hc0
        · rcases HP.out.row.2 with ⟨hv0, _⟩ | ⟨g', cap, cur, hv0, _, hh, _⟩
          · rw [hv0] at h; simp [Value.ownBlock] at h
          · rw [hv0] at h
            have e' : g' = k := by simpa [Value.ownBlock] using h
            subst e'
            rw [hh] at hk0
            injection hk0 with hk0
            subst hk0
            cases hc0
      · have hlen : (qs ++ [(CoinT.node vs tp tq, g)]).length = qn + 1 := by rw [List.length_append, HQN.out]; rfl
        refine ⟨HBX10.out.set _, ?_, fun p hp9 => ?_, ?_, ?_, Nat.le_trans HP.out.size KF.size, ?_⟩
        · rw [hlen]
          exact row_set_far hrow (fun e => by have := own_ge hrow gb e; omega) _
        · rcases List.mem_append.1 hp9 with h9 | h9
          · exact (HP.out.coins p h9).keep KF hNC
          · rw [List.mem_singleton.1 h9]
            refine ⟨gp, gq, blk_far HB10.out (by show g ≠ gb; exact hgW.1) _, HCP.out.keep KF hNC, HCQ.out.keep KF hNC⟩
        · rw [List.map_append, HP.out.trees, List.filterMap_append]
          congr 1
          rw [HVS.out, HVV.out.1, HVV.out.2]
          simp [HT.out]
        · exact Keeps.trans HP.out.grow KF fun i hi h => by
            have hw := HWZ.out.1
            rcases h with h | h
            · omega
            · have := (HSB.out i h).1; omega
        · rw [hlen, List.length_append, HQN.out]
          have := HP.out.len
          simp
          omega
    · have hL3 : (L : Int) ≠ 2 := by omega
      have hL4 : ((L : Int) == 2) = false := by simpa using hL3
      have HT : Hid (treeK ps x = none) := by
        show _ = _
        unfold treeK
        rw [List.getElem?_eq_none (l := ps) (i := 2 * x + 1) (by rw [H.out.len]; omega)]
        cases ps[2 * x]? <;> rfl
      clear hL hy
      gi_wp2
      refine ⟨KeepsFrom.refl _ _, ⟨rfl, rfl⟩, v, qs, HP.out.box, HP.out.row, HP.out.coins, ?_, HP.out.grow, HP.out.size, Nat.le_trans HP.out.len (by simp)⟩
      rw [HP.out.trees, List.filterMap_append]
      simp [HT.out]
theorem packed_is (w : World) (A : Option Addr) (n c : Nat) (ps : List PC) (h : Ptrs w A n c ps) (hnb : n ≤ 262144) (hv : ∀ p ∈ ps, p.1.val ≤ 1152921504606846976) :
    Calls Try.prog 17 #[.slice A n c] w fun e W' => ∃ v qs, e = .returned v ∧ qs.map (·.1) = pairsT ps ∧ W'.ownsRow w.heap.size 37 1 v qs.length (qs.map ptrOf) ∧ Coins W' qs ∧ Grow w W' :=
  callsIn_wide.1 (packed_in 3 (by decide) w A n c ps h hnb hv)
end Go.Proofs.Ytfegjdabjdahgaa
