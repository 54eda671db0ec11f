/- slices.Chunk[[]byte,byte]: the iterator's contract. -/
import Derived.Test.YtnjdhkaabpmahaaNums
import Derived.RangeFuncBox
import Derived.RangeFuncNested
import Derived.RangeFuncLeaves
import Derived.Shelf.Abstract
import Derived.OwnWalkIn
import Derived.TacticsInMore
import Derived.LoopNIn
import Derived.LoopIn
import Derived.Maps.AppendAt
import Derived.Sort.QuietIn
namespace Go.Proofs.Ytnjdhkaabpmahaa
open Go.RowKit Go.Shelf
set_option linter.unusedVariables false
set_option linter.unusedSimpArgs false
attribute [local go_sem] Oper.semAt_some

theorem run_full {P : Program} {t e : TypeId} {i : TypeInfo} (h1 : P.underlying t = some (.slice e)) (hi : P.info? e = some i) (hs : i.size = 1) (A : Option Addr) (l c m n k : Nat) (hm : m ≤ n) (hn : n ≤ k) (hk : k ≤ c) (w : World) :
    (Instr.slice t (.slice A l c) (some (.int .i64 m)) (some (.int .i64 n)) (some (.int .i64 k))).run P w = .ok (.slice (Nums.off A k m) (n - m) (k - m)) w := by
  have h0 : (0 : Int) ≤ m := by omega
  have h0' : (0 : Int) ≤ n := by omega
  have h0'' : (0 : Int) ≤ k := by omega
  have h2 : (m : Int) ≤ n := by omega
  have h2' : (n : Int) ≤ k := by omega
  have h2'' : (k : Int) ≤ c := by omega
  have h3 : ¬ n < m := by omega
  have h4 : ¬ k < n := by omega
  have h5 : ¬ c < k := by omega
  simp [Instr.slice, run_underlying h1, Instr.sliceBounds, Instr.sliceBound, asIntOf, h0, h0', h0'', h2, h2', h2'', h3, h4, h5, hm, hn, hk, sizeOf, typeInfo, hi, hs, Nums.off]
theorem run_from {P : Program} {t e : TypeId} {i : TypeInfo} (h1 : P.underlying t = some (.slice e)) (hi : P.info? e = some i) (hs : i.size = 1) (A : Option Addr) (l c m : Nat) (hm : m ≤ l) (hn : l ≤ c) (w : World) :
    (Instr.slice t (.slice A l c) (some (.int .i64 m)) none none).run P w = .ok (.slice (Nums.off A c m) (l - m) (c - m)) w := by
  have h0 : (0 : Int) ≤ m := by omega
  have h2 : (m : Int) ≤ c := by omega
  have h2' : (m : Int) ≤ l := by omega
  have h3 : ¬ l < m := by omega
  have h4 : ¬ c < l := by omega
  simp [Instr.slice, run_underlying h1, Instr.sliceBounds, Instr.sliceBound, asIntOf, h0, h2, h2', h3, h4, hm, hn, sizeOf, typeInfo, hi, hs, Nums.off]
/-- The k-th chunk of a row of n bytes. -/
def chkV (b o n sz k : Nat) : Value := .slice (some ⟨b, o + k * sz, none⟩) (min sz (n - k * sz)) (min sz (n - k * sz))
def chkN (n sz : Nat) : Nat := (n + sz - 1) / sz
theorem chkN_lt {n sz k : Nat} (h : 0 < sz) : k * sz < n ↔ k < chkN n sz := by
  unfold chkN
  rw [Nat.lt_div_iff_mul_lt h]
  constructor <;> intro <;> omega
set_option maxRecDepth 4000 in
theorem chunk_is (w : World) (A : Option Addr) (n c sz : Nat) (hsz : 1 ≤ sz) :
    Calls Try.prog 25 #[.slice A n c, .int .i64 (sz : Nat)] w fun e w' => e = .returned (.func (.func 38) #[] #[.pointer (some ⟨w.heap.size, 0, none⟩), .pointer (some ⟨w.heap.size + 1, 0, none⟩)]) ∧ w' = (w.alloc (.cells #[.slice A n c] 24)).alloc (.cells #[.int .i64 (sz : Nat)] 3) := by
  have h1 : (1 : Int) ≤ (sz : Int) := by omega
  go_enter Try.func25, Try.ntmps25
  go_wp2_with fail
  go_ret
  exact ⟨rfl, rfl⟩
set_option maxRecDepth 100000 in
set_option maxHeartbeats 1000000 in
theorem chunk1_in (N : Nat) (hn : 1 ≤ N) (l g1 g2 n₀ : Nat) (A : Option Addr) (n c sz b o : Nat) (hA : 0 < n → A = some ⟨b, o, none⟩) (hc : n ≤ c) (hnb : n ≤ 1048576) (hsz : 1 ≤ sz) (hszb : sz ≤ 1073741824) (hg1 : g1 < n₀) (hg2 : g2 < n₀) (J Jx : List Nat → World → Prop) (hJd : ∀ s W m, J s W → J s (W.drewN m))
    (hY : ∀ pre x W, J pre W → pre.length < chkN n sz → YieldAt Fence.wide (N - 1) Try.prog l #[chkV b o n sz x] W fun e W' =>
      (e = .returned (.bool true) ∧ J (pre ++ [x]) W' ∧ Below n₀ W W') ∨ (e = .returned (.bool false) ∧ Jx (pre ++ [x]) W'))
    (W : World) (hb1 : W.cell? ⟨g1, 0, none⟩ = some (.slice A n c)) (hb2 : W.cell? ⟨g2, 0, none⟩ = some (.int .i64 (sz : Nat))) (h0 : J [] W) :
    CallsIn Fence.wide N Try.prog 38 #[.func (.yield l) #[] #[], .pointer (some ⟨g1, 0, none⟩), .pointer (some ⟨g2, 0, none⟩)] W fun e W' => (∃ v, e = .returned v) ∧
      ((∃ ys, ys = List.range (chkN n sz) ∧ J ys W') ∨ (∃ pre, pre <+: List.range (chkN n sz) ∧ Jx pre W')) := by
  refine callsIn_of_wp Try.func38 rfl trivial ?_ rfl
  simp only [Try.ntmps38, List.size_toArray, List.length_cons, List.length_nil, Nat.reduceAdd, Nat.reduceSub, Array.replicate_succ, Array.replicate_zero, List.push_toArray, List.append_toArray, List.nil_append, List.cons_append]
  gi_wp2
  gi_loopw [4, 5] (fun vi _ wr => ∃ (k : Nat), k ≤ chkN n sz ∧ vi = .int .i64 ((k * sz : Nat) : Int) ∧ wr.cell? ⟨g1, 0, none⟩ = some (.slice A n c) ∧ wr.cell? ⟨g2, 0, none⟩ = some (.int .i64 (sz : Nat)) ∧ J (List.range k) wr) (fun vi _ _ => n - (intOf vi).toNat)
  case atStart => exact ⟨0, Nat.zero_le _, by simp, hb1, hb2, h0⟩
  case round =>
    obtain ⟨k, hk, rfl, hc1, hc2, hJs⟩ := hrel
    by_cases hp : k * sz < n
    · have hkl := (chkN_lt (n := n) (k := k) (by omega : 0 < sz)).1 hp
      obtain rfl := hA (by omega)
      obtain ⟨p, hpe⟩ : ∃ p, p = k * sz := ⟨_, rfl⟩
      obtain ⟨d, hd⟩ : ∃ d, d = n - p := ⟨_, rfl⟩
      obtain ⟨m, hm⟩ : ∃ m, m = min sz d := ⟨_, rfl⟩
      obtain ⟨q, hq⟩ : ∃ q, q = p + m := ⟨_, rfl⟩
      have hval : chkV b o n sz k = .slice (some ⟨b, o + p, none⟩) (q - p) (q - p) := by unfold chkV; rw [← hpe, ← hd, ← hm, show q - p = m by omega]
      have hsl1 : ∀ w : World, (Instr.slice 24 (.slice (some ⟨b, o, none⟩) n c) (some (.int .i64 (p : Nat))) none none).run Try.prog w = .ok (.slice (Nums.off (some ⟨b, o, none⟩) c p) d (c - p)) w := fun w => by
        have h9 := run_from Try.underlying24 (P := Try.prog) rfl rfl (some ⟨b, o, none⟩) n c p (by omega) hc w
        rw [h9, hd]
      have HYk := Lib.hid (fun W h => hY (List.range k) k W h (by rw [List.length_range]; exact hkl))
      rw [hval] at HYk
      have HJd := Lib.hid hJd
      have HJs := Lib.hid hJs
      rw [← hpe]
      have hpn : (p : Int) < (n : Int) := by omega
      have hqi : (p : Int) + (m : Int) = (q : Int) := by omega
      have hqb : (q : Int) ≤ 1048576 := by omega
      have hpq : p ≤ q := by omega
      have hqc : q ≤ c := by omega
      have hpp1 : ¬ q = p := by omega
      have hpp2 : ¬ p = q := by omega
      have hpp3 : (q == p) = false := by simp; omega
      have hpp4 : (p == q) = false := by simp; omega
      have hpq3 : ¬ q < p := by omega
      have hqc3 : ¬ c < q := by omega
      have hmin : (if d < sz then (d : Int) else (sz : Int)) = (m : Int) := by split <;> omega
      have HMIN := Lib.hid hmin
      have HP := Lib.hid (And.intro hpe (And.intro hd (And.intro hm (And.intro hq hkl))))
      have HY := Lib.hid hY
      have HSZ := Lib.hid (And.intro hsz (And.intro hszb (And.intro hnb (And.intro hc (And.intro hg1 (And.intro hg2 hk))))))
      clear hmin hm hpe hd hq hp hkl hval hA hY hJd hJs hszb hsz hnb hc hg1 hg2 hk hb1 hb2
      gi_wp2
      gi_quiet (fail)
      rw [HMIN.out]
      obtain ⟨fn, tmps, assign, body, hy, hR⟩ := HYk.out (wr.drewN nq) (HJd.out _ _ _ HJs.out)
      have HR := Lib.hid hR
      clear hR
      gi_wp2
      refine HR.out.mono ?_
      rintro e W3 (⟨rfl, hJ3, hk3⟩ | ⟨rfl, hJx3⟩)
      · have hc1' : W3.cell? ⟨g1, 0, none⟩ = some (.slice (some ⟨b, o, none⟩) n c) := (hk3.cell (p := ⟨g1, 0, none⟩) HSZ.out.2.2.2.2.1).trans hc1
        have hc2' : W3.cell? ⟨g2, 0, none⟩ = some (.int .i64 (sz : Nat)) := (hk3.cell (p := ⟨g2, 0, none⟩) HSZ.out.2.2.2.2.2.1).trans hc2
        have hszi : (sz : Int) ≤ 1073741824 := by have := HSZ.out; omega
        have hsz1 : (1 : Int) ≤ (sz : Int) := by have := HSZ.out; omega
        have hpi : (p : Int) ≤ 1048576 := by have := HSZ.out; omega
        have HJ3 := Lib.hid hJ3
        clear hJ3 hk3 hy HR
        gi_wp2
        go_roundw
        case rel => exact ⟨k + 1, HP.out.2.2.2.2, by rw [HP.out.1, Nat.succ_mul]; go_num, hc1', hc2', by rw [List.range_succ]; exact HJ3.out⟩
        case measure => simp [intOf]; omega
      · gi_wp2
        refine bodyPost_ret (results_none rfl _ _ _) rfl ?_
        exact ⟨⟨_, rfl⟩, .inr ⟨List.range k ++ [k], by
          rw [← List.range_succ]
          exact List.prefix_iff_eq_take.2 (by rw [List.length_range, List.take_range, Nat.min_eq_left HP.out.2.2.2.2]), hJx3⟩⟩
    · obtain rfl : k = chkN n sz := by
        have h9 : ¬ k < chkN n sz := fun h => hp ((chkN_lt (by omega)).2 h)
        omega
      have hpi : ¬ ((chkN n sz * sz : Nat) : Int) < (n : Int) := by omega
      have hp9 : decide (((chkN n sz * sz : Nat) : Int) < (n : Int)) = false := decide_eq_false hpi
      obtain ⟨p, hpe⟩ : ∃ p, p = chkN n sz * sz := ⟨_, rfl⟩
      rw [← hpe] at hpi hp9 hp ⊢
      have HJ3 := Lib.hid hJs
      clear hpe hJs hY hA
      gi_wp2
      go_end0
      exact ⟨⟨_, rfl⟩, .inl HJ3.out⟩
theorem chunk_stops (N : Nat) (hn : 1 ≤ N) (g1 g2 n₀ : Nat) (A : Option Addr) (n c sz b o : Nat) (hA : 0 < n → A = some ⟨b, o, none⟩) (hc : n ≤ c) (hnb : n ≤ 1048576) (hsz : 1 ≤ sz) (hszb : sz ≤ 1073741824) (hg1 : g1 < n₀) (hg2 : g2 < n₀) (w : World) (hn₀ : n₀ ≤ w.heap.size) (hb1 : w.cell? ⟨g1, 0, none⟩ = some (.slice A n c)) (hb2 : w.cell? ⟨g2, 0, none⟩ = some (.int .i64 (sz : Nat))) :
    SeqStopsK Fence.wide N Try.prog 38 #[.pointer (some ⟨g1, 0, none⟩), .pointer (some ⟨g2, 0, none⟩)] (fun k : Nat => #[chkV b o n sz k]) (Below n₀) (fun ys => ys = List.range (chkN n sz)) (fun pre => pre <+: List.range (chkN n sz)) (chkN n sz) w := fun l J Jx W hW hJ _ hY h0 =>
  chunk1_in N hn l g1 g2 n₀ A n c sz b o hA hc hnb hsz hszb hg1 hg2 J Jx (fun s W m hs => hJ s W (W.drewN m) none hs ⟨rfl, rfl, rfl, Nat.le_refl _, fun _ _ _ => rfl⟩ (fun r e => by cases e)) hY W ((hW.cell (p := ⟨g1, 0, none⟩) (by show g1 < _; omega)).trans hb1) ((hW.cell (p := ⟨g2, 0, none⟩) (by show g2 < _; omega)).trans hb2) h0
theorem Try.infoSl : (Try.prog.info? 24).map (fun i => (i.zero, i.size, i.bytes)) = some (some (.slice none 0 0), 1, 24) := by kernel_rfl
theorem chkN_le {n sz : Nat} (h : 1 ≤ sz) : chkN n sz ≤ n := by
  unfold chkN
  rcases Nat.eq_zero_or_pos n with rfl | hn
  · rw [Nat.zero_add, Nat.div_eq_of_lt (by omega)]; exact Nat.le_refl _
  · rw [Nat.div_le_iff_le_mul_add_pred (by omega)]
    have : n ≤ sz * n := Nat.le_mul_of_pos_left _ (by omega)
    omega
set_option maxRecDepth 100000 in
set_option maxHeartbeats 2000000 in
theorem apSeq_in (N : Nat) (hn : 3 ≤ N) (g1 g2 : Nat) (A : Option Addr) (n c sz b o : Nat) (hA : 0 < n → A = some ⟨b, o, none⟩) (hc : n ≤ c) (hnb : n ≤ 1048576) (hsz : 1 ≤ sz) (hszb : sz ≤ 1073741824) (w : World) (hg1 : g1 < w.heap.size) (hg2 : g2 < w.heap.size) (hb1 : w.cell? ⟨g1, 0, none⟩ = some (.slice A n c)) (hb2 : w.cell? ⟨g2, 0, none⟩ = some (.int .i64 (sz : Nat))) :
    CallsIn Fence.wide N Try.prog 37 #[.slice none 0 0, .func (.func 38) #[] #[.pointer (some ⟨g1, 0, none⟩), .pointer (some ⟨g2, 0, none⟩)]] w fun e W' => ∃ v, e = .returned v ∧ W'.ownsRow w.heap.size 24 1 v (chkN n sz) ((List.range (chkN n sz)).map (chkV b o n sz)) ∧ Below w.heap.size w W' := by
  have h1 : 1 ≤ N := by omega
  obtain ⟨i0, hi, hz0, hz1, hz2⟩ := info_parts Try.infoSl
  have hcn : chkN n sz ≤ 1048576 := Nat.le_trans (chkN_le hsz) hnb
  refine callsIn_of_wp_marks Try.func37 rfl trivial ?_ rfl
  simp only [Try.ntmps37, List.size_toArray, List.length_cons, List.length_nil, Nat.reduceAdd, Nat.reduceSub, Array.replicate_succ, Array.replicate_zero, List.push_toArray, List.append_toArray, List.nil_append, List.cons_append]
  gi_wp2
  have bO := Boxed.new w 22 (.slice none 0 0)
  have hB0 : Below w.heap.size w (w.alloc (.cells #[.slice none 0 0] 22)) := (Below.refl _ w).alloc (Nat.le_refl _) _
  refine wpIn_rangeFunc_ownG rfl h1 (gf := 38) (lb := #[.pointer (some ⟨g1, 0, none⟩), .pointer (some ⟨g2, 0, none⟩)]) rfl trivial (enters_of Try.func38 (by kernel_rfl) rfl)
    (chunk_stops (N - 1) (by omega) g1 g2 w.heap.size A n c sz b o hA hc hnb hsz hszb hg1 hg2 _ (by simp) ((hB0.cell (p := ⟨g1, 0, none⟩) hg1).trans hb1) ((hB0.cell (p := ⟨g2, 0, none⟩) hg2).trans hb2)) belowK_t (belowK_b (by simp)) (Below.refl _ _) (fun _ => rfl)
    (fun pre W => (∃ v, Boxed W w.heap.size 22 v ∧ W.ownsRow w.heap.size 24 1 v pre.length (pre.map (chkV b o n sz)) ∧ (v = .slice none 0 0 ↔ pre = [])) ∧ Below w.heap.size w W)
    (fun _ _ _ => False)
    (OwnFrom.and (Own.from (holdsRow_own w.heap.size w.heap.size 22 24 1 (fun pre => pre.length) (fun pre => pre.map (chkV b o n sz)) (fun pre v => v = .slice none 0 0 ↔ pre = [])) _) (ownFrom_below (Nat.le_refl _) (by simp)))
    (fun _ _ _ _ _ hs _ _ => hs)
    ⟨⟨_, bO, World.ownsRow_nil _ _ _ _, by simp⟩, hB0⟩
    (fun x => { tmps := #[.slice none 0 0, .func (.func 38) #[] #[.pointer (some ⟨g1, 0, none⟩), .pointer (some ⟨g2, 0, none⟩)], .pointer (some ⟨w.heap.size, 0, none⟩), undef, .slice none 0 0, chkV b o n sz x, .func (.func 38) #[] #[.pointer (some ⟨g1, 0, none⟩), .pointer (some ⟨g2, 0, none⟩)], chkV b o n sz x, undef, undef, undef, undef, undef], defers := [] }) ?assign ?body ?done ?stop
  case assign =>
    intro l x W K hK
    gi_wp2
    exact hK
  case body =>
    rintro l pre x W ⟨⟨v, hv, hrow, hnil⟩, hB⟩ hlt
    have hc := hv.cell
    obtain ⟨ad, L, hV⟩ : ∃ ad L, chkV b o n sz x = .slice ad L L := ⟨_, _, rfl⟩
    rw [hV]
    have HV := Lib.hid hV
    have HA := Lib.hid hA
    clear hV hA
    have hpl : pre.length ≤ 1048576 := by omega
    gi_wp2_with (gi_at_builtin; refine wpListIn_append_own _ rfl _ _ 22 rfl w.heap.size 24 i0 (.slice none 0 0) 1 24 Try.underlying22 hi hz0 hz1 hz2 rfl (by decide) _ _ _ rfl (hrow.alloc _) ⟨W.heap.size, 0, none⟩ 1 1 [.slice ad L L] rfl rfl (cell_one_new _ _ _) (by simp [Value.oneCell']) (by unfold maxLen; omega) (by omega) (by have := hB.size; simp; omega) ?_; intro v' w1 hown' hgrow _; obtain ⟨g', cap', rfl⟩ := ownsRow_succ hown'; obtain ⟨hv1, hv2, hr2, hk2, hb2⟩ := hv.appended (by decide) hrow hB.size (Nat.le_refl _) hown' hgrow; have hc1 := hv1.cell; have hf1 := hv1.frozen)
    exact ⟨hk2.from _, hb2, ⟨_, hv2, by rw [List.map_append, List.length_append, List.map_singleton, HV.out]; exact hr2, by simp⟩, hB.trans hb2⟩
  case done =>
    rintro D ys W hD rfl ⟨⟨v, hv, hrow, hnil⟩, hB⟩ hK
    have hc := hv.cell
    gi_wp2
    refine ⟨by simp, .inl ⟨_, _, rfl, run_takeDeferred hK, ?_⟩⟩
    exact ⟨_, results_tmp rfl _ _ _, v, rfl, by simpa using ownsRow_putObj hrow _ hK rfl, hB.trans (belowK_b (w := w) (Nat.le_refl _) W D _ _ (by simp at hD; omega) hK rfl rfl)⟩
  case stop =>
    rintro D c pre W _ _ h _
    exact h.elim
theorem grow_of_below {w w' : World} (h : Below w.heap.size w w') : Grow w w' := ⟨h.os, h.tape, h.output, h.size, fun k hk _ => h.block k hk⟩
/-- slices.Collect(slices.Chunk(b, sz)). -/
theorem collect_is (w : World) (g1 g2 : Nat) (A : Option Addr) (n c sz b o : Nat) (hA : 0 < n → A = some ⟨b, o, none⟩) (hc : n ≤ c) (hnb : n ≤ 1048576) (hsz : 1 ≤ sz) (hszb : sz ≤ 1073741824) (hg1 : g1 < w.heap.size) (hg2 : g2 < w.heap.size) (hb1 : w.cell? ⟨g1, 0, none⟩ = some (.slice A n c)) (hb2 : w.cell? ⟨g2, 0, none⟩ = some (.int .i64 (sz : Nat))) :
    Calls Try.prog 24 #[.func (.func 38) #[] #[.pointer (some ⟨g1, 0, none⟩), .pointer (some ⟨g2, 0, none⟩)]] w fun e W' => ∃ v, e = .returned v ∧ W'.ownsRow w.heap.size 24 1 v (chkN n sz) ((List.range (chkN n sz)).map (chkV b o n sz)) ∧ Grow w W' := by
  have H := Lib.hid (callsIn_wide.1 (apSeq_in 3 (by decide) g1 g2 A n c sz b o hA hc hnb hsz hszb w hg1 hg2 hb1 hb2))
  clear hA hc hnb hsz hszb hg1 hg2 hb1 hb2
  go_enter Try.func24, Try.ntmps24
  go_wp2_with fail
  refine H.out.mono ?_
  rintro e w1 ⟨v, rfl, ho, hb⟩
  have HO := Lib.hid ho
  have HB := Lib.hid hb
  clear ho hb H
  go_wp2_with fail
  go_ret
  exact ⟨v, rfl, HO.out, grow_of_below HB.out⟩
end Go.Proofs.Ytnjdhkaabpmahaa
