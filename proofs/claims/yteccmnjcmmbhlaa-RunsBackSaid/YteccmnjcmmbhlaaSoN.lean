/- slices.Values of bytes as an iterator; slices.Collect, slices.Sorted. -/
import Derived.Test.YteccmnjcmmbhlaaSoM
namespace Go.Proofs.Yteccmnjcmmbhlaa
open Go.RowKit Go.Shelf
open Go.Sort (PermIn SortedIn)
open Go.Sort (ltInt)
set_option linter.unusedVariables false
set_option linter.unusedSimpArgs false
attribute [local go_sem] Oper.semAt_some

theorem Try.infoU8b : (Try.prog.info? 5).map (fun i => (i.zero, i.size, i.bytes)) = some (some (.int .u8 0), 1, 1) := by kernel_rfl
theorem Nums.belowP {k : IntKind} {w w' : World} {A : Option Addr} {n c B : Nat} {xs : List Int} (h : Nums k w A n c xs) (q : Below B w w') (hA : 0 < n → ∀ b o, A = some ⟨b, o, none⟩ → b < B) : Nums k w' A n c xs := by
  refine ⟨h.len, h.rng, h.cap, h.nil, fun hn => ?_⟩
  obtain ⟨b, o, e, hc⟩ := h.at_ hn
  refine ⟨b, o, e, fun j hj => ?_⟩
  rw [q.cell (p := ⟨b, o + j, none⟩) (hA hn b o e)]
  exact hc j hj
theorem Nums.lt_heap {k : IntKind} {w : World} {A : Option Addr} {n c : Nat} {xs : List Int} (h : Nums k w A n c xs) : 0 < n → ∀ b o, A = some ⟨b, o, none⟩ → b < w.heap.size := by
  intro hn b o e
  obtain ⟨b', o', e', hc⟩ := h.at_ hn
  rw [e] at e'
  injection e' with e'
  injection e' with e1 _
  subst e1
  exact World.block_lt_of_cell? w _ (hc 0 hn)
def bytV (zs : List Int) (k : Nat) : Value := .int .u8 (zs.getD k 0)
set_option maxRecDepth 100000 in
set_option maxHeartbeats 1000000 in
theorem values1_in (N : Nat) (hn : 1 ≤ N) (l g1 n₀ : Nat) (A : Option Addr) (n c : Nat) (zs : List Int) (hA : 0 < n → ∀ b o, A = some ⟨b, o, none⟩ → b < n₀) (hnb : n ≤ 1048576) (hg1 : g1 < n₀) (J Jx : List Nat → World → Prop) (hJd : ∀ s W m, J s W → J s (W.drewN m))
    (hY : ∀ pre x W, J pre W → pre.length < n → YieldAt Fence.wide (N - 1) Try.prog l #[bytV zs x] W fun e W' =>
      (e = .returned (.bool true) ∧ J (pre ++ [x]) W' ∧ Below n₀ W W') ∨ (e = .returned (.bool false) ∧ Jx (pre ++ [x]) W'))
    (W : World) (hb1 : W.cell? ⟨g1, 0, none⟩ = some (.slice A n c)) (hz : Nums .u8 W A n c zs) (h0 : J [] W) :
    CallsIn Fence.wide N Try.prog 47 #[.func (.yield l) #[] #[], .pointer (some ⟨g1, 0, none⟩)] W fun e W' => (∃ v, e = .returned v) ∧
      ((∃ ys, ys = List.range n ∧ J ys W') ∨ (∃ pre, pre <+: List.range n ∧ Jx pre W')) := by
  refine callsIn_of_wp Try.func47 rfl trivial ?_ rfl
  simp only [Try.ntmps47, List.size_toArray, List.length_cons, List.length_nil, Nat.reduceAdd, Nat.reduceSub, Array.replicate_succ, Array.replicate_zero, List.push_toArray, List.append_toArray, List.nil_append, List.cons_append]
  gi_wp2
  gi_loopw [4, 7] (fun _ vi wr => ∃ (k : Nat), k ≤ n ∧ vi = .int .i64 ((k : Nat) : Int) ∧ Nums .u8 wr A n c zs ∧ J (List.range k) wr) (fun _ vi _ => n - (intOf vi).toNat)
  case atStart => exact ⟨0, Nat.zero_le _, by simp, hz, h0⟩
  case round =>
    obtain ⟨k, hk, rfl, hzk, hJs⟩ := hrel
    by_cases hp : k < n
    · obtain ⟨b, o, rfl, hcell⟩ := hzk.at_ (by omega)
      have ck := hcell k hp
      have HYk := Lib.hid (fun W h => hY (List.range k) k W h (by rw [List.length_range]; exact hp))
      have HV : Hid (bytV zs k = .int .u8 (zs.getD k 0)) := rfl
      unfold bytV at HYk
      obtain ⟨x, hx⟩ : ∃ x, x = zs.getD k 0 := ⟨_, rfl⟩
      rw [← hx] at HYk ck
      have HJs := Lib.hid hJs
      have HZ := Lib.hid hzk
      have hpi : (k : Int) < (n : Int) := by omega
      have hni : (n : Int) ≤ 1048576 := by omega
      have HAb := Lib.hid hA
      clear hx hzk hcell hJs hA hY hJd hb1 hz h0
      obtain ⟨fn, tmps, assign, body, hy, hR⟩ := HYk.out wr HJs.out
      have HR := Lib.hid hR
      clear hR
      gi_wp2
      refine HR.out.mono ?_
      rintro e W3 (⟨rfl, hJ3, hk3⟩ | ⟨rfl, hJx3⟩)
      · have HJ3 := Lib.hid hJ3
        have HZ3 := Lib.hid (HZ.out.belowP hk3 HAb.out)
        clear hJ3 hk3 hy HR
        gi_wp2
        go_roundw
        case rel => exact ⟨k + 1, hp, by go_num, HZ3.out, by rw [List.range_succ]; exact HJ3.out⟩
        case measure => simp [intOf]; omega
      · gi_wp2
        refine bodyPost_ret (results_none rfl _ _ _) rfl ?_
        exact ⟨⟨_, rfl⟩, .inr ⟨List.range k ++ [k], by
          rw [← List.range_succ]
          exact List.prefix_iff_eq_take.2 (by rw [List.length_range, List.take_range, Nat.min_eq_left hp]), hJx3⟩⟩
    · obtain rfl : k = n := by omega
      have HJ3 := Lib.hid hJs
      clear hJs hY hA
      gi_wp2
      go_end0
      exact ⟨⟨_, rfl⟩, .inl ⟨_, rfl, HJ3.out⟩⟩
theorem values_stops (N : Nat) (hn : 1 ≤ N) (g1 n₀ : Nat) (A : Option Addr) (n c : Nat) (zs : List Int) (hA : 0 < n → ∀ b o, A = some ⟨b, o, none⟩ → b < n₀) (hnb : n ≤ 1048576) (hg1 : g1 < n₀) (w : World) (hn₀ : n₀ ≤ w.heap.size) (hb1 : w.cell? ⟨g1, 0, none⟩ = some (.slice A n c)) (hz : Nums .u8 w A n c zs) :
    SeqStopsK Fence.wide N Try.prog 47 #[.pointer (some ⟨g1, 0, none⟩)] (fun k : Nat => #[bytV zs k]) (Below n₀) (fun ys => ys = List.range n) (fun pre => pre <+: List.range n) n w := fun l J Jx W hW hJ _ hY h0 =>
  values1_in N hn l g1 n₀ A n c zs hA hnb hg1 J Jx (fun s W m hs => hJ s W (W.drewN m) none hs ⟨rfl, rfl, rfl, Nat.le_refl _, fun _ _ _ => rfl⟩ (fun r e => by cases e)) hY W ((hW.cell (p := ⟨g1, 0, none⟩) (by show g1 < _; omega)).trans hb1) (hz.belowP hW fun hn b o e => by have := hA hn b o e; omega) h0
set_option maxRecDepth 100000 in
set_option maxHeartbeats 2000000 in
theorem apSeqB_in (N : Nat) (hn : 3 ≤ N) (g1 : Nat) (A : Option Addr) (n c : Nat) (zs : List Int) (hnb : n ≤ 1048576) (w : World) (hA : 0 < n → ∀ b o, A = some ⟨b, o, none⟩ → b < w.heap.size) (hg1 : g1 < w.heap.size) (hb1 : w.cell? ⟨g1, 0, none⟩ = some (.slice A n c)) (hz : Nums .u8 w A n c zs) :
    CallsIn Fence.wide N Try.prog 50 #[.slice none 0 0, .func (.func 47) #[] #[.pointer (some ⟨g1, 0, none⟩)]] w fun e W' => ∃ v, e = .returned v ∧ W'.ownsRow w.heap.size 5 1 v n ((List.range n).map (bytV zs)) ∧ Below w.heap.size w W' := by
  have h1 : 1 ≤ N := by omega
  obtain ⟨i0, hi, hz0, hz1, hz2⟩ := info_parts Try.infoU8b
  refine callsIn_of_wp_marks Try.func50 rfl trivial ?_ rfl
  simp only [Try.ntmps50, List.size_toArray, List.length_cons, List.length_nil, Nat.reduceAdd, Nat.reduceSub, Array.replicate_succ, Array.replicate_zero, List.push_toArray, List.append_toArray, List.nil_append, List.cons_append]
  gi_wp2
  have bO := Boxed.new w 22 (.slice none 0 0)
  have hB0 : Below w.heap.size w (w.alloc (.cells #[.slice none 0 0] 22)) := (Below.refl _ w).alloc (Nat.le_refl _) _
  refine wpIn_rangeFunc_ownG rfl h1 (gf := 47) (lb := #[.pointer (some ⟨g1, 0, none⟩)]) rfl trivial (enters_of Try.func47 (by kernel_rfl) rfl)
    (values_stops (N - 1) (by omega) g1 w.heap.size A n c zs hA hnb hg1 _ (by simp) ((hB0.cell (p := ⟨g1, 0, none⟩) hg1).trans hb1) (hz.belowP hB0 hA)) belowK_t (belowK_b (by simp)) (Below.refl _ _) (fun _ => rfl)
    (fun pre W => (∃ v, Boxed W w.heap.size 22 v ∧ W.ownsRow w.heap.size 5 1 v pre.length (pre.map (bytV zs)) ∧ (v = .slice none 0 0 ↔ pre = [])) ∧ Below w.heap.size w W)
    (fun _ _ _ => False)
    (OwnFrom.and (Own.from (holdsRow_own w.heap.size w.heap.size 22 5 1 (fun pre => pre.length) (fun pre => pre.map (bytV zs)) (fun pre v => v = .slice none 0 0 ↔ pre = [])) _) (ownFrom_below (Nat.le_refl _) (by simp)))
    (fun _ _ _ _ _ hs _ _ => hs)
    ⟨⟨_, bO, World.ownsRow_nil _ _ _ _, by simp⟩, hB0⟩
    (fun x => { tmps := #[.slice none 0 0, .func (.func 47) #[] #[.pointer (some ⟨g1, 0, none⟩)], .pointer (some ⟨w.heap.size, 0, none⟩), undef, .slice none 0 0, bytV zs x, .func (.func 47) #[] #[.pointer (some ⟨g1, 0, none⟩)], bytV zs x, undef, undef, undef, undef, undef], defers := [] }) ?assign ?body ?done ?stop
  case assign =>
    intro l x W K hK
    gi_wp2
    exact hK
  case body =>
    rintro l pre x W ⟨⟨v, hv, hrow, hnil⟩, hB⟩ hlt
    have hc := hv.cell
    obtain ⟨y, hV⟩ : ∃ y, bytV zs x = .int .u8 y := ⟨_, rfl⟩
    rw [hV]
    have HV := Lib.hid hV
    have HA := Lib.hid hA
    clear hV
    have hpl : pre.length ≤ 1048576 := by omega
    gi_wp2_with (gi_at_builtin; refine wpListIn_append_own _ rfl _ _ 22 rfl w.heap.size 5 i0 (.int .u8 0) 1 1 Try.underlying22 hi hz0 hz1 hz2 rfl (by decide) _ _ _ rfl (hrow.alloc _) ⟨W.heap.size, 0, none⟩ 1 1 [.int .u8 y] rfl rfl (cell_one_new _ _ _) (by simp [Value.oneCell']) (by unfold maxLen; omega) (by omega) (by have := hB.size; simp; omega) ?_; intro v' w1 hown' hgrow _; obtain ⟨g', cap', rfl⟩ := ownsRow_succ hown'; obtain ⟨hv1, hv2, hr2, hk2, hb2⟩ := hv.appended (by decide) hrow hB.size (Nat.le_refl _) hown' hgrow; have hc1 := hv1.cell; have hf1 := hv1.frozen)
    exact ⟨hk2.from _, hb2, ⟨_, hv2, by rw [List.map_append, List.length_append, List.map_singleton, HV.out]; exact hr2, by simp⟩, hB.trans hb2⟩
  case done =>
    rintro D ys W hD rfl ⟨⟨v, hv, hrow, hnil⟩, hB⟩ hK
    have hc := hv.cell
    gi_wp2
    refine ⟨by simp, .inl ⟨_, _, rfl, run_takeDeferred hK, ?_⟩⟩
    exact ⟨_, results_tmp rfl _ _ _, v, rfl, by simpa using ownsRow_putObj hrow _ hK rfl, hB.trans (belowK_b (w := w) (Nat.le_refl _) W D _ _ (by simp at hD; omega) hK rfl rfl)⟩
  case stop =>
    rintro D c pre W _ _ h _
    exact h.elim
theorem grow_of_below {w w' : World} (h : Below w.heap.size w w') : Grow w w' := ⟨h.os, h.tape, h.output, h.size, fun k hk _ => h.block k hk⟩
/-- slices.Collect(slices.Values(b)). -/
theorem collectB_is (w : World) (g1 : Nat) (A : Option Addr) (n c : Nat) (zs : List Int) (hnb : n ≤ 1048576) (hg1 : g1 < w.heap.size) (hb1 : w.cell? ⟨g1, 0, none⟩ = some (.slice A n c)) (hz : Nums .u8 w A n c zs) :
    Calls Try.prog 45 #[.func (.func 47) #[] #[.pointer (some ⟨g1, 0, none⟩)]] w fun e W' => ∃ v, e = .returned v ∧ W'.ownsRow w.heap.size 5 1 v n (zs.map (Value.int .u8)) ∧ Grow w W' := by
  have hA := hz.lt_heap
  have H := Lib.hid (callsIn_wide.1 (apSeqB_in 3 (by decide) g1 A n c zs hnb w hA hg1 hb1 hz))
  have hmap : (List.range n).map (bytV zs) = zs.map (Value.int .u8) := by
    have hl := hz.len
    apply List.ext_getElem?
    intro j
    by_cases hj : j < n
    · simp [bytV, hj, List.getD_eq_getElem?_getD, show j < zs.length by omega]
    · rw [List.getElem?_eq_none (by simp; omega), List.getElem?_eq_none (by simp; omega)]
  rw [hmap] at H
  clear hA hnb hg1 hb1 hz hmap
  go_enter Try.func45, Try.ntmps45
  go_wp2_with fail
  refine H.out.mono ?_
  rintro e w1 ⟨v, rfl, ho, hb⟩
  have HO := Lib.hid ho
  have HB := Lib.hid hb
  clear ho hb H
  go_wp2_with fail
  go_ret
  exact ⟨v, rfl, HO.out, grow_of_below HB.out⟩
end Go.Proofs.Yteccmnjcmmbhlaa
