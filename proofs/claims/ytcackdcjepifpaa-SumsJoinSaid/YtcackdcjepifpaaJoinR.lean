/- The document's join: matrices of 32 registers. -/
import Derived.Test.YtcackdcjepifpaaJoin
import Derived.Deep.MidRow
namespace Go.Proofs.Ytcackdcjepifpaa
open Go.RowKit
set_option linter.unusedVariables false
set_option linter.unusedSimpArgs false

theorem zero_is (w : World) (r : Nat) (hr : r < 4294967296) :
    Calls Try.prog 20 #[.int .u32 r] w fun e w' => e = .returned (.int .u32 (ZZ r : Nat)) ∧ w = w' := by
  have h1 := and1_u32 r hr
  have hx : bits .xor .u32 ((r : Int) / 2) 3988292384 = ((r / 2 ^^^ 3988292384 : Nat) : Int) := xor_u32 (r / 2) 3988292384 (by omega) (by omega)
  have hz : ZZ r = if r % 2 = 1 then r / 2 ^^^ 3988292384 else r / 2 := rfl
  rcases Nat.mod_two_eq_zero_or_one r with hm | hm
  all_goals
    rw [hm] at hz h1
    clear hm
    simp only [if_true, Nat.zero_ne_one, if_false] at hz
    have HZ := Lib.hid hz
    clear hz hr
    go_enter Try.func20, Try.ntmps20
    go_wp2_with fail
    go_ret
    exact ⟨by rw [HZ.out]; rfl, rfl⟩
/-- A matrix as a value. -/
def mat (m : Nat → Nat) : Array Value := ((List.range 32).map fun i => Value.int .u32 (m i : Nat)).toArray

set_option maxHeartbeats 1000000 in
theorem of_is (w : World) (m : Nat → Nat) (hm : ∀ i, m i < 4294967296) (r : Nat) (hr : r < 4294967296) :
    Calls Try.prog 22 #[.agg (mat m), .int .u32 r] w fun e w' => e = .returned (.int .u32 (ofk m r 32 : Nat)) ∧ Grow w w' := by
  have hl := ofk_lt m hm r
  have HL := Lib.hid hl
  have HM := Lib.hid hm
  have HR := Lib.hid hr
  clear hl hm hr
  go_enter Try.func22, Try.ntmps22
  go_wp2_with fail
  obtain ⟨w1, hw1⟩ : ∃ w1, w1 = w.alloc (.cells (mat m) 40) := ⟨_, rfl⟩
  have hk : Grow w w1 := by subst hw1; exact (Keeps.refl _ _).alloc _
  have hc : Hid (∀ i, i < 32 → w1.cell? ⟨w.heap.size, i, none⟩ = some (.int .u32 (m i : Nat))) := by
    intro i hi
    have hb : w1.heap[w.heap.size]? = some (.cells (mat m) 40 (0, 0)) := by subst hw1; exact heap_alloc_new w _
    rw [blk_cell hb i]
    simp [mat, hi]
  rw [← hw1]
  clear hw1
  go_loopw [5, 6] (fun vx vi wr => ∃ (i : Nat), i ≤ 32 ∧ vi = .int .i64 i ∧ vx = .int .u32 (ofk m r i : Nat) ∧ wr = w1) (fun _ vi _ => 32 - (intOf vi).toNat)
  case atStart => exact ⟨0, by omega, rfl, rfl, rfl⟩
  case round =>
    obtain ⟨i, hi, rfl, rfl, rfl⟩ := hrel
    by_cases h32 : i < 32
    · have hci := hc.out i h32
      have hbit := bit_int r i HR.out
      have hx := xor_u32 (ofk m r i) (m i) (HL.out i) (HM.out i)
      have hst : Hid (ofk m r (i + 1) = if r.testBit i then ofk m r i ^^^ m i else ofk m r i) := rfl
      generalize ofk m r i = x at *
      generalize m i = y at *
      cases htb : r.testBit i
      all_goals
        rw [htb] at hst hbit
        simp only [Bool.toNat_false, Bool.toNat_true, if_true, if_false, Bool.false_eq_true] at hst hbit
        clear htb
        go_wp2_with fail
        go_roundw
        case rel => exact ⟨i + 1, by omega, by go_num, by rw [hst.out], by trivial⟩
        case measure => simp [intOf]; omega
    · obtain rfl : i = 32 := by omega
      go_wp2_with fail
      go_ret
      exact ⟨rfl, hk⟩
theorem mat_get (m : Nat → Nat) (i : Nat) (hi : i < 32) : (mat m)[i]? = some (.int .u32 (m i : Nat)) := by simp [mat, hi]
theorem mat_set (m : Nat → Nat) (i v : Nat) (hi : i < 32) : (mat m).setIfInBounds i (.int .u32 (v : Nat)) = mat (fun j => if j = i then v else m j) := by
  apply Array.ext_getElem?
  intro j
  by_cases hj : j < 32
  · rw [mat_get _ j hj, Array.getElem?_setIfInBounds]
    by_cases h : i = j
    · subst h; simp [mat, hi]
    · rw [if_neg h, mat_get _ j hj, if_neg (fun e => h e.symm)]
  · rw [Array.getElem?_eq_none (by simp [mat]; omega), Array.getElem?_eq_none (by simp [mat]; omega)]
/-- A block that is a matrix. -/
def Mt (w : World) (g : Nat) (m : Nat → Nat) : Prop := w.heap[g]? = some (.cells (mat m) 40 (0, 0))
theorem Mt.keep {S : Nat → Prop} {w w' : World} {g : Nat} {m : Nat → Nat} (h : Mt w g m) (k : Keeps S w w') (hg : ¬ S g) : Mt w' g m := block_keep h k hg
theorem Mt.cell {w : World} {g : Nat} {m : Nat → Nat} (h : Mt w g m) (i : Nat) (hi : i < 32) : w.cell? ⟨g, i, none⟩ = some (.int .u32 (m i : Nat)) := by rw [blk_cell h i]; exact mat_get m i hi
theorem Mt.range {w : World} {g : Nat} {m : Nat → Nat} (h : Mt w g m) : w.rangeAt g 0 (mat m).toList := fun j v hv => by
  rw [Nat.zero_add, blk_cell h j]
  simpa using hv
theorem Mt.load {w : World} {g : Nat} {m : Nat → Nat} (h : Mt w g m) : (Instr.loadAt 40 (.pointer (some ⟨g, 0, none⟩))).run Try.prog w = .ok (.agg (mat m)) w := by
  have := run_loadAt_mid (P := Try.prog) w g 0 40 (mat m).toList _ h.range Try.underlying40 rfl (by rw [show (mat m).toList.length = 32 from by simp [mat]]; kernel_rfl)
  simpa using this
theorem Mt.put {w : World} {g : Nat} {m : Nat → Nat} (h : Mt w g m) (i v : Nat) (hi : i < 32) : Mt (w.setCell ⟨g, i, none⟩ (.int .u32 (v : Nat))) g (fun j => if j = i then v else m j) := by
  unfold Mt
  rw [← mat_set m i v hi]
  exact blk_set h i _

def setAll (cs : Array Value) : Nat → List Value → Array Value
  | _, [] => cs
  | o, v :: r => setAll (cs.setIfInBounds o v) (o + 1) r
theorem blk_setCells {g : Nat} {t : TypeId} : ∀ (vs : List Value) (o : Nat) (w : World) (cs : Array Value), w.heap[g]? = some (.cells cs t (0, 0)) → (w.setCells g o vs).heap[g]? = some (.cells (setAll cs o vs) t (0, 0))
  | [], _, _, _, h => h
  | v :: r, o, w, cs, h => blk_setCells r (o + 1) _ _ (blk_set h o v)
theorem keeps_setCells {S : Nat → Prop} {g : Nat} (hg : S g) : ∀ (vs : List Value) (o : Nat) (w w1 : World), Keeps S w w1 → Keeps S w (w1.setCells g o vs)
  | [], _, _, _, h => h
  | v :: r, o, w, w1, h => keeps_setCells hg r (o + 1) w _ (h.setCell (p := ⟨g, o, none⟩) (fun _ => hg) v)
theorem setAll_get : ∀ (vs : List Value) (o : Nat) (cs : Array Value) (j : Nat), j < cs.size → (setAll cs o vs)[j]? = if o ≤ j ∧ j < o + vs.length then vs[j - o]? else cs[j]?
  | [], o, cs, j, _ => by
    rw [if_neg (by simp only [List.length_nil]; omega)]
    rfl
  | v :: r, o, cs, j, hj => by
    show (setAll (cs.setIfInBounds o v) (o + 1) r)[j]? = _
    rw [setAll_get r (o + 1) _ j (by simpa using hj), List.length_cons]
    by_cases h1 : o + 1 ≤ j ∧ j < o + 1 + r.length
    · rw [if_pos h1, if_pos (by omega), show j - o = (j - (o + 1)) + 1 from by omega, List.getElem?_cons_succ]
    · rw [if_neg h1, Array.getElem?_setIfInBounds]
      by_cases h2 : o = j
      · subst h2
        rw [if_pos rfl, if_pos (by omega), if_pos (by omega), Nat.sub_self]
        rfl
      · rw [if_neg h2, if_neg (by omega)]
theorem setAll_size : ∀ (vs : List Value) (o : Nat) (cs : Array Value), (setAll cs o vs).size = cs.size
  | [], _, _ => rfl
  | v :: r, o, cs => by
    show (setAll (cs.setIfInBounds o v) (o + 1) r).size = _
    rw [setAll_size r, Array.size_setIfInBounds]
theorem setAll_mat (m m' : Nat → Nat) : setAll (mat m) 0 (mat m').toList = mat m' := by
  have hs : ∀ m, (mat m).size = 32 := fun m => by simp [mat]
  apply Array.ext_getElem?
  intro j
  by_cases hj : j < 32
  · rw [setAll_get _ 0 _ j (by rw [hs]; exact hj), if_pos (by rw [Array.length_toList, hs]; omega), Nat.sub_zero]
    simp
  · rw [Array.getElem?_eq_none (by rw [setAll_size, hs]; omega), Array.getElem?_eq_none (by rw [hs]; omega)]
theorem mat_one (m : Nat → Nat) : (mat m).all (·.oneCell') = true := by
  rw [Array.all_eq_true_iff_forall_mem]
  intro v hv
  obtain ⟨i, _, rfl⟩ := List.mem_map.1 (by simpa [mat] using hv : v ∈ (List.range 32).map fun i => Value.int .u32 (m i : Nat))
  rfl
theorem Mt.there {w : World} {g : Nat} {m : Nat → Nat} (h : Mt w g m) (n : Nat) (hn : n = 32) : w.there g 0 n := fun j hj => by
  subst hn
  rw [Nat.zero_add]
  exact ⟨by rw [h.cell j hj]; rfl, blk_frozen h j⟩
theorem Mt.store {w : World} {g : Nat} {m : Nat → Nat} (h : Mt w g m) (m' : Nat → Nat) : (Instr.storeAt 40 (.pointer (some ⟨g, 0, none⟩)) (.agg (mat m'))).run Try.prog w = .ok () (w.setCells g 0 (mat m').toList) :=
  run_storeAt_mid (P := Try.prog) w g 0 40 (mat m') (h.there _ (by simp [mat])) (by rw [show (mat m').size = 32 from by simp [mat]]; kernel_rfl) (mat_one m')
theorem Mt.stored {w : World} {g : Nat} {m : Nat → Nat} (h : Mt w g m) (m' : Nat → Nat) : Mt (w.setCells g 0 (mat m').toList) g m' := by
  have := blk_setCells (mat m').toList 0 w (mat m) h
  rwa [setAll_mat] at this

section
variable {ops : Array Oper} {rest : List Oper} {op : Oper} {a : Act} {w : World} {Q : Exit → Act → World → Prop}
theorem wpList_load_mat (hg : op.guard = none) (x : Operand) (ho : op.op = .load 40 x) (g : Nat) (hx : a.eval x = .pointer (some ⟨g, 0, none⟩)) (m : Nat → Nat) (h : Mt w g m)
    (hk : wpList Try.prog ops Q rest (a.put op.dst (.agg (mat m))) w) : wpList Try.prog ops Q (op :: rest) a w := by
  have := wpList_load_mid (P := Try.prog) (ops := ops) (rest := rest) (Q := Q) hg 40 x ho g 0 hx (mat m).toList _ h.range Try.underlying40 rfl (by rw [show (mat m).toList.length = 32 from by simp [mat]]; kernel_rfl) (by simpa using hk)
  exact this
theorem wpList_store_mat (hg : op.guard = none) (x y : Operand) (ho : op.op = .store 40 x y) (g : Nat) (hx : a.eval x = .pointer (some ⟨g, 0, none⟩)) (m m' : Nat → Nat) (hy : a.eval y = .agg (mat m')) (h : Mt w g m)
    (hk : ∀ w', Mt w' g m' → Keeps (fun k => k = g) w w' → wpList Try.prog ops Q rest (a.put op.dst undef) w') : wpList Try.prog ops Q (op :: rest) a w :=
  wpList_store_mid hg 40 x y ho g 0 (mat m') hx hy (h.there _ (by simp [mat])) (by rw [show (mat m').size = 32 from by simp [mat]]; kernel_rfl) (mat_one m') (hk _ (h.stored m') (keeps_setCells (S := fun k => k = g) rfl _ _ _ _ (Keeps.refl _ _)))
end
theorem Mt.loadVar {w : World} {g : Nat} {m : Nat → Nat} (h : Mt w g m) : (loadVar 40 ⟨g, 0, none⟩).run Try.prog w = .ok (.agg (mat m)) w := by
  have := run_loadVar_mid (P := Try.prog) w g 0 40 (mat m).toList _ h.range Try.underlying40 rfl (by rw [show (mat m).toList.length = 32 from by simp [mat]]; kernel_rfl)
  simpa using this
theorem results_mat {w : World} {g : Nat} {m : Nat → Nat} {fn : Func} {t : Tmp} {tmps : Array Value} (hf : fn.results = #[.cell t 40]) (ht : tmps.getD t undef = .pointer (some ⟨g, 0, none⟩)) (h : Mt w g m) :
    (results fn tmps).run Try.prog w = .ok (.agg (mat m)) w := by
  have hl := h.loadVar
  unfold results
  rw [hf]
  have ht' : tmps[t]?.getD undef = .pointer (some ⟨g, 0, none⟩) := by rw [← ht]; simp
  simp [asAddr, ht', Sem.run_bind, hl]
theorem mat_zero : (#[.int .u32 0, .int .u32 0, .int .u32 0, .int .u32 0, .int .u32 0, .int .u32 0, .int .u32 0, .int .u32 0, .int .u32 0, .int .u32 0, .int .u32 0, .int .u32 0, .int .u32 0, .int .u32 0, .int .u32 0, .int .u32 0, .int .u32 0, .int .u32 0, .int .u32 0, .int .u32 0, .int .u32 0, .int .u32 0, .int .u32 0, .int .u32 0, .int .u32 0, .int .u32 0, .int .u32 0, .int .u32 0, .int .u32 0, .int .u32 0, .int .u32 0, .int .u32 0] : Array Value) = mat (fun _ => 0) := by rfl

set_option maxHeartbeats 1000000 in
theorem twice_is (w : World) (m : Nat → Nat) (hm : ∀ i, m i < 4294967296) :
    Calls Try.prog 21 #[.agg (mat m)] w fun e w' => e = .returned (.agg (mat fun i => ofk m (m i) 32)) ∧ Grow w w' := by
  have HM := Lib.hid hm
  clear hm
  go_enter Try.func21, Try.ntmps21
  go_wp2_with fail
  rw [mat_zero]
  obtain ⟨w1, hw1⟩ : ∃ w1, w1 = ((w.alloc (.cells (mat m) 40)).alloc (.cells (mat fun _ => 0) 40)).alloc (.cells (mat fun _ => 0) 40) := ⟨_, rfl⟩
  have hA : Mt w1 w.heap.size m := by subst hw1; exact Mt.keep (Mt.keep (w := w.alloc _) (heap_alloc_new w _) ((Keeps.refl (fun _ => False) _).alloc _) (fun h => h)) ((Keeps.refl (fun _ => False) _).alloc _) (fun h => h)
  have hB : Mt w1 (w.heap.size + 1) (fun _ => 0) := by
    subst hw1
    refine Mt.keep (w := (w.alloc _).alloc _) ?_ ((Keeps.refl (fun _ => False) _).alloc _) (fun h => h)
    have := heap_alloc_new (w.alloc (.cells (mat m) 40)) (.cells (mat fun _ => 0) 40)
    simpa [Mt] using this
  have hC : Mt w1 (w.heap.size + 1 + 1) (fun _ => 0) := by
    subst hw1
    have := heap_alloc_new ((w.alloc (.cells (mat m) 40)).alloc (.cells (mat fun _ => 0) 40)) (.cells (mat fun _ => 0) 40)
    simpa [Mt] using this
  have hK : Grow w w1 := by subst hw1; exact ((Keeps.refl (fun _ => False) _).alloc _).alloc _ |>.alloc _
  rw [← hw1]
  clear hw1
  go_loopw [4] (fun vi wr => ∃ (i : Nat), i ≤ 32 ∧ vi = .int .i64 i ∧ Mt wr w.heap.size m ∧ Mt wr (w.heap.size + 1) (fun _ => 0) ∧ Mt wr (w.heap.size + 1 + 1) (fun j => if j < i then ofk m (m j) 32 else 0) ∧ Grow w wr) (fun vi _ => 32 - (intOf vi).toNat)
  case atStart => exact ⟨0, by omega, rfl, hA, hB, by simpa using hC, hK⟩
  case round =>
    obtain ⟨i, hi, rfl, hA, hB, hC, hK⟩ := hrel
    by_cases h32 : i < 32
    · have h32' : (i : Int) < 32 := by omega
      go_wp2_with fail
      refine wp_region_hold (Keeps (fun k => k = w.heap.size + 1 + 1)) (Keeps.refl _) (fun _ _ _ h k => h.trans k (fun _ _ h => h)) [1, 4, 3, 6] [(0, [0, 2]), (1, [1]), (1, [3]), (1, [4]), (2, [5]), (1, [6]), (2, [7])] [(0, [?o0, ?o2]), (1, [?o1]), (1, [?o3]), (1, [?o4]), (2, [?o5]), (1, [?o6]), (2, [?o7])] [?o0, ?o1, ?o2, ?o3, ?o4, ?o5, ?o6, ?o7] (by kernel_rfl) (by kernel_rfl) (by kernel_rfl) ?_
      have hA5 : Mt wr.drew w.heap.size m := hA
      have hB5 : Mt wr.drew (w.heap.size + 1) (fun _ => 0) := hB
      have hC5 : Mt wr.drew (w.heap.size + 1 + 1) (fun j => if j < i then ofk m (m j) 32 else 0) := hC
      have hK5 : Grow w wr.drew := Keeps.drew hK
      clear hA hB hC hK
      generalize wr.drew = w5 at *
      refine seg_calm ?_
      go_wp2_with fail
      refine seg_held (by kernel_rfl) (.agg (mat m)) (fun w7 hk7 => ?_) ?_
      · exact held_load rfl (Mt.load (hA5.keep hk7 (by omega)))
      refine seg_held (by kernel_rfl) (.pointer (some ⟨w.heap.size, i, none⟩)) (fun w7 hk7 => ?_) ?_
      · go_simp
      refine seg_held (by kernel_rfl) (.int .u32 (m i : Nat)) (fun w7 hk7 => ?_) ?_
      · have hcc := (hA5.keep hk7 (by omega)).cell i h32
        go_simp
      refine seg_call ?_
      go_wp2_with fail
      refine (of_is w5 m HM.out (m i) (HM.out i)).mono ?_
      rintro e w6 ⟨rfl, k6⟩
      go_wp2_with fail
      refine ⟨Keeps.trans k6 (Keeps.refl _ _) (fun _ _ h => h) |> fun h => ⟨h.os, h.tape, h.output, h.size, fun k hk _ => h.block k hk (fun h => h)⟩, ?_⟩
      have hA6 := hA5.keep k6 (fun h => h)
      have hB6 := hB5.keep k6 (fun h => h)
      have hC6 := hC5.keep k6 (fun h => h)
      have hK6 : Grow w w6 := Grow.trans _ _ _ hK5 k6
      clear hA5 hB5 hC5 hK5 k6
      refine seg_held (by kernel_rfl) (.pointer (some ⟨w.heap.size + 1 + 1, i, none⟩)) (fun w7 hk7 => ?_) ?_
      · go_simp
      have hcc := hC6.cell i h32
      have hff := blk_frozen hC6 i
      refine seg_call ?_
      go_wp2_with fail
      refine ⟨(Keeps.refl (fun k => k = w.heap.size + 1 + 1) w6).setCell (p := ⟨w.heap.size + 1 + 1, i, none⟩) (fun _ => rfl) _, ?_⟩
      refine seg_end ⟨by kernel_rfl, ?_⟩
      have hC7 := hC6.put i (ofk m (m i) 32) h32
      have hA7 : Mt (w6.setCell ⟨w.heap.size + 1 + 1, i, none⟩ (.int .u32 (ofk m (m i) 32 : Nat))) w.heap.size m := hA6.keep ((Keeps.refl (fun k => k = w.heap.size + 1 + 1) w6).setCell (p := ⟨w.heap.size + 1 + 1, i, none⟩) (fun _ => rfl) _) (by omega)
      have hB7 : Mt (w6.setCell ⟨w.heap.size + 1 + 1, i, none⟩ (.int .u32 (ofk m (m i) 32 : Nat))) (w.heap.size + 1) (fun _ => 0) := hB6.keep ((Keeps.refl (fun k => k = w.heap.size + 1 + 1) w6).setCell (p := ⟨w.heap.size + 1 + 1, i, none⟩) (fun _ => rfl) _) (by omega)
      have hK7 : Grow w (w6.setCell ⟨w.heap.size + 1 + 1, i, none⟩ (.int .u32 (ofk m (m i) 32 : Nat))) := Keeps.setCell hK6 (p := ⟨w.heap.size + 1 + 1, i, none⟩) (fun h => by simp at h; omega) _
      clear hA6 hB6 hC6 hK6 hcc hff
      go_wp2_with fail
      go_roundw
      case rel =>
        refine ⟨i + 1, by omega, by go_num, hA7, hB7, ?_, hK7⟩
        have e : (fun j => if j = i then ofk m (m i) 32 else if j < i then ofk m (m j) 32 else 0) = fun j => if j < i + 1 then ofk m (m j) 32 else 0 := by
          funext j
          by_cases h1 : j = i
          · subst h1; rw [if_pos rfl, if_pos (by omega)]
          · rw [if_neg h1]
            by_cases h2 : j < i
            · rw [if_pos h2, if_pos (by omega)]
            · rw [if_neg h2, if_neg (by omega)]
        rw [← e]
        exact hC7
      case measure => simp [intOf]; omega
    · obtain rfl : i = 32 := by omega
      go_upto_region 6 with fail
      have hC' : Mt wr (w.heap.size + 1 + 1) (fun i => ofk m (m i) 32) := by
        have e : mat (fun j => if j < 32 then ofk m (m j) 32 else 0) = mat (fun i => ofk m (m i) 32) := by
          apply Array.ext_getElem?
          intro j
          by_cases hj : j < 32
          · rw [mat_get _ j hj, mat_get _ j hj, if_pos hj]
          · rw [Array.getElem?_eq_none (by simp [mat]; omega), Array.getElem?_eq_none (by simp [mat]; omega)]
        unfold Mt at hC ⊢
        rw [← e]
        exact hC
      refine wp_region_lit ?_
      refine wpList_load_mat rfl (.tmp 3) rfl (w.heap.size + 1 + 1) rfl _ hC' ?_
      refine wpList_store_mat rfl (.tmp 2) (.tmp 16) rfl (w.heap.size + 1) rfl _ _ rfl hB ?_
      intro w9 hM hK9
      go_wp2_with fail
      refine bodyPost_ret (results_mat (t := 2) rfl rfl hM) rfl ⟨rfl, Keeps.trans hK hK9 (fun j hj h => by omega)⟩
end Go.Proofs.Ytcackdcjepifpaa
