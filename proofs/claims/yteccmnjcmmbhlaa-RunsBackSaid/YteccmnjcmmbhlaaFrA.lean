/- runs.row, (*row).take. -/
import Derived.Test.YteccmnjcmmbhlaaFrP
import Derived.Test.YteccmnjcmmbhlaaSoP
import Derived.Laws.CopyOwn
namespace Go.Proofs.Yteccmnjcmmbhlaa
open Go.RowKit
set_option linter.unusedVariables false
set_option linter.unusedSimpArgs false

theorem wpList_copy_keep {P : Program} {w : World} {ops : Array Oper} {rest : List Oper} {o : Oper} {a : Act} {Q : Exit → Act → World → Prop} (hgd : o.guard = none) (d s : Operand) (dT sT : TypeId)
    (ho : o.op = .call { callee := .builtin .copy, args := #[d, s], argTypes := #[dT, sT] }) (elem : TypeId) (hu : P.underlying dT = some (.slice elem)) (hsz : (P.info? elem).map (·.size) = some 1)
    (dp sp : Option Addr) (dLen dCap sLen sCap : Nat) (hd : a.eval d = .slice dp dLen dCap) (hs : a.eval s = .slice sp sLen sCap)
    (g off : Nat) (cur : List Value) (t : TypeId) (hg : w.heap[g]? = some (.cells cur.toArray t (0, 0))) (cs : List Value) (hn : cs.length = Nat.min sLen dLen)
    (hpos : 0 < cs.length → dp = some ⟨g, off, none⟩ ∧ ∃ ad, sp = some ad ∧ ∀ j v, cs[j]? = some v → w.cell? (ad.add j) = some v)
    (hfit : off + cs.length ≤ cur.length) (h1 : ∀ v ∈ cs, v.oneCell' = true)
    (h : ∀ w', Hid (w'.heap[g]? = some (.cells (splice cur off cs).toArray t (0, 0))) → Hid (Keeps (fun k => k = g) w w') → wpList P ops Q rest (a.put o.dst (goInt cs.length)) w') :
    wpList P ops Q (o :: rest) a w := by
  by_cases h0 : cs.length = 0
  · obtain rfl : cs = [] := List.eq_nil_of_length_eq_zero h0
    refine wpList_copy_nothing hgd d s dT sT ho elem hu hsz dp sp dLen dCap sLen sCap hd hs (by simpa using hn.symm) ?_
    exact h w (show _ = _ by simpa [splice] using hg) (show Keeps _ _ _ from Keeps.refl _ _)
  · obtain ⟨rfl, ad, rfl, hsrc⟩ := hpos (by omega)
    refine wpList_copy_own hgd d s dT sT ho elem hu hsz g off dLen dCap ad sLen sCap hd hs cur.toArray t hg cs hn hsrc (by simpa using hfit) h1 ?_
    exact h _ (show _ = _ by simpa [splice] using setRow_heap w g _ _ t _ hg) (show Keeps _ _ _ from ⟨rfl, rfl, rfl, by simp [World.setRow], fun k hk hne => setRow_other w g k _ hne⟩)

/-- The struct row: its first cells hold l, its last one how many. -/
def RowS (w : World) (g : Nat) (l : List Int) : Prop :=
  ∃ cur : List Value, w.heap[g]? = some (.cells cur.toArray 64 (0, 0)) ∧ cur.length = 257 ∧ cur[256]? = some (.int .i64 (l.length : Nat)) ∧ l.length ≤ 256 ∧ (∀ j, j < l.length → cur[j]? = some (.int .u8 (l.getD j 0))) ∧ ∀ x ∈ l, inKind .u8 x
theorem RowS.cell {w : World} {g : Nat} {l : List Int} (h : RowS w g l) {j : Nat} (hj : j < l.length) : w.cell? ⟨g, j, none⟩ = some (.int .u8 (l.getD j 0)) := by
  obtain ⟨cur, hh, hs, hn, hl, hc, _⟩ := h
  rw [blk_cell hh]; simpa using hc j hj
theorem RowS.n {w : World} {g : Nat} {l : List Int} (h : RowS w g l) : w.cell? ⟨g, 256, none⟩ = some (.int .i64 (l.length : Nat)) := by
  obtain ⟨cur, hh, hs, hn, hl, hc, _⟩ := h
  rw [blk_cell hh]; simpa using hn
theorem RowS.frz {w : World} {g : Nat} {l : List Int} (h : RowS w g l) (j : Nat) : w.frozen? ⟨g, j, none⟩ = false := by
  obtain ⟨cur, hh, _⟩ := h
  exact blk_frozen hh j
theorem RowS.le {w : World} {g : Nat} {l : List Int} (h : RowS w g l) : l.length ≤ 256 := h.choose_spec.2.2.2.1
theorem RowS.rng {w : World} {g : Nat} {l : List Int} (h : RowS w g l) : ∀ x ∈ l, inKind .u8 x := h.choose_spec.2.2.2.2.2
theorem RowS.lt {w : World} {g : Nat} {l : List Int} (h : RowS w g l) : g < w.heap.size := by
  obtain ⟨cur, hh, _⟩ := h
  exact blk_lt hh
theorem RowS.keep {w w' : World} {g : Nat} {l : List Int} {S : Nat → Prop} (h : RowS w g l) (k : Keeps S w w') (hg : ¬ S g) : RowS w' g l := by
  obtain ⟨cur, hh, r⟩ := h
  exact ⟨cur, block_keep hh k hg, r⟩
theorem RowS.drewN {w : World} {g : Nat} {l : List Int} (h : RowS w g l) (n : Nat) : RowS (w.drewN n) g l := h
theorem run_arr_mid {P : Program} {t e : TypeId} {n : Nat} {i : TypeInfo} (h1 : P.underlying t = some (.array n e)) (hi : P.info? e = some i) (hs : i.size = 1) (g lo m : Nat) (hlo : lo ≤ m) (hhi : m ≤ n) (hne : ¬ n = lo) (w : World) :
    (Instr.sliceAt t (.pointer (some ⟨g, 0, none⟩)) (some (.int .i64 lo)) (some (.int .i64 m)) none).run P w = .ok (.slice (some ⟨g, lo, none⟩) (m - lo) (n - lo)) w := by
  have h0 : (0 : Int) ≤ lo := by omega
  have h0' : (0 : Int) ≤ m := by omega
  have h2 : (lo : Int) ≤ m := by omega
  have h2' : (m : Int) ≤ n := by omega
  have h3 : ¬ m < lo := by omega
  have h4 : ¬ n < m := by omega
  simp [Instr.sliceAt, run_underlying h1, Instr.sliceBounds, Instr.sliceBound, asIntOf, h0, h0', h2, h2', h3, h4, hlo, hhi, sizeOf, typeInfo, hi, hs, hne, Instr.sureAddr, Addr.add_lit]
theorem run_arr_pre {P : Program} {t e : TypeId} {n : Nat} {i : TypeInfo} (h1 : P.underlying t = some (.array n e)) (hi : P.info? e = some i) (hs : i.size = 1) (g m : Nat) (hhi : m ≤ n) (w : World) :
    (Instr.sliceAt t (.pointer (some ⟨g, 0, none⟩)) none (some (.int .i64 m)) none).run P w = .ok (.slice (some ⟨g, 0, none⟩) m n) w := by
  have h0' : (0 : Int) ≤ m := by omega
  have h2' : (m : Int) ≤ n := by omega
  have h4 : ¬ n < m := by omega
  simp [Instr.sliceAt, run_underlying h1, Instr.sliceBounds, Instr.sliceBound, asIntOf, h0', h2', h4, hhi, sizeOf, typeInfo, hi, hs, Instr.sureAddr, Addr.add_lit]
theorem Try.sizeU8 : (Try.prog.info? 5).map (·.size) = some 1 := by kernel_rfl

set_option maxRecDepth 4000 in
set_option maxHeartbeats 2000000 in
theorem take_is (w : World) (g k : Nat) (l : List Int) (h : RowS w g l) (hk : k < l.length) :
    Calls Try.prog 39 #[.pointer (some ⟨g, 0, none⟩), .int .i64 (k : Nat)] w fun e w' => e = .returned (.int .u8 (l.getD k 0)) ∧ RowS w' g (takeP l k) ∧ Keeps (fun k => k = g) w w' := by
  have hl := h.le
  have ck := h.cell hk
  obtain ⟨x, hx⟩ : ∃ x, x = l.getD k 0 := ⟨_, rfl⟩
  rw [← hx] at ck ⊢
  obtain ⟨cur, hh, hcs, hcn, hll, hcl, hrl⟩ := h
  have hki : (k : Int) < 256 := by omega
  have hki2 : (k : Int) + 1 ≤ 256 := by omega
  have HX := Lib.hid hx
  have HL := Lib.hid (And.intro hcs (And.intro hcn (And.intro hll (And.intro hcl (And.intro hrl hk)))))
  have HH := Lib.hid hh
  clear hx hh hcs hcn hll hcl hrl
  go_enter Try.func39, Try.ntmps39
  go_upto_region 2 with fail
  have hy : Hv.Hyp2 Grow Grow (fun _ _ _ => True) := ⟨Keeps.refl _, fun _ _ _ h k => Keeps.trans h k fun _ _ h => h, fun _ _ _ _ _ _ => trivial, Keeps.refl _, fun _ _ _ h k => Keeps.trans h k fun _ _ h => h, fun _ _ h => h⟩
  have HY := Lib.hid hy
  clear hy
  refine Hv.wp_region_hav2 Grow Grow (fun _ _ _ => True) HY.out [5, 10] [1011] [(0, [0, 1, 2, 3, 4, 6, 7, 8, 9]), (1, [5]), (1, [10]), (4, [11])] [(0, 0, [?o0, ?o1, ?o2, ?o3, ?o4, ?o6, ?o7, ?o8, ?o9]), (1, 5, [?o5]), (1, 10, [?o10]), (4, 11, [?o11])] [?o0, ?o1, ?o2, ?o3, ?o4, ?o5, ?o6, ?o7, ?o8, ?o9, ?o10, ?o11] (by kernel_rfl) (by kernel_rfl) (by kernel_rfl) ?_
  have HHd : Hid (w.drew.heap[g]? = some (.cells cur.toArray 64 (0, 0))) := HH.out
  have HKd := Lib.hid ((Keeps.refl (fun k => k = g) w).drew)
  clear ck HH
  generalize w.drew = wd at *
  obtain ⟨cs, hcs⟩ : ∃ cs, cs = (l.take k).map (Value.int .u8) := ⟨_, rfl⟩
  have hcl : cs.length = k := by
    have := HL.out.2.2.2.2.2
    rw [hcs, List.length_map, List.length_take]; omega
  have hmin : cs.length = Nat.min k k := by rw [hcl]; exact (Nat.min_self k).symm
  have hfit : 1 + cs.length ≤ cur.length := by have := HL.out.1; omega
  have hone : ∀ v ∈ cs, v.oneCell' = true := fun v hv => by
    rw [hcs] at hv
    obtain ⟨y, _, rfl⟩ := List.mem_map.1 hv
    rfl
  have hsrc : ∀ j v, cs[j]? = some v → wd.cell? ((⟨g, 0, none⟩ : Addr).add j) = some v := fun j v hj => by
    have hjk : j < k := by have := (List.getElem?_eq_some_iff.1 hj).1; omega
    have hk := HL.out.2.2.2.2.2
    have h1 := HL.out.2.2.2.1 j (by omega)
    rw [hcs, List.getElem?_map, List.getElem?_take, if_pos hjk, List.getElem?_eq_getElem (by omega)] at hj
    rw [show ((⟨g, 0, none⟩ : Addr).add j) = ⟨g, j, none⟩ by simp [Addr.add_lit], blk_cell HHd.out j]
    rw [List.getElem?_toArray, h1, ← hj, List.getD_eq_getElem?_getD, List.getElem?_eq_getElem (by omega)]
    rfl
  have hsl : splice cur 1 cs = cur.take 1 ++ (cs ++ cur.drop (1 + cs.length)) := rfl
  have HCS := Lib.hid (And.intro hcs (And.intro hmin (And.intro hfit (And.intro hone (And.intro hsrc (And.intro hcl hsl))))))
  clear hcs hmin hfit hone hsrc hcl hsl
  have hs1 : ∀ w7 : World, (Instr.sliceAt 62 (.pointer (some ⟨g, 0, none⟩)) (some (.int .i64 1)) (some (.int .i64 ((k : Int) + 1))) none).run Try.prog w7 = .ok (.slice (some ⟨g, 1, none⟩) k 255) w7 := fun w7 => by
    have h9 := run_arr_mid Try.underlying62 (P := Try.prog) rfl rfl g 1 (k + 1) (by omega) (by omega) (by decide) w7
    rwa [Nat.add_sub_cancel, show ((k + 1 : Nat) : Int) = (k : Int) + 1 by omega] at h9
  have hs2 : ∀ w7 : World, (Instr.sliceAt 62 (.pointer (some ⟨g, 0, none⟩)) none (some (.int .i64 (k : Nat))) none).run Try.prog w7 = .ok (.slice (some ⟨g, 0, none⟩) k 256) w7 := fun w7 => run_arr_pre Try.underlying62 rfl rfl g k (by omega) w7
  refine Hv.seg_calm ?_
  go_wp2_with fail
  refine Hv.seg_held (by kernel_rfl) (.slice (some ⟨g, 1, none⟩) k 255) (fun w7 hk7 => ?_) ?_
  · go_simp
  refine Hv.seg_held (by kernel_rfl) (.slice (some ⟨g, 0, none⟩) k 256) (fun w7 hk7 => ?_) ?_
  · go_simp
  refine Hv.seg_last ?_
  refine wpList_copy_keep rfl (.tmp 17) (.tmp 22) 22 22 rfl 5 Try.underlying22 Try.sizeU8 (some ⟨g, 1, none⟩) (some ⟨g, 0, none⟩) k 255 k 256 rfl rfl g 1 cur 64 HHd.out cs HCS.out.2.1 (fun _ => ⟨rfl, _, rfl, HCS.out.2.2.2.2.1⟩) HCS.out.2.2.1 HCS.out.2.2.2.1 ?_
  intro w3 hg3 hk3
  have HK3 := Lib.hid (Keeps.trans HKd.out hk3.out fun _ _ h => h)
  clear hk3 HHd HKd
  clear hs1 hs2
  go_wp2_with fail
  refine Hv.seg_end ⟨by kernel_rfl, ?_⟩
  have hsp : (splice cur 1 cs).length = 257 := by rw [length_splice _ _ _ HCS.out.2.2.1]; exact HL.out.1
  have c0 : w3.cell? ⟨g, 0, none⟩ = some ((splice cur 1 cs)[0]'(by omega)) := by
    rw [blk_cell hg3.out 0, List.getElem?_toArray, List.getElem?_eq_getElem]
  have f0 : w3.frozen? ⟨g, 0, none⟩ = false := blk_frozen hg3.out 0
  obtain ⟨y0, hy0⟩ : ∃ y0, y0 = (splice cur 1 cs)[0]'(by omega) := ⟨_, rfl⟩
  rw [← hy0] at c0
  have HSP := Lib.hid hsp
  clear hy0 hsp
  have HW : Hid (RowS (w3.setCell ⟨g, 0, none⟩ (.int .u8 x)) g (takeP l k) ∧ Keeps (fun k => k = g) w (w3.setCell ⟨g, 0, none⟩ (.int .u8 x))) := by
    refine ⟨⟨(splice cur 1 cs).set 0 (.int .u8 x), ?_, ?_, ?_, ?_, ?_, ?_⟩, ?_⟩
    · have := blk_set hg3.out 0 (.int .u8 x)
      simpa using this
    · rw [List.length_set]; exact HSP.out
    · have h9 := HL.out.2.1
      rw [takeP_len hk, List.getElem?_set_ne (by omega)]
      unfold splice
      rw [List.getElem?_append_right (by rw [List.length_take]; omega), List.getElem?_append_right (by rw [List.length_take, HCS.out.2.2.2.2.2.1]; omega), List.getElem?_drop, HCS.out.2.2.2.2.2.1, List.length_take]
      rw [show 1 + k + (256 - min 1 cur.length - k) = 256 by have := HL.out.1; omega]
      exact h9
    · rw [takeP_len hk]; exact hl
    · intro j hj
      rw [takeP_len hk] at hj
      rw [takeP_get hk]
      rcases j with _ | j
      · rw [if_pos rfl, ← HX.out, List.getElem?_set_self (by have := HSP.out; omega)]
      · rw [if_neg (by omega), List.getElem?_set_ne (by omega)]
        unfold splice
        have hc1 := HL.out.1
        rw [List.getElem?_append_right (by rw [List.length_take]; omega), List.length_take, show j + 1 - min 1 cur.length = j by omega]
        by_cases hjk : j < k
        · rw [List.getElem?_append_left (by rw [HCS.out.2.2.2.2.2.1]; exact hjk), if_pos (by omega), HCS.out.1, List.getElem?_map, List.getElem?_take, if_pos hjk, Nat.add_sub_cancel, List.getElem?_eq_getElem (by omega), List.getD_eq_getElem?_getD, List.getElem?_eq_getElem (by omega)]
          rfl
        · rw [List.getElem?_append_right (by rw [HCS.out.2.2.2.2.2.1]; omega), if_neg (by omega), HCS.out.2.2.2.2.2.1, List.getElem?_drop, show 1 + k + (j - k) = j + 1 by omega]
          exact HL.out.2.2.2.1 (j + 1) hj
    · intro y hy
      rw [takeP_mem hk] at hy
      exact HL.out.2.2.2.2.1 y hy
    · exact Keeps.setCell (S := fun k => k = g) HK3.out (p := ⟨g, 0, none⟩) (fun _ => rfl) _
  go_wp2_with fail
  go_ret
  exact ⟨rfl, HW.out⟩
end Go.Proofs.Yteccmnjcmmbhlaa
