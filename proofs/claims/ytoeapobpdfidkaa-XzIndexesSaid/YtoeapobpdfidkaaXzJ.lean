/- hamperlaw16: refs, spoilt, names. -/
import Derived.Test.YtoeapobpdfidkaaXzI
import Derived.Test.YtoeapobpdfidkaaHav
namespace Go.Proofs.Ytoeapobpdfidkaa
open Go.RowKit
set_option linter.unusedVariables false
set_option linter.unusedSimpArgs false

theorem own_cell {w : World} {B e n g cap : Nat} {k : IntKind} {cur : Array Value} {xs : List Int} (hl : xs.length = n) (hcs : cur.size = cap * 1) (htake : cur.toList.take (n * 1) = xs.map (Value.int k)) (j : Nat) (hj : j < n) : cur[j]? = some (.int k (xs.getD j 0)) := by
  have h1 : (cur.toList.take (n * 1))[j]? = (xs.map (Value.int k))[j]? := by rw [htake]
  have hx : xs[j]? = some (xs.getD j 0) := by simp [List.getD_eq_getElem?_getD, show j < xs.length by omega]
  rw [List.getElem?_take, if_pos (by omega), List.getElem?_map, hx] at h1
  simpa using h1
theorem names16_is (w : World) : Calls Try.prog 43 #[] w fun e w' => e = .returned (.bool true) ∧ w = w' := by
  go_enter Try.func43, Try.ntmps43
  go_wp2_with fail
  go_ret
  exact ⟨rfl, rfl⟩
set_option maxRecDepth 4000 in
set_option maxHeartbeats 2000000 in
theorem spoilt16_is (w : World) (B B2 : Nat) (A A2 : Option Addr) (n c c2 : Nat) (xs : List Int) (h : w.ownsRow B 5 1 (.slice A n c) n (xs.map (Value.int .u8))) (h2 : w.ownsRow B2 5 1 (.slice A2 n c2) n (xs.map (Value.int .u8))) :
    Calls Try.prog 42 #[.slice A n c, .slice A2 n c2] w fun e w' => e = .returned (.bool true) ∧ Keeps (fun k => (Value.slice A n c).ownBlock = some k) w w' := by
  have hl : xs.length = n := by have := h.1; simp at this; exact this
  have hcv1 := run_str_src (P := Try.prog) (w := w) (xs := xs) Try.underlying51 Try.underlying5 Try.underlying9 (src_own h (fun u hu => by obtain ⟨y, _, rfl⟩ := List.mem_map.1 hu; rfl))
  have hcv2 := run_str_src (P := Try.prog) (w := w) (xs := xs) Try.underlying51 Try.underlying5 Try.underlying9 (src_own h2 (fun u hu => by obtain ⟨y, _, rfl⟩ := List.mem_map.1 hu; rfl))
  generalize strOfNums xs = Z at *
  rcases h.2 with ⟨hv, rfl⟩ | ⟨g, cap, cur, hv, hg, hh, hnc, hcm, hcs, htake⟩
  · injection hv with hv _ hc
    subst hv hc
    clear h h2
    go_enter Try.func42, Try.ntmps42
    go_wp2_with fail
    go_loopw [5] (fun vi wr => vi = .int .i64 0 ∧ w = wr) (fun _ _ => 0)
    case atStart => exact ⟨rfl, rfl⟩
    case round =>
      obtain ⟨rfl, rfl⟩ := hrel
      go_wp2_with fail
      go_ret
      exact ⟨rfl, Keeps.refl _ _⟩
  · injection hv with hv _ hc
    subst hv hc
    have HC := Lib.hid (own_cell (w := w) (B := B) (e := 0) (g := g) hl hcs htake)
    have hsz : n ≤ cur.size := by omega
    have hn : n ≤ 9223372036854775807 := by simp only [maxLen] at hcm; omega
    generalize hS : (fun k => (Value.slice (some ⟨g, 0, none⟩) n c).ownBlock = some k) = S
    have HS : Hid (∀ k, S k ↔ g = k) := fun k => by rw [← hS]; simp [Value.ownBlock]
    clear h h2 htake hcs hS
    go_enter Try.func42, Try.ntmps42
    go_wp2_with fail
    clear hcv1 hcv2
    go_loopw [5] (fun vi wr => ∃ (i : Nat) (cs : Array Value), vi = .int .i64 i ∧ i ≤ n ∧ Hid (wr.heap[g]? = some (.cells cs 5 (0, 0))) ∧ n ≤ cs.size ∧ Hid (∀ j, i ≤ j → cs[j]? = cur[j]?) ∧ Hid (Keeps S w wr)) (fun vi _ => n - (intOf vi).toNat)
    case atStart => exact ⟨0, cur, rfl, by omega, hh, hsz, fun _ _ => rfl, Keeps.refl _ _⟩
    case round =>
      obtain ⟨i, cs, rfl, hi, HB, hcz, HE, HK⟩ := hrel
      by_cases hin : i < n
      · have c1 : wr.cell? ⟨g, i, none⟩ = some (.int .u8 (xs.getD i 0)) := by rw [blk_cell HB.out, HE.out i (Nat.le_refl _), HC.out i hin]
        have f1 := blk_frozen HB.out i
        generalize xs.getD i 0 = x at *
        go_wp2_with fail
        go_roundw
        case rel =>
          refine ⟨i + 1, _, by go_num, by omega, blk_set HB.out i _, by simpa using hcz, fun j hj => ?_, ?_⟩
          · rw [← HE.out j (by omega)]
            exact Array.getElem?_setIfInBounds_ne (by omega)
          · exact HK.out.setCell (p := ⟨g, i, none⟩) (fun _ => (HS.out g).2 rfl) _
        case measure => simp [intOf]; omega
      · obtain rfl : n = i := by omega
        go_wp2_with fail
        go_ret
        exact ⟨rfl, HK.out⟩
theorem hyP (S : Nat → Prop) (s t : Int) : Hv.Hyp2 (Keeps S) Grow (fun _ v w' => ∃ b, v = .slice (some ⟨b, 0, none⟩) 1 1 ∧ ¬ S b ∧ w'.heap[b]? = some (.cells #[.int .i64 s, .int .i64 t] 77 (0, 0))) :=
  ⟨Keeps.refl S, fun _ _ _ h k => Keeps.trans h k fun _ _ h => h, fun _ v w1 w2 h q => by
      obtain ⟨b, hv, hg, hh⟩ := h
      exact ⟨b, hv, hg, by rw [q.block b (Array.getElem?_eq_some_iff.1 hh).1 hg]; exact hh⟩,
    Keeps.refl _, fun _ _ _ h k => Keeps.trans h k fun _ _ h => h, fun _ _ h => ⟨h.os, h.tape, h.output, h.size, fun k hk _ => h.block k hk (fun h => h)⟩⟩
theorem src_pair {w : World} {g : Nat} {a b : Value} {t : TypeId} (h : w.heap[g]? = some (.cells #[a, b] t (0, 0))) (ha : a.oneCell' = true) (hb : b.oneCell' = true) : Src w 2 (some ⟨g, 0, none⟩) 1 1 [a, b] := by
  refine ⟨rfl, fun h => (by cases h), fun ad hA j u hu => ?_, fun u hu => ?_⟩
  · injection hA with hA
    subst hA
    rw [Addr.add_mid, Nat.zero_add, blk_cell h]
    simpa using hu
  · simp at hu
    rcases hu with rfl | rfl <;> assumption
set_option maxRecDepth 8000 in
set_option maxHeartbeats 4000000 in
theorem refs16_is (w : World) (A : Option Addr) (n c : Nat) (l : List (Int × Int)) (h : Recs w A n c l) (hn : n ≤ 8796093022208) :
    Calls Try.prog 39 #[.slice A n c] w fun e w' => ∃ A' c', e = .returned (.slice A' n c') ∧ Recs w' A' n c' l ∧ Grow w w' := by
  have H := Lib.hid h
  have HN : Hid (n ≤ 8796093022208) := hn
  have hni : (n : Int) ≤ 8796093022208 := by omega
  clear h hn
  go_enter Try.func39, Try.ntmps39
  go_wp2_with fail
  go_loopw [3, 4] (fun vo vi wr => ∃ (i : Nat) (A2 : Option Addr) (c2 : Nat), i ≤ n ∧ vi = .int .i64 i ∧ vo = .slice A2 i c2 ∧ Hid (wr.ownsRow w.heap.size 77 2 (.slice A2 i c2) i (recC (l.take i))) ∧ Hid (Grow w wr)) (fun _ vi _ => n - (intOf vi).toNat)
  case atStart => exact ⟨0, none, 0, Nat.zero_le _, rfl, rfl, World.ownsRow_nil _ _ _ _, Keeps.refl _ _⟩
  case round =>
    obtain ⟨i, A2, c2, hi, rfl, rfl, HO, HG⟩ := hrel
    by_cases hin : i < n
    · obtain ⟨b, o, rfl, hc⟩ := H.out.at_ (by omega)
      have hr := hc i hin
      have hlt : i < l.length := by rw [H.out.len]; exact hin
      obtain ⟨s, hs⟩ : ∃ s, s = (l.getD i (0, 0)).1 := ⟨_, rfl⟩
      obtain ⟨t, ht⟩ : ∃ t, t = (l.getD i (0, 0)).2 := ⟨_, rfl⟩
      have hli : l[i]? = some (s, t) := by rw [hs, ht, List.getD_eq_getElem?_getD, List.getElem?_eq_getElem hlt]; rfl
      rw [← hs, ← ht] at hr
      have hbl : b < w.heap.size := World.block_lt_of_cell? w _ hr.1
      have HC := Lib.hid hr
      have HLI := Lib.hid hli
      have hin' : (i : Int) < (n : Int) := by omega
      have hib : i ≤ 8796093022208 := by have := HN.out; omega
      have hii : (i : Int) ≤ 8796093022208 := by omega
      obtain ⟨S, hS⟩ : ∃ S : Nat → Prop, S = fun j => (Value.slice A2 i c2).ownBlock = some j := ⟨_, rfl⟩
      have hsb : ¬ S b := fun h9 => by
        rw [hS] at h9
        have := own_ge HO.out b h9
        omega
      have HSB := Lib.hid hsb
      have HSe := Lib.hid hS
      clear hc hr hlt hs ht hli hbl hsb hS
      go_upto_region 5 with fail
      refine Hv.wp_region_hav2 (Keeps S) Grow (fun _ v w' => ∃ b, v = .slice (some ⟨b, 0, none⟩) 1 1 ∧ ¬ S b ∧ w'.heap[b]? = some (.cells #[.int .i64 s, .int .i64 t] 77 (0, 0))) (hyP S s t) [5, 10] [12, 1013] [(0, [0, 1, 2, 3, 4, 6, 7, 8, 9]), (1, [5]), (1, [10]), (2, [11]), (3, [12]), (4, [13]), (0, [14])] [(0, 0, [?o0, ?o1, ?o2, ?o3, ?o4, ?o6, ?o7, ?o8, ?o9]), (1, 5, [?o5]), (1, 10, [?o10]), (2, 11, [?o11]), (3, 12, [?o12]), (4, 13, [?o13]), (0, 14, [?o14])] [?o0, ?o1, ?o2, ?o3, ?o4, ?o5, ?o6, ?o7, ?o8, ?o9, ?o10, ?o11, ?o12, ?o13, ?o14] (by kernel_rfl) (by kernel_rfl) (by kernel_rfl) ?_
      have HOd := Lib.hid (show wr.drew.ownsRow _ _ _ _ _ _ from HO.out)
      have hg9 : Grow w wr.drew := HG.out.drew
      have HGd := Lib.hid hg9
      have HCd : Hid (∀ w7, Keeps S wr.drew w7 → w7.cell? ⟨b, o + i * 2, none⟩ = some (.int .i64 s) ∧ w7.cell? ⟨b, o + i * 2 + 1, none⟩ = some (.int .i64 t)) := fun w7 h7 =>
        ⟨ckp (ckp HC.out.1 hg9 (fun h => h)) h7 HSB.out, ckp (ckp HC.out.2 hg9 (fun h => h)) h7 HSB.out⟩
      have KD : Keeps S wr.drew wr.drew := Keeps.refl _ _
      clear HO HG HC hg9
      generalize wr.drew = wd at *
      refine Hv.seg_calm ?_
      go_wp2_with fail
      refine Hv.seg_held (by kernel_rfl) (.int .i64 s) (fun w7 hk7 => ?_) ?_
      · have c7 := (HCd.out w7 hk7).1
        go_simp
      refine Hv.seg_held (by kernel_rfl) (.int .i64 t) (fun w7 hk7 => ?_) ?_
      · have c7 := (HCd.out w7 hk7).2
        go_simp
      refine Hv.seg_call (fun w2 q2 => ?_)
      go_wp2_with fail
      refine ⟨Keeps.refl _ _, ?_⟩
      replace KD : Keeps S wd w2 := Keeps.trans KD q2 fun _ _ h => h.elim
      refine Hv.seg_free (by kernel_rfl) KD ⟨23, rfl, by simp⟩ (fun w4 q4 => ?_) (fun v w4 q4 hV => ?_)
      · go_wp2_with fail
        exact ⟨_, rfl, (Keeps.refl _ _).alloc _, w4.heap.size, rfl, fun h => by rw [HSe.out] at h; have := (HOd.out.lt _ h).2; have := q4.size; have := q2.size; omega, heap_alloc_new _ _⟩
      obtain ⟨g, rfl, _, hh⟩ := hV
      have HO3 := Lib.hid (owns_keep (owns_keep HOd.out q2 fun _ _ h => h) q4 fun _ _ h => h)
      have HG3 : Hid (Grow w w4) := Grow.trans _ _ _ (Grow.trans _ _ _ HGd.out q2) q4
      have hz4 : w.heap.size ≤ w4.heap.size := HG3.out.size
      have hsrc := Lib.hid (src_pair hh rfl rfl)
      clear q2 q4 KD hh
      refine Hv.seg_last ?_
      go_wp2_with (at_builtin; refine wpList_appS rfl (.tmp 11) (.tmp 23) 68 77 rfl Try.underlying68 Try.infoXrR rfl (by decide) w.heap.size _ i _ rfl HO3.out hz4 _ 1 1 _ rfl hsrc.out (by unfold maxLen; omega) (by omega) ?_)
      intro A3 c3 w5 ho5 hk5 _
      have HO5 : Hid (w5.ownsRow w.heap.size 77 2 (.slice A3 (i + 1) c3) (i + 1) (recC (l.take (i + 1)))) := by
        show World.ownsRow _ _ _ _ _ _ _
        rw [List.take_add_one, HLI.out]
        show World.ownsRow _ _ _ _ _ _ (recC (l.take i ++ [(s, t)]))
        rw [recC_snoc]
        exact ho5
      have HG5 := Lib.hid (grow_own HG3.out HO3.out (Nat.le_refl _) hk5)
      clear ho5 hk5
      go_wp2_with fail
      refine Hv.seg_calm ?_
      go_wp2_with fail
      refine Hv.seg_end ⟨by kernel_rfl, ?_⟩
      go_wp2_with fail
      go_roundw
      case rel => exact ⟨i + 1, A3, c3, by omega, by go_num, rfl, HO5.out, HG5.out⟩
      case measure => simp [intOf]; omega
    · obtain rfl : i = n := by omega
      have q1 : decide ((i : Int) < (i : Int)) = false := decide_eq_false (by omega)
      go_wp2_with fail
      go_ret
      have h9 := HO.out
      rw [List.take_of_length_le (by rw [H.out.len]; exact Nat.le_refl _)] at h9
      exact ⟨A2, c2, rfl, Recs.of_own h9 H.out.rng, HG.out⟩
end Go.Proofs.Ytoeapobpdfidkaa
