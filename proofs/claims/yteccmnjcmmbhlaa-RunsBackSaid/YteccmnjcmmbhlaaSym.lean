/- runs.Symbols, the program's and the document's. -/
import Derived.Test.YteccmnjcmmbhlaaIdxF
namespace Go.Proofs.Yteccmnjcmmbhlaa
open Go.RowKit
set_option linter.unusedVariables false
set_option linter.unusedSimpArgs false

theorem Try.infoI64 : (Try.prog.info? 3).map (fun i => (i.zero, i.size, i.bytes)) = some (some (.int .i64 0), 1, 8) := by kernel_rfl
theorem row_form {w : World} {b e size n : Nat} {v : Value} {xs : List Value} (h : w.ownsRow b e size v n xs) : ∃ A c, v = .slice A n c := by
  rcases h.2 with ⟨rfl, rfl⟩ | ⟨g, cap, cur, rfl, _⟩
  · exact ⟨none, 0, rfl⟩
  · exact ⟨_, cap, rfl⟩

theorem cell_keep {S : Nat → Prop} {w w' : World} {p : Addr} {u : Value} (h : w.cell? p = some u) (k : Keeps S w w') (hp : ¬ S p.block) : w'.cell? p = some u := by
  rw [← h]
  exact World.cell?_of_block (k.block _ (World.block_lt_of_cell? w _ h) hp)

theorem src_one {w : World} {g : Nat} {u : Value} {e : TypeId} (h : w.heap[g]? = some (.cells #[u] e (0, 0))) (h1 : u.oneCell' = true) : Src w 1 (some ⟨g, 0, none⟩) 1 1 [u] := by
  refine ⟨rfl, (fun h => nomatch h), fun ad e2 j y hj => ?_, fun y hy => by rw [List.mem_singleton.1 hy]; exact h1⟩
  injection e2 with e2
  subst e2
  match j, hj with
  | 0, hj =>
    injection hj with hj
    subst hj
    exact blk_cell h 0

/-- A run of so many noughts, written shorter. -/
def shortL : Nat → List Int
  | 0 => []
  | n + 1 => (((n + 1 + 1) % 2 : Nat) : Int) :: shortL (n / 2)
theorem shortL_pos (r : Nat) (h : 0 < r) : shortL r = (((r + 1) % 2 : Nat) : Int) :: shortL ((r - 1) / 2) := by
  obtain ⟨n, rfl⟩ : ∃ n, r = n + 1 := ⟨r - 1, by omega⟩
  rw [shortL]
  rfl
theorem shortL_len (r : Nat) : (shortL r).length ≤ r := by
  induction r using Nat.strongRecOn with
  | ind r ih =>
    by_cases h : 0 < r
    · rw [shortL_pos r h, List.length_cons]
      have := ih ((r - 1) / 2) (by omega)
      omega
    · obtain rfl : r = 0 := by omega
      simp [shortL]

set_option maxRecDepth 4000 in
set_option maxHeartbeats 1000000 in
theorem short_is (B : Nat) (w : World) (v : Value) (n r : Nat) (xs : List Int) (h : w.ownsRow B 3 1 v n (xs.map (Value.int .i64))) (hB : B ≤ w.heap.size) (hn : n + r ≤ 17592186044416) :
    Calls Try.prog 33 #[v, .int .i64 r] w fun e w' => ∃ A c m, e = .returned (.slice A m c) ∧ m = n + (shortL r).length ∧ w'.ownsRow B 3 1 (.slice A m c) m ((xs ++ shortL r).map (Value.int .i64)) ∧ Keeps (fun k => v.ownBlock = some k) w w' := by
  obtain ⟨A, c, rfl⟩ := row_form h
  have H := Lib.hid h
  clear h
  generalize hS : (fun k => (Value.slice A n c).ownBlock = some k) = S
  have HS0 : Hid (∀ k, (Value.slice A n c).ownBlock = some k → S k) := fun k h => by rw [← hS]; exact h
  clear hS
  go_enter Try.func33, Try.ntmps33
  go_wp2_with fail
  go_loopw [0, 1] (fun vo vr wr => ∃ (ys : List Int) (s m : Nat), vr = .int .i64 s ∧ s ≤ r ∧ m + s ≤ 17592186044416 ∧ wr.ownsRow B 3 1 vo m (ys.map (Value.int .i64)) ∧ B ≤ wr.heap.size ∧ Hid (ys ++ shortL s = xs ++ shortL r) ∧ Hid (Keeps S w wr) ∧ Hid (∀ k, vo.ownBlock = some k → S k ∨ w.heap.size ≤ k)) (fun _ vr _ => (intOf vr).toNat)
  case atStart => exact ⟨xs, r, n, rfl, by omega, by omega, H.out, hB, rfl, Keeps.refl _ _, fun k h => .inl (HS0.out k h)⟩
  case round =>
    obtain ⟨ys, s, m, rfl, hsr, hms, ho, hz, he, hG, hM⟩ := hrel
    obtain ⟨A1, c1, rfl⟩ := row_form ho
    have HO := Lib.hid ho
    clear ho
    by_cases hs : 0 < s
    · have HS := Lib.hid (shortL_pos s hs)
      have e2 : ((s : Int) + 1) % 2 = (((s + 1) % 2 : Nat) : Int) := by omega
      have e3 : ((s : Int) - 1) / 2 = (((s - 1) / 2 : Nat) : Int) := by omega
      obtain ⟨b, hb⟩ : ∃ b : Nat, b = (s + 1) % 2 := ⟨_, rfl⟩
      obtain ⟨t, ht⟩ : ∃ t : Nat, t = (s - 1) / 2 := ⟨_, rfl⟩
      rw [← hb] at e2 HS
      rw [← ht] at e3 HS
      have hts : t < s := by omega
      clear hb ht
      go_wp2_with (at_builtin; refine wpList_app1 rfl (.tmp 10) (.tmp 14) 28 3 rfl Try.underlying28 Try.infoI64 rfl B _ m _ rfl HO.out hz rfl rfl (by unfold maxLen; omega) (by omega) ?_)
      intro g cap w1 ho1 hk1 hm1
      have HO1 : Hid (w1.ownsRow B 3 1 (.slice (some ⟨g, 0, none⟩) (m + 1) cap) (m + 1) ((ys ++ [(b : Int)]).map (Value.int .i64))) := by
        show World.ownsRow _ _ _ _ _ _ _
        rw [List.map_append]
        exact ho1
      have HG1 : Hid (Keeps S w w1) := Keeps.trans hG.out hk1 fun i hi hk => (hM.out i hk).elim id fun h => by omega
      have HM1 : Hid (∀ k, (Value.slice (some ⟨g, 0, none⟩) (m + 1) cap).ownBlock = some k → S k ∨ w.heap.size ≤ k) := fun k hk => by
        have hk : g = k := by simpa [Value.ownBlock] using hk
        subst hk
        rcases hm1 with h | h
        · exact hM.out _ h
        · exact .inr (Nat.le_trans hG.out.size h)
      clear hm1
      have hz1 : B ≤ w1.heap.size := Nat.le_trans hz hk1.size
      clear ho1 hk1
      go_wp2_with fail
      go_roundw
      case rel => exact ⟨_, t, m + 1, by go_num, by omega, by omega, HO1.out, hz1, by show _ = _; rw [← he.out, HS.out]; simp, HG1, HM1⟩
      case measure => simp [intOf]; omega
    · obtain rfl : s = 0 := by omega
      go_wp2_with fail
      go_ret
      have h1 := he.out
      rw [show shortL 0 = [] from by simp [shortL], List.append_nil] at h1
      have hl : ys.length = m := by have := HO.out.1; simpa using this
      have hlx : xs.length = n := by have := H.out.1; simpa using this
      refine ⟨A1, c1, m, rfl, ?_, ?_, hG.out⟩
      · rw [← hl, h1, List.length_append, hlx]
      · rw [← h1]; exact HO.out

def badP (n p : Int) : Bool := decide (p < 0 ∨ n ≤ p)
def symGo : List Int → List Int → Nat → List Int × Nat
  | [], out, run => (out, run)
  | p :: r, out, run => if p = 0 then symGo r out (run + 1) else symGo r (out ++ shortL run ++ [p + 1]) 0
def symR (ps : List Int) (n : Int) : List Int × Int :=
  if n < 1 ∨ 256 < n ∨ ps.any (badP n) = true then ([], 2) else ((symGo ps [] 0).1 ++ shortL (symGo ps [] 0).2 ++ [n + 1], 0)
theorem symGo_drop (ps : List Int) (i : Nat) (h : i < ps.length) (out : List Int) (run : Nat) :
    symGo (ps.drop i) out run = if ps.getD i 0 = 0 then symGo (ps.drop (i + 1)) out (run + 1) else symGo (ps.drop (i + 1)) (out ++ shortL run ++ [ps.getD i 0 + 1]) 0 := by
  have e : ps.drop i = ps.getD i 0 :: ps.drop (i + 1) := by
    rw [List.drop_eq_getElem_cons h]
    simp [List.getD_eq_getElem?_getD, h]
  rw [e]
  rfl
theorem any_in (ps : List Int) (p : Int → Bool) (h : ps.any p = false) (i : Nat) (hi : i < ps.length) : p (ps.getD i 0) = false := by
  have := List.any_eq_false.1 h (ps.getD i 0) (by simp [List.getD_eq_getElem?_getD, hi])
  simpa using this

theorem bad_is (w : World) (x n : Int) (g : Nat) (hx : inKind .i64 x) (hc : w.cell? ⟨g, 0, none⟩ = some (.int .i64 n)) : Calls Try.prog 32 #[.int .i64 x, .pointer (some ⟨g, 0, none⟩)] w fun e w' => e = .returned (.bool (badP n x)) ∧ w = w' := by
  have hx := inKind_i64 hx
  have hB : badP n x = decide (x < 0 ∨ n ≤ x) := rfl
  generalize badP n x = B at *
  by_cases h0 : x < 0
  · obtain rfl : B = true := by rw [hB]; simp; omega
    clear hB
    go_enter Try.func32, Try.ntmps32
    go_wp2_with fail
    go_ret
    exact ⟨rfl, rfl⟩
  · obtain rfl : B = decide (n ≤ x) := by rw [hB]; simp; omega
    clear hB
    go_enter Try.func32, Try.ntmps32
    go_wp2_with fail
    go_ret
    exact ⟨rfl, rfl⟩
theorem bad_tells (w : World) (n : Int) (g : Nat) (hc : w.cell? ⟨g, 0, none⟩ = some (.int .i64 n)) : Tells Try.prog w (.func (.func 32) #[] #[.pointer (some ⟨g, 0, none⟩)]) (badP n) :=
  ⟨32, #[.pointer (some ⟨g, 0, none⟩)], rfl, fun args w' => by go_simp, fun x hx => bad_is w x n g hx hc⟩

set_option maxRecDepth 4000 in
set_option maxHeartbeats 2000000 in
theorem symbols_is (w : World) (A : Option Addr) (m c : Nat) (ps : List Int) (n : Int) (h : Nums .i64 w A m c ps) (hn : inKind .i64 n) (hm : m ≤ 8796093022208) :
    Calls Try.prog 16 #[.slice A m c, .int .i64 n] w fun e w' => ∃ A' c' k, e = .returned (.tuple #[.slice A' k c', .int .i64 (symR ps n).2]) ∧ w'.ownsRow w.heap.size 3 1 (.slice A' k c') k ((symR ps n).1.map (Value.int .i64)) ∧ Grow w w' := by
  have hn := inKind_i64 hn
  have HL := Lib.hid h.len
  have hk1 : Grow w (w.alloc (.cells #[.int .i64 n] 3)) := (Keeps.refl _ w).alloc _
  have hc1 : (w.alloc (.cells #[.int .i64 n] 3)).cell? ⟨w.heap.size, 0, none⟩ = some (.int .i64 n) := blk_cell (heap_alloc_new w _) 0
  have HC := Lib.hid (containsFunc_is _ A m c ps _ (badP n) (h.grow hk1) (by omega) (bad_tells _ n _ hc1))
  have hR : Hid (symR ps n = if n < 1 ∨ 256 < n ∨ ps.any (badP n) = true then ([], 2) else ((symGo ps [] 0).1 ++ shortL (symGo ps [] 0).2 ++ [n + 1], 0)) := rfl
  have H := Lib.hid (h.grow hk1)
  have HK1 := Lib.hid hk1
  have HC1 := Lib.hid hc1
  generalize symR ps n = R at *
  clear h hk1 hc1
  by_cases h1 : n < 1
  · have hR2 : R = ([], 2) := by rw [hR.out, if_pos (.inl h1)]
    subst hR2
    go_enter Try.func16, Try.ntmps16
    go_wp2_with fail
    go_ret2
    exact ⟨none, 0, 0, rfl, own_nil _ _ _, HK1.out⟩
  by_cases h2 : 256 < n
  · have hR2 : R = ([], 2) := by rw [hR.out, if_pos (.inr (.inl h2))]
    subst hR2
    go_enter Try.func16, Try.ntmps16
    go_wp2_with fail
    go_ret2
    exact ⟨none, 0, 0, rfl, own_nil _ _ _, HK1.out⟩
  cases h3 : ps.any (badP n)
  case true =>
    have hR2 : R = ([], 2) := by rw [hR.out, if_pos (.inr (.inr h3))]
    subst hR2
    rw [h3] at HC
    clear h3
    go_enter Try.func16, Try.ntmps16
    go_wp2_with fail
    refine HC.out.mono ?_
    rintro e w1 ⟨rfl, rfl⟩
    go_wp2_with fail
    go_ret2
    exact ⟨none, 0, 0, rfl, own_nil _ _ _, HK1.out⟩
  have hR2 : R = ((symGo ps [] 0).1 ++ shortL (symGo ps [] 0).2 ++ [n + 1], 0) := by rw [hR.out, if_neg (by rw [h3]; simp; omega)]
  have HR := Lib.hid hR2
  have HA := Lib.hid (any_in ps (badP n) h3)
  rw [h3] at HC
  clear hR2 h3
  go_enter Try.func16, Try.ntmps16
  go_wp2_with fail
  refine HC.out.mono ?_
  rintro e w1 ⟨rfl, rfl⟩
  go_wp2_with fail
  generalize w.alloc (.cells #[.int .i64 n] 3) = wb at *
  have hbl : ¬ wb.heap.size ≤ w.heap.size := by have := World.block_lt_of_cell? wb _ HC1.out; simp at this; omega
  go_loopw [6, 7, 9, 23] (fun vo vr _ vi wr => ∃ (i run k : Nat) (out : List Int), i ≤ m ∧ vi = .int .i64 i ∧ vr = .int .i64 run ∧ k + run ≤ i ∧ wr.ownsRow wb.heap.size 3 1 vo k (out.map (Value.int .i64)) ∧ Grow wb wr ∧ Hid (symGo (ps.drop i) out run = symGo ps [] 0)) (fun _ _ _ vi _ => m - (intOf vi).toNat)
  case atStart => exact ⟨0, 0, 0, [], by omega, rfl, rfl, by omega, own_nil _ _ _, Keeps.refl _ _, rfl⟩
  case round =>
    obtain ⟨i, run, k, out, hi, rfl, rfl, hkr, ho, hg, he⟩ := hrel
    obtain ⟨A1, c1, rfl⟩ := row_form ho
    have HO := Lib.hid ho
    have HG := Lib.hid hg
    have hsz : wb.heap.size ≤ wr.heap.size := hg.size
    have H1 := Lib.hid (H.out.grow hg)
    have HC2 := Lib.hid (cell_keep HC1.out hg (fun h => h))
    clear ho hg
    by_cases him : i < m
    · have Hd := Lib.hid (symGo_drop ps i (by rw [HL.out]; exact him) out run)
      have hbd : Hid (badP n (ps.getD i 0) = false) := HA.out i (by rw [HL.out]; exact him)
      have hp : 0 ≤ ps.getD i 0 ∧ ps.getD i 0 < 256 := by have := of_decide_eq_false hbd.out; omega
      clear hbd
      obtain ⟨ba, oa, rfl, hcell⟩ := H1.out.at_ (by omega)
      have hc := hcell i him
      clear hcell
      generalize ps.getD i 0 = p at *
      by_cases hp0 : p = 0
      · subst hp0
        have Hd2 := Hd.out
        rw [if_pos rfl] at Hd2
        clear Hd
        have HD := Lib.hid Hd2
        clear Hd2
        go_wp2_with fail
        go_roundw
        case rel => exact ⟨i + 1, run + 1, k, out, by omega, by go_num, by go_num, by omega, HO.out, HG.out, by show _ = _; rw [← HD.out]; exact he.out⟩
        case measure => simp [intOf]; omega
      · have Hd2 := Hd.out
        rw [if_neg hp0] at Hd2
        clear Hd
        have HD := Lib.hid Hd2
        clear Hd2
        have HS := Lib.hid (short_is wb.heap.size wr _ k run out HO.out hsz (by omega))
        have HL2 := Lib.hid (shortL_len run)
        go_wp2_with fail
        refine HS.out.mono ?_
        rintro e w1 ⟨A2, c2, k2, rfl, hk2, ho2, hg2⟩
        have HG2 := Lib.hid (grow_own HG.out HO.out (Nat.le_refl _) hg2)
        have hz2 : wb.heap.size ≤ w1.heap.size := HG2.out.size
        have HO2 := Lib.hid ho2
        have HK2 := Lib.hid hk2
        clear ho2 hg2 hk2
        go_wp2_with (at_builtin; refine wpList_app1 rfl (.tmp 33) (.tmp 36) 28 3 rfl Try.underlying28 Try.infoI64 rfl wb.heap.size _ k2 _ rfl HO2.out hz2 rfl rfl (by have := HL2.out; have := HK2.out; unfold maxLen; omega) (by have := HL2.out; have := HK2.out; omega) ?_)
        intro g cap w2 ho3 hk3 _
        have HO3 : Hid (w2.ownsRow wb.heap.size 3 1 (.slice (some ⟨g, 0, none⟩) (k2 + 1) cap) (k2 + 1) ((out ++ shortL run ++ [p + 1]).map (Value.int .i64))) := by
          show World.ownsRow _ _ _ _ _ _ _
          simp only [List.map_append, List.append_assoc]
          exact ho3
        have HG3 := Lib.hid (grow_own HG2.out HO2.out (Nat.le_refl _) hk3)
        clear ho3 hk3
        go_wp2_with fail
        go_roundw
        case rel => exact ⟨i + 1, 0, k2 + 1, _, by omega, by go_num, rfl, by have := HL2.out; have := HK2.out; omega, HO3.out, HG3.out, by show _ = _; rw [← HD.out]; exact he.out⟩
        case measure => simp [intOf]; omega
    · obtain rfl : m = i := by omega
      have HS := Lib.hid (fun w2 (h2 : Grow wr w2) => short_is wb.heap.size w2 _ k run out (owns_keep HO.out h2 fun _ _ h => h) (Nat.le_trans hsz h2.size) (by omega))
      have he2 := he.out
      rw [List.drop_eq_nil_of_le (by rw [HL.out]; omega)] at he2
      have he3 : symGo ps [] 0 = (out, run) := he2.symm
      have HR2 : Hid (R = (out ++ shortL run ++ [n + 1], 0)) := by
        show _ = _
        rw [HR.out, he3]
      clear he2 he3 HR he
      obtain ⟨S, hS⟩ : ∃ S : Nat → Prop, S = fun j => (Value.slice A1 k c1).ownBlock = some j := ⟨_, rfl⟩
      have HSb : Hid (∀ k, S k → wb.heap.size ≤ k) := fun j hj => own_ge HO.out j (by rw [hS] at hj; exact hj)
      have hy : Hv.Hyp2 (Keeps S) Grow (fun _ v w' => ∃ g, v = .slice (some ⟨g, 0, none⟩) 1 1 ∧ ¬ S g ∧ w'.heap[g]? = some (.cells #[.int .i64 (n + 1)] 3 (0, 0))) :=
        ⟨Keeps.refl S, fun _ _ _ h k => Keeps.trans h k fun _ _ h => h, fun _ v w1 w2 h q => by
            obtain ⟨g, hv, hg, hh⟩ := h
            exact ⟨g, hv, hg, by rw [q.block g (Array.getElem?_eq_some_iff.1 hh).1 hg]; exact hh⟩,
          Keeps.refl _, fun _ _ _ h k => Keeps.trans h k fun _ _ h => h, fun _ _ h => ⟨h.os, h.tape, h.output, h.size, fun k hk _ => h.block k hk (fun h => h)⟩⟩
      have HY := Lib.hid hy
      have HSe := Lib.hid hS
      clear hy hS
      go_wp2_with fail
      refine Hv.wp_region_hav2 (Keeps S) Grow (fun _ v w' => ∃ g, v = .slice (some ⟨g, 0, none⟩) 1 1 ∧ ¬ S g ∧ w'.heap[g]? = some (.cells #[.int .i64 (n + 1)] 3 (0, 0))) HY.out [3] [5, 1006] [(0, [0, 1]), (1, [3]), (0, [4]), (2, [2]), (3, [5]), (4, [6]), (0, [7, 8])] [(0, 0, [?o0, ?o1]), (1, 3, [?o3]), (0, 4, [?o4]), (2, 2, [?o2]), (3, 5, [?o5]), (4, 6, [?o6]), (0, 7, [?o7, ?o8])] [?o0, ?o1, ?o2, ?o3, ?o4, ?o5, ?o6, ?o7, ?o8] (by kernel_rfl) (by kernel_rfl) (by kernel_rfl) ?_
      have HOd := Lib.hid (show wr.drew.ownsRow _ _ _ _ _ _ from HO.out)
      have HCd := Lib.hid (show wr.drew.cell? _ = _ from HC2.out)
      have HGd : Hid (Grow wb wr.drew) := HG.out.drew
      have KD : Keeps S wr.drew wr.drew := Keeps.refl _ _
      have KR : Grow wr wr.drew := (Keeps.refl _ _).drew
      clear HC2 HO HG hsz H1
      generalize wr.drew = wd at *
      have HL2 := Lib.hid (shortL_len run)
      refine Hv.seg_calm ?_
      go_wp2_with fail
      refine Hv.seg_held (by kernel_rfl) (.int .i64 n) (fun w7 hk7 => ?_) ?_
      · have hc7 := cell_keep HCd.out hk7 (fun h => hbl (HSb.out _ h))
        go_simp
      refine Hv.seg_calm ?_
      go_wp2_with fail
      refine Hv.seg_call (fun w2 q2 => ?_)
      go_wp2_with fail
      refine (HS.out w2 (Keeps.trans KR q2 fun _ _ h => h)).mono ?_
      rintro e w3 ⟨A2, c2, k2, rfl, hk2, ho2, hg2⟩
      rw [← HSe.out] at hg2
      have HG2 := Lib.hid (grow_own (Keeps.trans HGd.out q2 fun _ _ h => h) (owns_keep HOd.out q2 fun _ _ h => h) (Nat.le_refl _) (by rw [← HSe.out]; exact hg2))
      have HO2 := Lib.hid ho2
      have HK2 := Lib.hid hk2
      clear ho2 hk2
      go_wp2_with fail
      refine ⟨hg2, ?_⟩
      replace KD : Keeps S wd w3 := Keeps.trans (Keeps.trans KD q2 fun _ _ h => h.elim) hg2 fun _ _ h => h
      clear KR q2 hg2
      refine Hv.seg_free (by kernel_rfl) KD ⟨44, rfl, by simp⟩ (fun w4 q4 => ?_) (fun v w4 q4 hV => ?_)
      · go_wp2_with fail
        exact ⟨_, rfl, (Keeps.refl _ _).alloc _, w4.heap.size, rfl, fun h => by have := (HOd.out.lt _ (by rw [HSe.out] at h; exact h)).2; have := q4.size; omega, heap_alloc_new _ _⟩
      obtain ⟨g, rfl, _, hh⟩ := hV
      have HO3 := Lib.hid (owns_keep HO2.out q4 fun _ _ h => h)
      have HG3 : Hid (Grow wb w4) := Keeps.trans HG2.out q4 fun _ _ h => h
      have hz4 : wb.heap.size ≤ w4.heap.size := HG3.out.size
      have hsrc := Lib.hid (src_one hh rfl)
      clear q4 KD hh
      refine Hv.seg_last ?_
      go_wp2_with (at_builtin; refine wpList_appS rfl (.tmp 41) (.tmp 44) 28 3 rfl Try.underlying28 Try.infoI64 rfl (by decide) wb.heap.size _ k2 _ rfl HO3.out hz4 _ 1 1 _ rfl hsrc.out (by have := HL2.out; have := HK2.out; unfold maxLen; omega) (by have := HL2.out; have := HK2.out; omega) ?_)
      intro A3 c3 w5 ho5 hk5 _
      have HO5 : Hid (w5.ownsRow wb.heap.size 3 1 (.slice A3 (k2 + 1) c3) (k2 + 1) ((out ++ shortL run ++ [n + 1]).map (Value.int .i64))) := by
        show World.ownsRow _ _ _ _ _ _ _
        simp only [List.map_append, List.append_assoc]
        try simp only [List.map_append, List.append_assoc] at ho5
        exact ho5
      have HG5 := Lib.hid (grow_own HG3.out HO3.out (Nat.le_refl _) hk5)
      clear ho5 hk5
      go_wp2_with fail
      refine Hv.seg_calm ?_
      go_wp2_with fail
      refine Hv.seg_end ⟨by kernel_rfl, ?_⟩
      go_wp2_with fail
      go_ret2
      rw [HR2.out]
      exact ⟨A3, c3, k2 + 1, rfl, owns_any_base HO5.out (by omega), Keeps.trans HK1.out HG5.out fun _ _ h => h⟩
end Go.Proofs.Yteccmnjcmmbhlaa
