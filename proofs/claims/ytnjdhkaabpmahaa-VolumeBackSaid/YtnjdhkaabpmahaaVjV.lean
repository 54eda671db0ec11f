/- volume: the law's rows, lent and kept. -/
import Derived.Test.YtnjdhkaabpmahaaVjU
namespace Go.Proofs.Ytnjdhkaabpmahaa
open Go.RowKit
set_option linter.unusedVariables false
set_option linter.unusedSimpArgs false

theorem sum1 : ∀ x : List Int, (List.map (fun _ => 1) x).sum = x.length
  | [] => rfl
  | y :: r => by
    have := sum1 r
    simp only [List.map_cons, List.sum_cons, List.length_cons, this]
    omega
theorem bulk2 : ∀ l : List (List Int), (List.map (fun y : List Int => (List.map (fun _ => 1) y).sum + 1) l).sum = (l.map List.length).sum + l.length
  | [] => rfl
  | y :: r => by
    have := bulk2 r
    simp only [List.map_cons, List.sum_cons, List.length_cons, sum1] at this ⊢
    omega
theorem len_le_sum : ∀ (l : List (List Int)) (j : Nat), (l.getD j []).length ≤ (l.map List.length).sum
  | [], j => by simp
  | y :: r, 0 => by simp
  | y :: r, j + 1 => by
    have := len_le_sum r j
    rw [List.getD_cons_succ]
    simp only [List.map_cons, List.sum_cons]
    omega
theorem rows_of_rd {w : World} {A : Option Addr} {c : Nat} {l : List (List Int)} (h : Sh.Rd w (.sl 24 (.sl 1 (.int .u8))) [.slice A l.length c] l) (hb : Sh.bulk (.sl 24 (.sl 1 (.int .u8))) l ≤ 1048576) :
    RowsR w A l.length c l ∧ (l.map List.length).sum + l.length ≤ 1048575 := by
  have hb2 : (List.map (fun y : List Int => (List.map (fun _ => 1) y).sum + 1) l).sum + 1 ≤ 1048576 := hb
  rw [bulk2] at hb2
  obtain ⟨a, cap, e, h1, h2, h3, hn, h4⟩ := h
  injection e with e _
  injection e with e1 _ e3
  subst e1
  subst e3
  refine ⟨⟨rfl, h1, hn, fun hpos => ?_, fun j hj => by have := len_le_sum l j; omega, by omega, by omega⟩, by omega⟩
  obtain ⟨b, off, ea, _, hel⟩ := h4 hpos
  refine ⟨b, off, ea, fun j hj => ?_⟩
  have hg : l[j]? = some (l.getD j []) := by rw [List.getD_eq_getElem?_getD, List.getElem?_eq_getElem hj]; rfl
  obtain ⟨cs, hl, hc, hr⟩ := hel j _ hg
  have hr0 := hr
  obtain ⟨a', cap', e', r1⟩ := hr0
  have hc0 := hc 0 (by show 0 < 1; decide)
  have e0 : off + (j * Sh.size (.sl 1 (.int .u8)) + 0) = off + j := by show off + (j * 1 + 0) = off + j; omega
  rw [e0, e'] at hc0
  rw [e'] at hr
  exact ⟨a', cap', hc0, (Nums.of_rd hr).1⟩
/-- Rows that stand ahead of a byte 0x5a each. -/
structure LentR (w : World) (A : Option Addr) (n c : Nat) (l : List (List Int)) : Prop where
  len : l.length = n
  cap : n ≤ c
  nil : A = none → c = 0
  at_ : 0 < n → ∃ b, A = some ⟨b, 0, none⟩ ∧ ∀ j, j < n → ∃ A' c', w.cell? ⟨b, j, none⟩ = some (.slice A' (l.getD j []).length c') ∧ (l.getD j []).length + 1 ≤ c' ∧ Nums .u8 w A' ((l.getD j []).length + 1) c' (l.getD j [] ++ [90])
theorem LentR.grow {w w' : World} {A : Option Addr} {n c : Nat} {l : List (List Int)} (h : LentR w A n c l) (k : Grow w w') : LentR w' A n c l :=
  ⟨h.len, h.cap, h.nil, fun hn => by
    obtain ⟨b, e, hc⟩ := h.at_ hn
    refine ⟨b, e, fun j hj => ?_⟩
    obtain ⟨A', c', h1, h2, h3⟩ := hc j hj
    exact ⟨A', c', ckp h1 k (fun h => h), h2, h3.grow k⟩⟩
theorem LentR.rows {w : World} {A : Option Addr} {n c : Nat} {l : List (List Int)} (h : LentR w A n c l) (hb : (l.map List.length).sum + l.length ≤ 1048575) : RowsR w A n c l :=
  ⟨h.len, h.cap, h.nil, fun hn => by
    obtain ⟨b, e, hc⟩ := h.at_ hn
    refine ⟨b, 0, e, fun j hj => ?_⟩
    obtain ⟨A', c', h1, h2, h3⟩ := hc j hj
    have h4 := h3.take (l.getD j []).length (by omega)
    rw [List.take_left' rfl] at h4
    rw [Nat.zero_add]
    exact ⟨A', c', h1, h4⟩, fun j hj => by have := len_le_sum l j; omega, by have := h.len; omega, by omega⟩
abbrev LP := Nat × Nat × List Int
def lV (t : LP) : Value := .slice (some ⟨t.1, 0, none⟩) t.2.2.length t.2.1
def fV (t : LP) : Value := .slice (some ⟨t.1, 0, none⟩) (t.2.2.length + 1) t.2.1
structure LentS (w : World) (B : Nat) (v : Value) (L : List LP) : Prop where
  row : w.ownsRow B 24 1 v L.length (L.map lV)
  each : ∀ t ∈ L, w.ownsRow B 5 1 (fV t) (t.2.2.length + 1) ((t.2.2 ++ [90]).map (Value.int .u8))
  rng : ∀ t ∈ L, ∀ x ∈ t.2.2, inKind .u8 x
theorem LentS.grow {w w' : World} {B : Nat} {v : Value} {L : List LP} (h : LentS w B v L) (k : Grow w w') : LentS w' B v L :=
  ⟨owns_keep h.row k fun _ _ h => h, fun t ht => owns_keep (h.each t ht) k fun _ _ h => h, h.rng⟩
theorem fv_far {w : World} {B : Nat} {v : Value} {n : Nat} {xs ys : List Value} {t : LP} (hr : w.ownsRow B 24 1 v n xs) (ht : w.ownsRow B 5 1 (fV t) (t.2.2.length + 1) ys) : ∀ i, (fV t).ownBlock = some i → ¬ (v.ownBlock = some i) := fun i hi h9 => by
  rcases ht.2 with ⟨e, _⟩ | ⟨g, cap, cur, e, _, hh, _⟩
  · exact absurd hi (by rw [e]; simp [Value.ownBlock])
  · rw [e] at hi
    have hi : g = i := by simpa [Value.ownBlock] using hi
    subst hi
    exact row_ne hr hh (by decide) h9
theorem LentS.lentR {w : World} {B : Nat} {A : Option Addr} {n c : Nat} {L : List LP} (h : LentS w B (.slice A n c) L) (hn : L.length = n) : LentR w A n c (L.map fun t => t.2.2) := by
  have hrow := h.row
  rw [hn] at hrow
  refine ⟨by simpa using hn, ?_, fun e => ?_, fun hpos => ?_⟩
  · rcases hrow.2 with ⟨hv, h0⟩ | ⟨g, cap, cur, hv, _, _, hnc, _⟩
    · omega
    · injection hv with _ _ e; omega
  · subst e
    rcases hrow.2 with ⟨hv, h0⟩ | ⟨g, cap, cur, hv, _⟩
    · injection hv with _ _ e
    · cases hv
  · rcases hrow.2 with ⟨hv, h0⟩ | ⟨g, cap, cur, hv, _, hh, _⟩
    · omega
    · injection hv with e1 _ _
      refine ⟨g, e1, fun j hj => ?_⟩
      subst e1
      have hc := hrow.cellAt j (by omega)
      obtain ⟨t, ht⟩ : ∃ t, L[j]? = some t := ⟨_, List.getElem?_eq_getElem (by omega)⟩
      have hg : (L.map fun t => t.2.2).getD j [] = t.2.2 := by rw [List.getD_eq_getElem?_getD, List.getElem?_map, ht]; rfl
      rw [hg]
      have hm := List.mem_of_getElem? ht
      have he := h.each t hm
      have hcp : t.2.2.length + 1 ≤ t.2.1 := by
        rcases he.2 with ⟨hv, _⟩ | ⟨g, cap, cur, hv, _, _, hnc, _⟩
        · cases hv
        · injection hv with _ _ e; omega
      refine ⟨some ⟨t.1, 0, none⟩, t.2.1, ?_, hcp, Nums.of_own he fun x hx => ?_⟩
      · rw [hc, List.getElem?_map, ht]; rfl
      · rcases List.mem_append.1 hx with h1 | h1
        · exact h.rng t hm x h1
        · rw [List.mem_singleton.1 h1]; exact mk_u8 (by decide) (by decide)
set_option maxRecDepth 8000 in
set_option maxHeartbeats 2000000 in
theorem lent_is (w : World) (A : Option Addr) (n c : Nat) (l : List (List Int)) (h : RowsR w A n c l) (hb : (l.map List.length).sum + l.length ≤ 1048575) :
    Calls Try.prog 6 #[.slice A n c] w fun e w' => ∃ A' c', e = .returned (.slice A' n c') ∧ LentR w' A' n c' l ∧ Grow w w' := by
  have HN := Lib.hid h
  have hni : (n : Int) ≤ 1048576 := by have := h.few; omega
  have HB := Lib.hid (fun j => Nat.le_trans (len_le_sum l j) (show (l.map List.length).sum ≤ 1048575 by omega))
  clear h hb
  go_enter Try.func6, Try.ntmps6
  go_wp2_with fail
  go_loopw [3, 4, 5] (fun vo vi _ wr => ∃ (i : Nat) (A2 : Option Addr) (c2 : Nat) (L : List LP), i ≤ n ∧ vi = .int .i64 (i : Nat) ∧ vo = .slice A2 i c2 ∧ Hid (LentS wr w.heap.size (.slice A2 i c2) L) ∧ Hid (L.map (fun t => t.2.2) = l.take i ∧ L.length = i) ∧ Hid (Grow w wr)) (fun _ vi _ _ => n - (intOf vi).toNat)
  case atStart => exact ⟨0, none, 0, [], Nat.zero_le _, rfl, rfl, ⟨own_nil _ _ _, fun t ht => (by cases ht), fun t ht => (by cases ht)⟩, ⟨rfl, rfl⟩, Keeps.refl _ _⟩
  case round =>
    obtain ⟨i, A2, c2, L, hi, rfl, rfl, HS, HL, HG⟩ := hrel
    by_cases hin : i < n
    · have hin' : (i : Int) < (n : Int) := by omega
      obtain ⟨b, o, rfl, hc⟩ := HN.out.at_ (by omega)
      obtain ⟨A', c', h1, h2⟩ := hc i hin
      obtain ⟨y, hy⟩ : ∃ y, y = l.getD i [] := ⟨_, rfl⟩
      obtain ⟨m, hm⟩ : ∃ m, m = y.length := ⟨_, rfl⟩
      rw [← hy, ← hm] at h1 h2
      have hmb : m ≤ 1048575 := by rw [hm, hy]; exact HB.out i
      have hmi : (m : Int) ≤ 1048575 := by omega
      have hka := (Keeps.refl (fun _ => False) wr).alloc (.cells #[] 5)
      have HCL : Hid (∀ w2, Grow wr w2 → w2.cell? ⟨b, o + i, none⟩ = some (.slice A' m c')) := fun w2 k => ckp (ckp h1 HG.out (fun h => h)) k (fun h => h)
      have HSR := Lib.hid ((h2.grow HG.out).grow hka).src
      have HYE : Hid (y = l.getD i [] ∧ m = y.length ∧ ∀ x ∈ y, inKind .u8 x) := ⟨hy, hm, h2.rng⟩
      have ho0 := own_none wr 5
      have hcl := HCL.out _ hka
      have HKA := Lib.hid hka
      clear hc h1 h2 hy hm hka
      go_wp2_with (at_builtin; refine wpList_appS rfl (.tmp 12) (.tmp 16) 24 5 rfl Try.underlying24 Try.infoU8l rfl (by decide) wr.heap.size _ 0 _ rfl ho0 (by simp) A' m c' _ rfl HSR.out (by unfold maxLen; omega) (by omega) ?_)
      intro A1 c1 wa ho1 k1 _
      (try simp only [Nat.zero_add, List.nil_append] at ho1)
      (try simp only [Nat.zero_add])
      have HGa : Hid (Grow wr wa) := Keeps.trans HKA.out k1 (fun i hi h => by simp [Value.ownBlock] at h; omega)
      have HOa := Lib.hid ho1
      have hza := HGa.out.size
      clear ho1 k1 ho0 HSR hcl HKA
      go_wp2_with (at_builtin; refine wpList_app1 rfl (.tmp 17) (.tmp 18) 24 5 rfl Try.underlying24 Try.infoU8l rfl wr.heap.size _ m _ rfl HOa.out hza rfl rfl (by unfold maxLen; omega) (by omega) ?_)
      intro g cap w4 ho1 k1 _
      have HO4 : Hid (w4.ownsRow wr.heap.size 5 1 (.slice (some ⟨g, 0, none⟩) (m + 1) cap) (m + 1) ((y ++ [90]).map (Value.int .u8))) := by
        show World.ownsRow _ _ _ _ _ _ _
        simp only [List.map_append, List.append_assoc]
        exact ho1
      have HG4 := Lib.hid (grow_own HGa.out HOa.out (Nat.le_refl _) k1)
      have hcap4 : m + 1 ≤ cap := by
        rcases HO4.out.2 with ⟨e9, _⟩ | ⟨g9, cap9, cur9, e9, _, _, hn9, _⟩
        · cases e9
        · injection e9 with _ _ e9; omega
      have hsl : ∀ w : World, (Instr.slice 24 (.slice (some ⟨g, 0, none⟩) (m + 1) cap) none (some (.int .i64 (m : Nat))) none).run Try.prog w = .ok (.slice (some ⟨g, 0, none⟩) m cap) w := fun w =>
        run_pre (P := Try.prog) (t := 24) Try.underlying24 rfl _ _ _ m (by omega) w
      have hcl := HCL.out w4 HG4.out
      have HS4 := Lib.hid (HS.out.grow HG4.out)
      have hsz : w.heap.size ≤ w4.heap.size := Nat.le_trans HG.out.size HG4.out.size
      have hrow4 := HS4.out.row
      rw [HL.out.2] at hrow4
      have HRW := Lib.hid hrow4
      clear ho1 k1 HGa HOa hza hrow4
      go_wp2_with (at_builtin; refine wpList_app1 rfl (.tmp 20) (.tmp 28) 22 24 rfl Try.underlying22 Try.infoSlV rfl w.heap.size _ i _ rfl HRW.out hsz rfl rfl (by unfold maxLen; omega) (by omega) ?_)
      intro g7 cap7 w7 ho7 hk7 _
      have HLB : Hid (w.heap.size ≤ wr.heap.size) := HG.out.size
      have HG7 : Hid (Grow w w7) := grow_own (Grow.trans _ _ _ HG.out HG4.out) HRW.out (Nat.le_refl _) hk7
      have HS7 : Hid (LentS w7 w.heap.size (.slice (some ⟨g7, 0, none⟩) (i + 1) cap7) (L ++ [(g, cap, y)])) := by
        have hnew : w4.ownsRow w.heap.size 5 1 (fV (g, cap, y)) (y.length + 1) ((y ++ [90]).map (Value.int .u8)) := by
          have h9 := owns_any_base HO4.out HLB.out
          rw [HYE.out.2.1] at h9
          exact h9
        refine ⟨?_, fun t ht => ?_, fun t ht => ?_⟩
        · rw [List.length_append, HL.out.2, List.map_append]
          have e9 : lV (g, cap, y) = .slice (some ⟨g, 0, none⟩) m cap := by unfold lV; rw [HYE.out.2.1]
          show w7.ownsRow _ _ _ _ _ (_ ++ [lV (g, cap, y)])
          rw [e9]
          exact ho7
        · rcases List.mem_append.1 ht with ht | ht
          · exact owns_keep (HS4.out.each t ht) hk7 (fv_far HRW.out (HS4.out.each t ht))
          · rw [List.mem_singleton.1 ht]
            exact owns_keep hnew hk7 (fv_far HRW.out hnew)
        · rcases List.mem_append.1 ht with ht | ht
          · exact HS4.out.rng t ht
          · rw [List.mem_singleton.1 ht]; exact HYE.out.2.2
      have HL7 : Hid ((L ++ [(g, cap, y)]).map (fun t => t.2.2) = l.take (i + 1) ∧ (L ++ [(g, cap, y)]).length = i + 1) := by
        have hx : l[i]? = some y := by rw [HYE.out.1, List.getD_eq_getElem?_getD, List.getElem?_eq_getElem (by rw [HN.out.len]; exact hin)]; rfl
        exact ⟨by rw [List.map_append, HL.out.1, List.take_add_one, hx]; rfl, by rw [List.length_append, HL.out.2]; rfl⟩
      clear ho7 hk7
      go_wp2_with fail
      go_roundw
      case rel => exact ⟨i + 1, some ⟨g7, 0, none⟩, cap7, _, by omega, by go_num, rfl, HS7.out, HL7.out, HG7.out⟩
      case measure => simp [intOf]; omega
    · obtain rfl : i = n := by omega
      go_wp2_with fail
      go_ret
      refine ⟨A2, c2, rfl, ?_, HG.out⟩
      have h9 := HS.out.lentR HL.out.2
      rw [HL.out.1, List.take_of_length_le (by rw [HN.out.len]; exact Nat.le_refl _)] at h9
      exact h9
end Go.Proofs.Ytnjdhkaabpmahaa
