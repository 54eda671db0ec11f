/- number.PutVar, number.Var and the document's. -/
import Derived.Test.YtoeapobpdfidkaaLay
import Derived.Test.YtoeapobpdfidkaaSzB
namespace Go.Proofs.Ytoeapobpdfidkaa
open Go.RowKit
set_option linter.unusedVariables false
set_option linter.unusedSimpArgs false

/-- A number's bytes, seven bits each. -/
def varF : Nat → Nat → List Int
  | 0, v => [((v % 256 : Nat) : Int)]
  | t + 1, v => if v < 128 then [((v % 256 : Nat) : Int)] else ((v % 128 + 128 : Nat) : Int) :: varF t (v / 128)
def varL (v : Nat) : List Int := varF 9 v
theorem varF_small (t v : Nat) (h : v < 128) : varF t v = [((v % 256 : Nat) : Int)] := by
  cases t with
  | zero => rfl
  | succ t => unfold varF; rw [if_pos h]
theorem varF_more (t v : Nat) (h : ¬ v < 128) : varF (t + 1) v = ((v % 128 + 128 : Nat) : Int) :: varF t (v / 128) := by
  show (if v < 128 then _ else _) = _
  rw [if_neg h]
theorem varF_rng : ∀ (t v : Nat), ∀ x ∈ varF t v, inKind .u8 x
  | 0, v, x, hx => by
    have hx : x ∈ [((v % 256 : Nat) : Int)] := hx
    rw [List.mem_singleton.1 hx]; exact mk_u8 (by omega) (by omega)
  | t + 1, v, x, hx => by
    by_cases h : v < 128
    · rw [varF_small _ _ h] at hx
      rw [List.mem_singleton.1 hx]; exact mk_u8 (by omega) (by omega)
    · rw [varF_more _ _ h] at hx
      rcases List.mem_cons.1 hx with hx | hx
      · rw [hx]; exact mk_u8 (by omega) (by omega)
      · exact varF_rng t _ x hx
theorem varF_len : ∀ (t v : Nat), (varF t v).length ≤ t + 1
  | 0, v => Nat.le_refl _
  | t + 1, v => by
    by_cases h : v < 128
    · rw [varF_small _ _ h]; simp
    · rw [varF_more _ _ h, List.length_cons]
      have := varF_len t (v / 128)
      omega
theorem or128 (v : Nat) : bits .or .u8 ((v % 256 : Nat) : Int) 128 = ((v % 128 + 128 : Nat) : Int) := by
  have h : (List.range 256).all (fun b => decide (bits .or .u8 ((b : Nat) : Int) 128 = ((b % 128 + 128 : Nat) : Int))) = true := by kernel_rfl
  have h1 := of_decide_eq_true (List.all_eq_true.1 h (v % 256) (List.mem_range.2 (Nat.mod_lt _ (by decide))))
  rw [h1, show v % 256 % 128 = v % 128 by omega]
set_option maxRecDepth 4000 in
set_option maxHeartbeats 1000000 in
theorem putVar_is (w : World) (A : Option Addr) (m c v : Nat) (xs : List Int) (h : Nums .u8 w A m c xs) (hm : m ≤ 2097152) (hv : v < 9223372036854775808) :
    Calls Try.prog 60 #[.slice A m c, .int .u64 (v : Nat)] w fun e w' => ∃ A' c', e = .returned (.tuple #[.slice A' (m + (varL v).length) c', .int .i64 0]) ∧ w'.ownsRow w.heap.size 5 1 (.slice A' (m + (varL v).length) c') (m + (varL v).length) ((xs ++ varL v).map (Value.int .u8)) ∧ Grow w w' := by
  have hvi : decide ((9223372036854775807 : Int) < (v : Int)) = false := decide_eq_false (by omega)
  have hvj : decide (9223372036854775807 < v) = false := decide_eq_false (by omega)
  have HN := Lib.hid (clnU8 w A m c (xs.map (Value.int .u8)) h.src (by omega))
  have HL := Lib.hid (varF_len 9 v)
  have HVV := Lib.hid hv
  have HLX := Lib.hid h.len
  clear h hv
  go_enter Try.func60, Try.ntmps60
  go_wp2_with fail
  refine HN.out.mono ?_
  rintro x w1 ⟨A1, c1, rfl, ho1, hg1⟩
  have HO1 := Lib.hid ho1
  have HG1 := Lib.hid hg1
  clear ho1 hg1 HN hvi hvj
  go_wp2_with fail
  go_loopw [1, 6] (fun vv vo wr => ∃ (u t : Nat) (ds : List Int) (A2 : Option Addr) (c2 : Nat), vv = .int .u64 (u : Nat) ∧ vo = .slice A2 (m + ds.length) c2 ∧ u < 9223372036854775808 ∧ Hid (u < 128 ^ (t + 1) ∧ ds ++ varF t u = varL v) ∧ Hid (wr.ownsRow w.heap.size 5 1 (.slice A2 (m + ds.length) c2) (m + ds.length) ((xs ++ ds).map (Value.int .u8))) ∧ Hid (Grow w wr)) (fun vv _ _ => (intOf vv).toNat)
  case atStart => exact ⟨v, 9, [], A1, c1, rfl, rfl, HVV.out, ⟨Nat.lt_of_lt_of_le HVV.out (by decide), rfl⟩, by show World.ownsRow _ _ _ _ _ _ _; simpa using HO1.out, HG1.out⟩
  case round =>
    obtain ⟨u, t, ds, A2, c2, rfl, rfl, hub, HT, HO, HG⟩ := hrel
    have hsz : w.heap.size ≤ wr.heap.size := HG.out.size
    have hds : ds.length ≤ 10 := by
      have h1 := congrArg List.length HT.out.2
      rw [List.length_append] at h1
      have := HL.out
      unfold varL at h1
      omega
    have HUB := Lib.hid hub
    clear hub
    by_cases hu : u < 128
    · have q1 : decide ((127 : Int) < (u : Int)) = false := decide_eq_false (by omega)
      have q2 : decide (127 < u) = false := decide_eq_false (by omega)
      go_wp2_with (at_builtin; refine wpList_app1 rfl (.tmp 21) (.tmp 24) 51 5 rfl Try.underlying51 Try.infoU8l rfl w.heap.size _ (m + ds.length) _ rfl HO.out hsz rfl rfl (by unfold maxLen; omega) (by omega) ?_)
      intro g cap w4 ho4 hk4 _
      have HT2 : Hid (xs ++ varL v = xs ++ ds ++ [((u : Nat) : Int)] ∧ (varL v).length = ds.length + 1) := by
        have h1 := HT.out.2
        rw [varF_small t u hu, Nat.mod_eq_of_lt (by omega)] at h1
        exact ⟨by rw [← h1, List.append_assoc], by rw [← h1]; simp⟩
      have HO4 : Hid (w4.ownsRow w.heap.size 5 1 (.slice (some ⟨g, 0, none⟩) (m + (varL v).length) cap) (m + (varL v).length) ((xs ++ varL v).map (Value.int .u8))) := by
        show World.ownsRow _ _ _ _ _ _ _
        rw [HT2.out.1, HT2.out.2, ← Nat.add_assoc]
        simp only [List.map_append, List.map_cons, List.map_nil, List.append_assoc] at ho4 ⊢
        exact ho4
      have HG4 := Lib.hid (grow_own HG.out HO.out (Nat.le_refl _) hk4)
      obtain ⟨L, hL⟩ : ∃ L, L = m + ds.length + 1 := ⟨_, rfl⟩
      have HLL : Hid (L = m + (varL v).length) := by show _ = _; rw [hL, HT2.out.2]; rfl
      rw [← hL]
      clear ho4 hk4 hL
      go_wp2_with fail
      try go_ret2
      exact ⟨some ⟨g, 0, none⟩, cap, by rw [← HLL.out]; rfl, HO4.out, HG4.out⟩
    · have q1 : decide ((127 : Int) < (u : Int)) = true := decide_eq_true (by omega)
      have q2 : decide (127 < u) = true := decide_eq_true (by omega)
      have ho2 := or128 u
      rw [show ((u % 256 : Nat) : Int) = (u : Int) % 256 by omega] at ho2
      go_wp2_with (at_builtin; refine wpList_app1 rfl (.tmp 15) (.tmp 19) 51 5 rfl Try.underlying51 Try.infoU8l rfl w.heap.size _ (m + ds.length) _ rfl HO.out hsz rfl rfl (by unfold maxLen; omega) (by omega) ?_)
      intro g cap w4 ho4 hk4 _
      obtain ⟨t, rfl⟩ : ∃ t', t = t' + 1 := by
        cases t with
        | zero => have h1 := HT.out.1; simp at h1; omega
        | succ t => exact ⟨t, rfl⟩
      have HT2 : Hid (u / 128 < 128 ^ (t + 1) ∧ (ds ++ [((u % 128 + 128 : Nat) : Int)]) ++ varF t (u / 128) = varL v) := by
        have h1 := HT.out
        rw [varF_more t u hu] at h1
        refine ⟨Nat.div_lt_of_lt_mul (by have h2 := h1.1; rw [Nat.pow_succ] at h2; omega), ?_⟩
        rw [← h1.2, List.append_assoc]; rfl
      have hdl : (ds ++ [((u % 128 + 128 : Nat) : Int)]).length = ds.length + 1 := by simp
      have HO4 : Hid (w4.ownsRow w.heap.size 5 1 (.slice (some ⟨g, 0, none⟩) (m + (ds ++ [((u % 128 + 128 : Nat) : Int)]).length) cap) (m + (ds ++ [((u % 128 + 128 : Nat) : Int)]).length) ((xs ++ (ds ++ [((u % 128 + 128 : Nat) : Int)])).map (Value.int .u8))) := by
        show World.ownsRow _ _ _ _ _ _ _
        rw [hdl, ← Nat.add_assoc]
        (try rw [ho2] at ho4)
        simp only [List.map_append, List.map_cons, List.map_nil, List.append_assoc] at ho4 ⊢
        exact ho4
      have HG4 := Lib.hid (grow_own HG.out HO.out (Nat.le_refl _) hk4)
      have HDL := Lib.hid hdl
      clear ho4 hk4 hdl ho2
      go_wp2_with fail
      go_roundw
      case rel => exact ⟨u / 128, t, ds ++ [((u % 128 + 128 : Nat) : Int)], some ⟨g, 0, none⟩, cap, by go_num, by rw [HDL.out]; rfl, by have := HUB.out; omega, HT2.out, HO4.out, HG4.out⟩
      case measure => simp [intOf]; omega
set_option maxRecDepth 4000 in
set_option maxHeartbeats 1000000 in
theorem rPutVar_is (w : World) (v : Nat) (hv : v < 9223372036854775808) :
    Calls Try.prog 63 #[.int .u64 (v : Nat)] w fun e w' => ∃ A' c', e = .returned (.tuple #[.slice A' (varL v).length c', .int .i64 0]) ∧ w'.ownsRow w.heap.size 5 1 (.slice A' (varL v).length c') (varL v).length ((varL v).map (Value.int .u8)) ∧ Grow w w' := by
  have hvi : (v : Int) / 2 ^ 63 = 0 := by omega
  have hvj : (v : Int) / 9223372036854775808 = 0 := by omega
  have HL := Lib.hid (varF_len 9 v)
  have HVV := Lib.hid hv
  clear hv
  go_enter Try.func63, Try.ntmps63
  go_wp2_with fail
  clear hvi hvj
  go_loopw [0, 4] (fun vv vo wr => ∃ (u t : Nat) (ds : List Int) (A2 : Option Addr) (c2 : Nat), vv = .int .u64 (u : Nat) ∧ vo = .slice A2 ds.length c2 ∧ u < 9223372036854775808 ∧ Hid (u < 128 ^ (t + 1) ∧ ds ++ varF t u = varL v) ∧ Hid (wr.ownsRow w.heap.size 5 1 (.slice A2 ds.length c2) ds.length (ds.map (Value.int .u8))) ∧ Hid (Grow w wr)) (fun vv _ _ => (intOf vv).toNat)
  case atStart => exact ⟨v, 9, [], none, 0, rfl, rfl, HVV.out, ⟨Nat.lt_of_lt_of_le HVV.out (by decide), rfl⟩, own_nil _ _ _, Keeps.refl _ _⟩
  case round =>
    obtain ⟨u, t, ds, A2, c2, rfl, rfl, hub, HT, HO, HG⟩ := hrel
    have hsz : w.heap.size ≤ wr.heap.size := HG.out.size
    have hds : ds.length ≤ 10 := by
      have h1 := congrArg List.length HT.out.2
      rw [List.length_append] at h1
      have := HL.out
      unfold varL at h1
      omega
    have HUB := Lib.hid hub
    clear hub
    by_cases hu : u < 128
    · have q1 : decide ((128 : Int) ≤ (u : Int)) = false := decide_eq_false (by omega)
      have q2 : decide (128 ≤ u) = false := decide_eq_false (by omega)
      go_wp2_with (at_builtin; refine wpList_app1 rfl (.tmp 19) (.tmp 22) 51 5 rfl Try.underlying51 Try.infoU8l rfl w.heap.size _ ds.length _ rfl HO.out hsz rfl rfl (by unfold maxLen; omega) (by omega) ?_)
      intro g cap w4 ho4 hk4 _
      have HT2 : Hid (varL v = ds ++ [((u : Nat) : Int)] ∧ (varL v).length = ds.length + 1) := by
        have h1 := HT.out.2
        rw [varF_small t u hu, Nat.mod_eq_of_lt (by omega)] at h1
        exact ⟨h1.symm, by rw [← h1]; simp⟩
      have HO4 : Hid (w4.ownsRow w.heap.size 5 1 (.slice (some ⟨g, 0, none⟩) (varL v).length cap) (varL v).length ((varL v).map (Value.int .u8))) := by
        show World.ownsRow _ _ _ _ _ _ _
        rw [HT2.out.2, HT2.out.1]
        simp only [List.map_append, List.map_cons, List.map_nil, List.append_assoc] at ho4 ⊢
        exact ho4
      have HG4 := Lib.hid (grow_own HG.out HO.out (Nat.le_refl _) hk4)
      obtain ⟨L, hL⟩ : ∃ L, L = ds.length + 1 := ⟨_, rfl⟩
      have HLL : Hid (L = (varL v).length) := by show _ = _; rw [hL, HT2.out.2]
      rw [← hL]
      clear ho4 hk4 hL
      go_wp2_with fail
      try go_ret2
      exact ⟨some ⟨g, 0, none⟩, cap, by rw [← HLL.out]; rfl, HO4.out, HG4.out⟩
    · have q1 : decide ((128 : Int) ≤ (u : Int)) = true := decide_eq_true (by omega)
      have q2 : decide (128 ≤ u) = true := decide_eq_true (by omega)
      obtain ⟨t, rfl⟩ : ∃ t', t = t' + 1 := by
        cases t with
        | zero => have h1 := HT.out.1; simp at h1; omega
        | succ t => exact ⟨t, rfl⟩
      obtain ⟨d, hd⟩ : ∃ d, d = u % 128 := ⟨_, rfl⟩
      have hdi : (u : Int) % 128 = (d : Int) := by omega
      have hdb : (d : Int) < 128 := by omega
      have hd2 : (d : Int) + 128 = ((d + 128 : Nat) : Int) := by omega
      have HT2 : Hid (u / 128 < 128 ^ (t + 1) ∧ (ds ++ [((d + 128 : Nat) : Int)]) ++ varF t (u / 128) = varL v) := by
        have h1 := HT.out
        rw [varF_more t u hu, ← hd] at h1
        refine ⟨Nat.div_lt_of_lt_mul (by have h2 := h1.1; rw [Nat.pow_succ] at h2; omega), ?_⟩
        rw [← h1.2, List.append_assoc]; rfl
      have HD2 := Lib.hid hd2
      clear hd hd2
      go_wp2_with (at_builtin; refine wpList_app1 rfl (.tmp 10) (.tmp 15) 51 5 rfl Try.underlying51 Try.infoU8l rfl w.heap.size _ ds.length _ rfl HO.out hsz rfl rfl (by unfold maxLen; omega) (by omega) ?_)
      intro g cap w4 ho4 hk4 _
      have hdl : (ds ++ [((d + 128 : Nat) : Int)]).length = ds.length + 1 := by simp
      have HO4 : Hid (w4.ownsRow w.heap.size 5 1 (.slice (some ⟨g, 0, none⟩) (ds ++ [((d + 128 : Nat) : Int)]).length cap) (ds ++ [((d + 128 : Nat) : Int)]).length ((ds ++ [((d + 128 : Nat) : Int)]).map (Value.int .u8))) := by
        show World.ownsRow _ _ _ _ _ _ _
        rw [hdl]
        (try rw [HD2.out] at ho4)
        simp only [List.map_append, List.map_cons, List.map_nil, List.append_assoc] at ho4 ⊢
        exact ho4
      have HG4 := Lib.hid (grow_own HG.out HO.out (Nat.le_refl _) hk4)
      have HDL := Lib.hid hdl
      obtain ⟨u1, hu1⟩ : ∃ u1, u1 = u / 128 := ⟨_, rfl⟩
      have hui : (u : Int) / 128 = (u1 : Int) := by omega
      have hub : (u1 : Int) ≤ 72057594037927936 := by have := HUB.out; omega
      have HU1 : Hid (u1 = u / 128 ∧ u1 < u) := ⟨hu1, by omega⟩
      clear ho4 hk4 hdl hdi hdb hu1
      go_wp2_with fail
      go_roundw
      case rel => exact ⟨u1, t, ds ++ [((d + 128 : Nat) : Int)], some ⟨g, 0, none⟩, cap, by go_num, by rw [HDL.out], by have := HUB.out; have := HU1.out.2; omega, by rw [HU1.out.1]; exact HT2.out, HO4.out, HG4.out⟩
      case measure => simp [intOf]; exact HU1.out.2
end Go.Proofs.Ytoeapobpdfidkaa
