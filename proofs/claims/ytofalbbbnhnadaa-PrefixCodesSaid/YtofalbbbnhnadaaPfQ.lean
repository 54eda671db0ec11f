/- prefix: the cost, the document's and the program's. -/
import Derived.Test.YtofalbbbnhnadaaPfC
namespace Go.Proofs.Ytofalbbbnhnadaa
open Go.RowKit
set_option linter.unusedVariables false
set_option linter.unusedSimpArgs false

set_option maxRecDepth 8000 in
set_option maxHeartbeats 4000000 in
theorem rCost_is (w : World) (gw m : Nat) (ws : List (Nat × Nat)) (h : RefW w gw m ws) (A2 : Option Addr) (m2 c2 : Nat) (ys : List Int) (hy : Nums .i64 w A2 m2 c2 ys) (hm65 : m ≤ 65536) :
    Calls Try.prog 12 #[.slice (some ⟨gw, 0, none⟩) m m, .slice A2 m2 c2] w fun e w' => CostPost ws ys e w w' := by
  obtain ⟨hwd, hwl⟩ := h
  have HWD := Lib.hid hwd
  have HY := Lib.hid hy
  have HYL : Hid (ys.length = m2 ∧ ws.length = m) := ⟨hy.len, hwl⟩
  obtain ⟨POST, hPOST⟩ : ∃ POST : Ending → World → Prop, POST = fun e w' => CostPost ws ys e w w' := ⟨_, rfl⟩
  have HPO := Lib.hid hPOST
  show Calls _ _ _ _ fun e w' => (fun e w' => CostPost ws ys e w w') e w'
  rw [← hPOST]
  clear hwd hy hwl hPOST
  by_cases hmm : m < m2
  · have hmmi : (m : Int) < (m2 : Int) := by omega
    go_enter Try.func12, Try.ntmps12
    go_wp2_with fail
    refine (show POST (.returned (.tuple #[.int .i64 ((0 : Nat) : Int), .int .i64 ((2 : Nat) : Int)])) w from ?_)
    rw [HPO.out]
    exact ⟨0, 2, rfl, Keeps.refl _ _, .inl ⟨.inl (by rw [HYL.out.1, HYL.out.2]; exact hmm), rfl, rfl⟩⟩
  have hmmi : ¬ (m : Int) < (m2 : Int) := by omega
  have hm2b : (m2 : Int) ≤ 65536 := by omega
  go_enter Try.func12, Try.ntmps12
  go_wp2_with fail
  go_loopw [6] (fun vi wr => ∃ (i : Nat), i ≤ m2 ∧ vi = .int .i64 i ∧ w = wr ∧ Hid (∀ j, j < i → ¬ badY ws ys j)) (fun vi _ => m2 - (intOf vi).toNat)
  case atStart => exact ⟨0, by omega, rfl, rfl, fun j hj => by omega⟩
  case round =>
    obtain ⟨i, hi, rfl, rfl, HB⟩ := hrel
    by_cases hin : i < m2
    · obtain ⟨b, o, rfl, hc⟩ := HY.out.at_ (by omega)
      have hcell := hc i hin
      obtain ⟨Y, hYY⟩ : ∃ Y, Y = ys.getD i 0 := ⟨_, rfl⟩
      rw [← hYY] at hcell
      have HYY := Lib.hid hYY
      obtain ⟨pr, hpr⟩ : ∃ pr, ws[i]? = some pr := ⟨ws[i]'(by rw [HYL.out.2]; omega), List.getElem?_eq_getElem _⟩
      obtain ⟨z0, z1⟩ := HWD.out.cell0 i pr hpr
      obtain ⟨a, l⟩ := pr
      simp only at z0 z1
      have HLL : Hid ((ws.getD i (0, 0)).2 = l) := by show _ = _; rw [List.getD_eq_getElem?_getD, hpr]; rfl
      have hini : (i : Int) < (m2 : Int) := by omega
      have hinm : (i : Int) < (m : Int) := by omega
      clear hc hYY hpr z0
      by_cases hy0 : Y < 0
      · have HBB : Hid (badY ws ys i) := .inl (by rw [← HYY.out]; exact hy0)
        go_wp2_with fail
        refine (show POST (.returned (.tuple #[.int .i64 ((0 : Nat) : Int), .int .i64 ((2 : Nat) : Int)])) w from ?_)
        rw [HPO.out]
        exact ⟨0, 2, rfl, Keeps.refl _ _, .inl ⟨.inr ⟨i, by rw [HYL.out.1]; exact hin, HBB.out⟩, rfl, rfl⟩⟩
      by_cases hy1 : 0 < Y
      · by_cases hl0 : l = 0
        · subst hl0
          have HBB : Hid (badY ws ys i) := .inr ⟨by rw [← HYY.out]; exact hy1, HLL.out⟩
          go_wp2_with fail
          refine (show POST (.returned (.tuple #[.int .i64 ((0 : Nat) : Int), .int .i64 ((2 : Nat) : Int)])) w from ?_)
          rw [HPO.out]
          exact ⟨0, 2, rfl, Keeps.refl _ _, .inl ⟨.inr ⟨i, by rw [HYL.out.1]; exact hin, HBB.out⟩, rfl, rfl⟩⟩
        · have hlb : ((l : Int) == 0) = false := by rw [beq_eq_false_iff_ne]; omega
          have HB2 : Hid (∀ j, j < i + 1 → ¬ badY ws ys j) := fun j hj => by
            by_cases h : j = i
            · subst h
              rintro (h9 | ⟨_, h9⟩)
              · rw [← HYY.out] at h9; omega
              · rw [HLL.out] at h9; exact hl0 h9
            · exact HB.out j (by omega)
          go_wp2_with fail
          go_roundw
          case rel => exact ⟨i + 1, by omega, by go_num, trivial, HB2.out⟩
          case measure => simp [intOf]; omega
      · obtain rfl : Y = 0 := by omega
        have HB2 : Hid (∀ j, j < i + 1 → ¬ badY ws ys j) := fun j hj => by
          by_cases h : j = i
          · subst h
            rintro (h9 | ⟨h9, _⟩)
            · rw [← HYY.out] at h9; omega
            · rw [← HYY.out] at h9; omega
          · exact HB.out j (by omega)
        go_wp2_with fail
        go_roundw
        case rel => exact ⟨i + 1, by omega, by go_num, trivial, HB2.out⟩
        case measure => simp [intOf]; omega
    · obtain rfl : m2 = i := by omega
      clear hin hi
      go_wp2_with fail
      go_loopw [7, 8] (fun vn vi wr => ∃ (i n : Nat), i ≤ m2 ∧ vn = .int .i64 n ∧ vi = .int .i64 i ∧ Hid (Grow w wr) ∧ Hid (cst ws ys i = some n)) (fun _ vi _ => m2 - (intOf vi).toNat)
      case atStart => exact ⟨0, 0, by omega, rfl, rfl, Keeps.refl _ _, rfl⟩
      case round =>
        obtain ⟨i, n, hi, rfl, rfl, HG, HS⟩ := hrel
        have hnb := cst_le ws ys i n HS.out
        have hni : (n : Int) ≤ 4611686018427387904 := by omega
        by_cases hin : i < m2
        · obtain ⟨b, o, rfl, hc⟩ := (HY.out.grow HG.out).at_ (by omega)
          have hcell := hc i hin
          have hyk := HY.out.rng
          obtain ⟨Y, hYY⟩ : ∃ Y, Y = ys.getD i 0 := ⟨_, rfl⟩
          rw [← hYY] at hcell
          have hnn : ¬ Y < 0 := fun h9 => HB.out i hin (.inl (by rw [← hYY]; exact h9))
          obtain ⟨y, rfl⟩ : ∃ y : Nat, Y = (y : Int) := ⟨Y.toNat, by omega⟩
          have HYT : Hid ((ys.getD i 0).toNat = y) := by show _ = _; rw [← hYY]; simp
          obtain ⟨pr, hpr⟩ : ∃ pr, ws[i]? = some pr := ⟨ws[i]'(by rw [HYL.out.2]; omega), List.getElem?_eq_getElem _⟩
          obtain ⟨z0, z1⟩ := (HWD.out.keep HG.out (fun h => h)).cell0 i pr hpr
          obtain ⟨a, l⟩ := pr
          simp only at z0 z1
          have HLL : Hid ((ws.getD i (0, 0)).2 = l) := by show _ = _; rw [List.getD_eq_getElem?_getD, hpr]; rfl
          have HST := Lib.hid (cst_step HS.out HLL.out HYT.out)
          have hini : (i : Int) < (m2 : Int) := by omega
          have hinm : (i : Int) < (m : Int) := by omega

          clear hc hYY hpr z0 hyk hnn
          by_cases hl0 : l = 0
          · subst hl0
            have HS2 : Hid (cst ws ys (i + 1) = some n) := by
              show _ = _
              rw [HST.out, if_neg (by omega), Nat.mul_zero, Nat.add_zero]
            have HNB := Lib.hid (And.intro hnb trivial)
            clear hnb
            go_wp2_with fail
            go_quiet (fail)
            go_wp2_with fail
            go_roundw
            case rel => exact ⟨i + 1, n, by omega, by go_num, by go_num, (HG.out.drewN _), HS2.out⟩
            case measure => simp [intOf]; omega
          · have hlb : ((l : Int) == 0) = false := by rw [beq_eq_false_iff_ne]; omega
            have hl1 : (0 : Int) < (l : Int) := by omega
            have hld : decide ((0 : Int) < (l : Int)) = true := decide_eq_true hl1
            have hln : decide (0 < l) = true := decide_eq_true (by omega)
            obtain ⟨r, hr⟩ : ∃ r, r = 4611686018427387904 - n := ⟨_, rfl⟩
            have hri : (4611686018427387904 : Int) - (n : Int) = (r : Int) := by omega
            obtain ⟨q, hq⟩ : ∃ q, q = r / l := ⟨_, rfl⟩
            have hqi : (r : Int) / (l : Int) = (q : Int) := by rw [hq, Int.natCast_ediv]
            have hqt : Int.tdiv (r : Int) (l : Int) = (q : Int) := by rw [← hqi]; exact Int.tdiv_eq_ediv_of_nonneg (by omega)
            have hqr : q ≤ r := by rw [hq]; exact Nat.div_le_self _ _
            have hrb : (r : Int) ≤ 4611686018427387904 := by omega
            have hqb : (q : Int) ≤ 4611686018427387904 := by omega
            have hwr : IntKind.i64.wrap (4611686018427387904 - (n : Int)) = (r : Int) := by rw [IntKind.wrap_i64]; omega
            have hwq : IntKind.i64.wrap (q : Int) = (q : Int) := by rw [IntKind.wrap_i64]; omega
            rw [← hr] at HST
            have HQ := Lib.hid hq
            by_cases hbig : q < y
            · have HS2 : Hid (cst ws ys (i + 1) = none) := by
                show _ = _
                rw [HST.out, ← HQ.out, if_pos ⟨by omega, hbig⟩]
              have hbi : (q : Int) < (y : Int) := by omega
              have HNB := Lib.hid (And.intro hnb trivial)
              clear hr hq hqr hnb hrb hqb hbig hl0
              go_wp2_with fail
              go_quiet (fail)
              go_wp2_with fail
              refine (show POST (.returned (.tuple #[.int .i64 ((0 : Nat) : Int), .int .i64 ((3 : Nat) : Int)])) (wr.drewN _) from ?_)
              rw [HPO.out]
              refine ⟨0, 3, rfl, (HG.out.drewN _), .inr ⟨⟨by rw [HYL.out.1, HYL.out.2]; omega, fun j hj => HB.out j (by rw [HYL.out.1] at hj; exact hj)⟩, .inl ⟨?_, rfl, rfl⟩⟩⟩
              have h9 := cst_none HS2.out (m2 - (i + 1))
              rw [HYL.out.1]
              rw [show i + 1 + (m2 - (i + 1)) = m2 by omega] at h9
              exact h9
            · have hbi : ¬ (q : Int) < (y : Int) := by omega
              obtain ⟨p, hp⟩ : ∃ p, p = y * l := ⟨_, rfl⟩
              have hpi : (y : Int) * (l : Int) = (p : Int) := by rw [hp, Int.natCast_mul]
              have hpr2 : p ≤ r := by
                rw [hp]
                have h3 : y ≤ r / l := by omega
                exact Nat.le_trans (Nat.mul_le_mul_right l h3) (Nat.div_mul_le_self _ _)
              have HS2 : Hid (cst ws ys (i + 1) = some (n + p)) := by
                show _ = _
                rw [HST.out, ← HQ.out, if_neg (fun h9 => hbig h9.2), hp]
              have hwp : IntKind.i64.wrap (p : Int) = (p : Int) := by rw [IntKind.wrap_i64]; omega
              have hwn : IntKind.i64.wrap ((n : Int) + (p : Int)) = ((n + p : Nat) : Int) := by rw [IntKind.wrap_i64]; omega
              have HNB := Lib.hid (And.intro hnb (And.intro hpr2 (And.intro hr trivial)))
              have hpb : (p : Int) ≤ 4611686018427387904 := by omega
              have hnpb : (n : Int) + (p : Int) ≤ 4611686018427387904 := by omega
              clear hr hq hqr hnb hbig hl0 hp hpr2
              go_wp2_with fail
              go_quiet (fail)
              go_wp2_with fail
              go_roundw
              case rel => exact ⟨i + 1, n + p, by omega, by go_num, by go_num, (HG.out.drewN _), HS2.out⟩
              case measure => simp [intOf]; omega
        · obtain rfl : m2 = i := by omega
          have HNB := Lib.hid (And.intro hnb trivial)
          clear hnb
          go_wp2_with fail
          refine (show POST (.returned (.tuple #[.int .i64 (n : Nat), .int .i64 ((0 : Nat) : Int)])) wr from ?_)
          rw [HPO.out]
          exact ⟨n, 0, rfl, HG.out, .inr ⟨⟨by rw [HYL.out.1, HYL.out.2]; omega, fun j hj => HB.out j (by rw [HYL.out.1] at hj; exact hj)⟩, .inr ⟨by rw [HYL.out.1]; exact HS.out, rfl⟩⟩⟩
set_option maxRecDepth 8000 in
set_option maxHeartbeats 4000000 in
theorem cCost_is (w : World) (g m : Nat) (ws : List (Nat × Nat)) (h : CodeW w g m ws) (A2 : Option Addr) (m2 c2 : Nat) (ys : List Int) (hy : Nums .i64 w A2 m2 c2 ys) (hm65 : m ≤ 65536) :
    Calls Try.prog 11 #[.pointer (some ⟨g, 0, none⟩), .slice A2 m2 c2] w fun e w' => CostPost ws ys e w w' := by
  have HN := Lib.hid (cNone_is w g m ws h)
  obtain ⟨gw, srt, F, C, P, M, hcd, hwd, hwl⟩ := h
  have HCD := Lib.hid hcd
  have d0 := hcd.words
  have HWD := Lib.hid hwd
  have HY := Lib.hid hy
  have HYL : Hid (ys.length = m2 ∧ ws.length = m) := ⟨hy.len, hwl⟩
  obtain ⟨POST, hPOST⟩ : ∃ POST : Ending → World → Prop, POST = fun e w' => CostPost ws ys e w w' := ⟨_, rfl⟩
  have HPO := Lib.hid hPOST
  show Calls _ _ _ _ fun e w' => (fun e w' => CostPost ws ys e w w') e w'
  rw [← hPOST]
  clear hcd hwd hy hwl hPOST
  by_cases hmm : m < m2
  · have hmmi : (m : Int) < (m2 : Int) := by omega
    go_enter Try.func11, Try.ntmps11
    go_wp2_with fail
    refine HN.out.mono ?_
    rintro x w1 ⟨rfl, rfl⟩
    go_wp2_with fail
    refine (show POST (.returned (.tuple #[.int .i64 ((0 : Nat) : Int), .int .i64 ((2 : Nat) : Int)])) w from ?_)
    rw [HPO.out]
    exact ⟨0, 2, rfl, Keeps.refl _ _, .inl ⟨.inl (by rw [HYL.out.1, HYL.out.2]; exact hmm), rfl, rfl⟩⟩
  have hmmi : ¬ (m : Int) < (m2 : Int) := by omega
  have hm2b : (m2 : Int) ≤ 65536 := by omega
  go_enter Try.func11, Try.ntmps11
  go_wp2_with fail
  refine HN.out.mono ?_
  rintro x w1 ⟨rfl, rfl⟩
  go_wp2_with fail
  go_loopw [26] (fun vi wr => ∃ (i : Nat), i ≤ m2 ∧ vi = .int .i64 i ∧ w = wr ∧ Hid (∀ j, j < i → ¬ badY ws ys j)) (fun vi _ => m2 - (intOf vi).toNat)
  case atStart => exact ⟨0, by omega, rfl, rfl, fun j hj => by omega⟩
  case round =>
    obtain ⟨i, hi, rfl, rfl, HB⟩ := hrel
    by_cases hin : i < m2
    · obtain ⟨b, o, rfl, hc⟩ := HY.out.at_ (by omega)
      have hcell := hc i hin
      obtain ⟨Y, hYY⟩ : ∃ Y, Y = ys.getD i 0 := ⟨_, rfl⟩
      rw [← hYY] at hcell
      have HYY := Lib.hid hYY
      obtain ⟨pr, hpr⟩ : ∃ pr, ws[i]? = some pr := ⟨ws[i]'(by rw [HYL.out.2]; omega), List.getElem?_eq_getElem _⟩
      obtain ⟨z0, z1⟩ := HWD.out.cell0 i pr hpr
      obtain ⟨a, l⟩ := pr
      simp only at z0 z1
      have HLL : Hid ((ws.getD i (0, 0)).2 = l) := by show _ = _; rw [List.getD_eq_getElem?_getD, hpr]; rfl
      have hini : (i : Int) < (m2 : Int) := by omega
      have hinm : (i : Int) < (m : Int) := by omega
      clear hc hYY hpr z0
      by_cases hy0 : Y < 0
      · have HBB : Hid (badY ws ys i) := .inl (by rw [← HYY.out]; exact hy0)
        go_wp2_with fail
        refine (show POST (.returned (.tuple #[.int .i64 ((0 : Nat) : Int), .int .i64 ((2 : Nat) : Int)])) w from ?_)
        rw [HPO.out]
        exact ⟨0, 2, rfl, Keeps.refl _ _, .inl ⟨.inr ⟨i, by rw [HYL.out.1]; exact hin, HBB.out⟩, rfl, rfl⟩⟩
      by_cases hy1 : 0 < Y
      · by_cases hl0 : l = 0
        · subst hl0
          have HBB : Hid (badY ws ys i) := .inr ⟨by rw [← HYY.out]; exact hy1, HLL.out⟩
          go_wp2_with fail
          refine (show POST (.returned (.tuple #[.int .i64 ((0 : Nat) : Int), .int .i64 ((2 : Nat) : Int)])) w from ?_)
          rw [HPO.out]
          exact ⟨0, 2, rfl, Keeps.refl _ _, .inl ⟨.inr ⟨i, by rw [HYL.out.1]; exact hin, HBB.out⟩, rfl, rfl⟩⟩
        · have hlb : ((l : Int) == 0) = false := by rw [beq_eq_false_iff_ne]; omega
          have HB2 : Hid (∀ j, j < i + 1 → ¬ badY ws ys j) := fun j hj => by
            by_cases h : j = i
            · subst h
              rintro (h9 | ⟨_, h9⟩)
              · rw [← HYY.out] at h9; omega
              · rw [HLL.out] at h9; exact hl0 h9
            · exact HB.out j (by omega)
          go_wp2_with fail
          go_roundw
          case rel => exact ⟨i + 1, by omega, by go_num, trivial, HB2.out⟩
          case measure => simp [intOf]; omega
      · obtain rfl : Y = 0 := by omega
        have HB2 : Hid (∀ j, j < i + 1 → ¬ badY ws ys j) := fun j hj => by
          by_cases h : j = i
          · subst h
            rintro (h9 | ⟨h9, _⟩)
            · rw [← HYY.out] at h9; omega
            · rw [← HYY.out] at h9; omega
          · exact HB.out j (by omega)
        go_wp2_with fail
        go_roundw
        case rel => exact ⟨i + 1, by omega, by go_num, trivial, HB2.out⟩
        case measure => simp [intOf]; omega
    · obtain rfl : m2 = i := by omega
      clear hin hi
      go_wp2_with fail
      go_loopw [8, 51] (fun vn vi wr => ∃ (i n : Nat), i ≤ m2 ∧ vn = .int .i64 n ∧ vi = .int .i64 i ∧ Hid (Grow w wr) ∧ Hid (cst ws ys i = some n)) (fun _ vi _ => m2 - (intOf vi).toNat)
      case atStart => exact ⟨0, 0, by omega, rfl, rfl, Keeps.refl _ _, rfl⟩
      case round =>
        obtain ⟨i, n, hi, rfl, rfl, HG, HS⟩ := hrel
        have hnb := cst_le ws ys i n HS.out
        have hni : (n : Int) ≤ 4611686018427387904 := by omega
        by_cases hin : i < m2
        · obtain ⟨b, o, rfl, hc⟩ := (HY.out.grow HG.out).at_ (by omega)
          have hcell := hc i hin
          have hyk := HY.out.rng
          obtain ⟨Y, hYY⟩ : ∃ Y, Y = ys.getD i 0 := ⟨_, rfl⟩
          rw [← hYY] at hcell
          have hnn : ¬ Y < 0 := fun h9 => HB.out i hin (.inl (by rw [← hYY]; exact h9))
          obtain ⟨y, rfl⟩ : ∃ y : Nat, Y = (y : Int) := ⟨Y.toNat, by omega⟩
          have HYT : Hid ((ys.getD i 0).toNat = y) := by show _ = _; rw [← hYY]; simp
          obtain ⟨pr, hpr⟩ : ∃ pr, ws[i]? = some pr := ⟨ws[i]'(by rw [HYL.out.2]; omega), List.getElem?_eq_getElem _⟩
          obtain ⟨z0, z1⟩ := (HWD.out.keep HG.out (fun h => h)).cell0 i pr hpr
          obtain ⟨a, l⟩ := pr
          simp only at z0 z1
          have HLL : Hid ((ws.getD i (0, 0)).2 = l) := by show _ = _; rw [List.getD_eq_getElem?_getD, hpr]; rfl
          have HST := Lib.hid (cst_step HS.out HLL.out HYT.out)
          have hini : (i : Int) < (m2 : Int) := by omega
          have hinm : (i : Int) < (m : Int) := by omega
          have d0 := (HCD.out.keep HG.out (fun h => h)).words
          clear hc hYY hpr z0 hyk hnn
          by_cases hl0 : l = 0
          · subst hl0
            have HS2 : Hid (cst ws ys (i + 1) = some n) := by
              show _ = _
              rw [HST.out, if_neg (by omega), Nat.mul_zero, Nat.add_zero]
            have HNB := Lib.hid (And.intro hnb trivial)
            clear hnb
            go_wp2_with fail
            go_roundw
            case rel => exact ⟨i + 1, n, by omega, by go_num, by go_num, HG.out, HS2.out⟩
            case measure => simp [intOf]; omega
          · have hlb : ((l : Int) == 0) = false := by rw [beq_eq_false_iff_ne]; omega
            have hl1 : (0 : Int) < (l : Int) := by omega
            have hld : decide ((0 : Int) < (l : Int)) = true := decide_eq_true hl1
            have hln : decide (0 < l) = true := decide_eq_true (by omega)
            obtain ⟨r, hr⟩ : ∃ r, r = 4611686018427387904 - n := ⟨_, rfl⟩
            have hri : (4611686018427387904 : Int) - (n : Int) = (r : Int) := by omega
            obtain ⟨q, hq⟩ : ∃ q, q = r / l := ⟨_, rfl⟩
            have hqi : (r : Int) / (l : Int) = (q : Int) := by rw [hq, Int.natCast_ediv]
            have hqt : Int.tdiv (r : Int) (l : Int) = (q : Int) := by rw [← hqi]; exact Int.tdiv_eq_ediv_of_nonneg (by omega)
            have hqr : q ≤ r := by rw [hq]; exact Nat.div_le_self _ _
            have hrb : (r : Int) ≤ 4611686018427387904 := by omega
            have hqb : (q : Int) ≤ 4611686018427387904 := by omega
            have hwr : IntKind.i64.wrap (4611686018427387904 - (n : Int)) = (r : Int) := by rw [IntKind.wrap_i64]; omega
            have hwq : IntKind.i64.wrap (q : Int) = (q : Int) := by rw [IntKind.wrap_i64]; omega
            rw [← hr] at HST
            have HQ := Lib.hid hq
            by_cases hbig : q < y
            · have HS2 : Hid (cst ws ys (i + 1) = none) := by
                show _ = _
                rw [HST.out, ← HQ.out, if_pos ⟨by omega, hbig⟩]
              have hbi : (q : Int) < (y : Int) := by omega
              have HNB := Lib.hid (And.intro hnb trivial)
              clear hr hq hqr hnb hrb hqb hbig hl0
              go_wp2_with fail
              refine (show POST (.returned (.tuple #[.int .i64 ((0 : Nat) : Int), .int .i64 ((3 : Nat) : Int)])) (wr) from ?_)
              rw [HPO.out]
              refine ⟨0, 3, rfl, HG.out, .inr ⟨⟨by rw [HYL.out.1, HYL.out.2]; omega, fun j hj => HB.out j (by rw [HYL.out.1] at hj; exact hj)⟩, .inl ⟨?_, rfl, rfl⟩⟩⟩
              have h9 := cst_none HS2.out (m2 - (i + 1))
              rw [HYL.out.1]
              rw [show i + 1 + (m2 - (i + 1)) = m2 by omega] at h9
              exact h9
            · have hbi : ¬ (q : Int) < (y : Int) := by omega
              obtain ⟨p, hp⟩ : ∃ p, p = y * l := ⟨_, rfl⟩
              have hpi : (y : Int) * (l : Int) = (p : Int) := by rw [hp, Int.natCast_mul]
              have hpr2 : p ≤ r := by
                rw [hp]
                have h3 : y ≤ r / l := by omega
                exact Nat.le_trans (Nat.mul_le_mul_right l h3) (Nat.div_mul_le_self _ _)
              have HS2 : Hid (cst ws ys (i + 1) = some (n + p)) := by
                show _ = _
                rw [HST.out, ← HQ.out, if_neg (fun h9 => hbig h9.2), hp]
              have hwp : IntKind.i64.wrap (p : Int) = (p : Int) := by rw [IntKind.wrap_i64]; omega
              have hwn : IntKind.i64.wrap ((n : Int) + (p : Int)) = ((n + p : Nat) : Int) := by rw [IntKind.wrap_i64]; omega
              have HNB := Lib.hid (And.intro hnb (And.intro hpr2 (And.intro hr trivial)))
              have hpb : (p : Int) ≤ 4611686018427387904 := by omega
              have hnpb : (n : Int) + (p : Int) ≤ 4611686018427387904 := by omega
              clear hr hq hqr hnb hbig hl0 hp hpr2
              go_wp2_with fail
              go_roundw
              case rel => exact ⟨i + 1, n + p, by omega, by go_num, by go_num, HG.out, HS2.out⟩
              case measure => simp [intOf]; omega
        · obtain rfl : m2 = i := by omega
          have HNB := Lib.hid (And.intro hnb trivial)
          clear hnb
          go_wp2_with fail
          refine (show POST (.returned (.tuple #[.int .i64 (n : Nat), .int .i64 ((0 : Nat) : Int)])) wr from ?_)
          rw [HPO.out]
          exact ⟨n, 0, rfl, HG.out, .inr ⟨⟨by rw [HYL.out.1, HYL.out.2]; omega, fun j hj => HB.out j (by rw [HYL.out.1] at hj; exact hj)⟩, .inr ⟨by rw [HYL.out.1]; exact HS.out, rfl⟩⟩⟩
end Go.Proofs.Ytofalbbbnhnadaa
