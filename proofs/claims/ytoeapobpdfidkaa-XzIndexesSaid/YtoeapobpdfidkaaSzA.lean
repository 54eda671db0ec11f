/- lzma2: the walk through chunks: its bytes. -/
import Derived.Test.YtoeapobpdfidkaaNums
import Derived.Test.YtoeapobpdfidkaaHold
import Derived.Test.YtoeapobpdfidkaaHav
import Derived.BigQuiet
import Derived.Deep.QuietTactic
namespace Go.Proofs.Ytoeapobpdfidkaa
open Go.RowKit
set_option linter.unusedVariables false
set_option linter.unusedSimpArgs false

theorem ckp {S : Nat → Prop} {w w' : World} {p : Addr} {u : Value} (h : w.cell? p = some u) (k : Keeps S w w') (hp : ¬ S p.block) : w'.cell? p = some u := by
  rw [← h]
  exact World.cell?_of_block (k.block _ (World.block_lt_of_cell? w _ h) hp)
theorem gk {S : Nat → Prop} {w w1 : World} (h : Grow w w1) : Keeps S w w1 := h.mono fun _ _ h => h.elim
theorem hyG4 : Hv.Hyp2 Grow Grow (fun _ _ _ => True) := ⟨Keeps.refl _, fun _ _ _ h k => Keeps.trans h k fun _ _ h => h, fun _ _ _ _ _ _ => trivial, Keeps.refl _, fun _ _ _ h k => Keeps.trans h k fun _ _ h => h, fun _ _ h => h⟩
/-- Where a walk stands. -/
structure WAt (w : World) (g : Nat) (A : Option Addr) (n c : Nat) (xs : List Int) (at' : Nat) (first props : Bool) : Prop where
  blk : w.heap[g]? = some (.cells #[.slice A n c, .int .i64 (at' : Nat), .bool first, .bool props] 86 (0, 0))
  nums : Nums .u8 w A n c xs
  ne : ∀ a, A = some a → a.block < g
  le : at' ≤ n
  small : n ≤ 1048576
theorem WAt.keep {S : Nat → Prop} {w w' : World} {g n c at' : Nat} {A : Option Addr} {xs : List Int} {f p : Bool} (h : WAt w g A n c xs at' f p) (k : Keeps S w w') (hS : ∀ b, b ≤ g → ¬ S b) : WAt w' g A n c xs at' f p :=
  ⟨block_keep h.blk k (hS g (Nat.le_refl _)), h.nums.keep k (fun b o hA => hS b (Nat.le_of_lt (h.ne _ hA))), h.ne, h.le, h.small⟩
theorem WAt.grow {w w' : World} {g n c at' : Nat} {A : Option Addr} {xs : List Int} {f p : Bool} (h : WAt w g A n c xs at' f p) (k : Grow w w') : WAt w' g A n c xs at' f p := h.keep k fun _ _ h => h
set_option maxRecDepth 4000 in
theorem lacks_is (w : World) (g n c at' b1 b2 m : Nat) (A : Option Addr) (xs : List Int) (f p : Bool) (h : WAt w g A n c xs at' f p) (hm : m ≤ 1048576) (h1 : w.cell? ⟨b1, 0, none⟩ = some (.pointer (some ⟨g, 0, none⟩))) (h2 : w.cell? ⟨b2, 0, none⟩ = some (.int .i64 (m : Nat))) :
    Calls Try.prog 93 #[.pointer (some ⟨b1, 0, none⟩), .pointer (some ⟨b2, 0, none⟩)] w fun e w' => e = .returned (.bool (decide (n - at' < m))) ∧ Grow w w' := by
  have d0 := blk_cell h.blk 0
  have d1 := blk_cell h.blk 1
  simp at d0 d1
  have hle := h.le
  have hsm := h.small
  obtain ⟨d, hd⟩ : ∃ d, d = n - at' := ⟨_, rfl⟩
  have hdi : (n : Int) - (at' : Int) = (d : Int) := by omega
  have hni : (n : Int) ≤ 1048576 := by omega
  have hai : (at' : Int) ≤ 1048576 := by omega
  have hmi : (m : Int) ≤ 1048576 := by omega
  have hdb : d ≤ 1048576 := by omega
  have hq : decide ((d : Int) < (m : Int)) = decide (d < m) := decide_eq_decide.2 (by omega)
  rw [← hd]
  clear h hle hsm hd hm
  go_enter Try.func93, Try.ntmps93
  go_wp2_with fail
  go_quiet (fail)
  go_wp2_with fail
  go_ret
  exact ⟨rfl, (Keeps.refl _ _).drewN _⟩
theorem add_block (a : Addr) (m : Nat) : (a.add m).block = a.block := by
  unfold Addr.add
  split <;> rfl
theorem off_le {A : Option Addr} {c m : Nat} {B : Nat} (h : ∀ a, A = some a → a.block < B) : ∀ a, Nums.off A c m = some a → a.block < B := fun a e => by
  unfold Nums.off at e
  split at e
  · exact h a e
  · cases A with
    | none => cases e
    | some a' =>
      injection e with e
      rw [← e, add_block]
      exact h _ rfl
theorem WAt.moved {w : World} {g n c at' : Nat} {A : Option Addr} {xs : List Int} {f p f' p' : Bool} (h : WAt w g A n c xs at' f p) (at2 : Nat) (h2 : at2 ≤ n) {w' : World} (k : Keeps (fun k => k = g) w w') (hb : w'.heap[g]? = some (.cells #[.slice A n c, .int .i64 (at2 : Nat), .bool f', .bool p'] 86 (0, 0))) : WAt w' g A n c xs at2 f' p' :=
  ⟨hb, h.nums.keep k (fun b o hA h9 => by have := h.ne _ hA; have h9 : b = g := h9; simp only at this; omega), h.ne, h2, h.small⟩
set_option maxRecDepth 4000 in
set_option maxHeartbeats 1000000 in
theorem wBytes_is (w : World) (g n c at' m : Nat) (A : Option Addr) (xs : List Int) (f p : Bool) (h : WAt w g A n c xs at' f p) (hm : m ≤ 1048576) :
    Calls Try.prog 72 #[.pointer (some ⟨g, 0, none⟩), .int .i64 (m : Nat)] w fun e w' =>
      (n - at' < m ∧ e = .returned (.tuple #[.slice none 0 0, .int .i64 10]) ∧ Grow w w') ∨
      (at' + m ≤ n ∧ e = .returned (.tuple #[.slice (Nums.off A c at') m (c - at'), .int .i64 0]) ∧ WAt w' g A n c xs (at' + m) f p ∧ Keeps (fun k => k = g) w w') := by
  have H := Lib.hid h
  have hgl := blk_lt h.blk
  have hmi : (m : Int) ≤ 1048576 := by omega
  have hM := Lib.hid hm
  clear h hm
  go_enter Try.func72, Try.ntmps72
  go_wp2_with fail
  obtain ⟨b1, hb1⟩ : ∃ b1, b1 = w.heap.size := ⟨_, rfl⟩
  have hG : Grow w ((w.alloc (.cells #[.pointer (some ⟨g, 0, none⟩)] 84)).alloc (.cells #[.int .i64 (m : Nat)] 3)) := ((Keeps.refl _ w).alloc _).alloc _
  have c1 : ((w.alloc (.cells #[.pointer (some ⟨g, 0, none⟩)] 84)).alloc (.cells #[.int .i64 (m : Nat)] 3)).cell? ⟨b1, 0, none⟩ = some (.pointer (some ⟨g, 0, none⟩)) := by rw [hb1]; go_simp
  have c2 : ((w.alloc (.cells #[.pointer (some ⟨g, 0, none⟩)] 84)).alloc (.cells #[.int .i64 (m : Nat)] 3)).cell? ⟨b1 + 1, 0, none⟩ = some (.int .i64 (m : Nat)) := by rw [hb1]; go_simp
  rw [← hb1]
  have HGB : Hid (g < b1 ∧ b1 = w.heap.size) := ⟨by rw [hb1]; exact hgl, hb1⟩
  clear hb1
  generalize (w.alloc (.cells #[.pointer (some ⟨g, 0, none⟩)] 84)).alloc (.cells #[.int .i64 (m : Nat)] 3) = w2 at *
  have HG := Lib.hid hG
  have HW2 := Lib.hid (H.out.grow hG)
  have HC := Lib.hid (And.intro c1 c2)
  have HL := Lib.hid (lacks_is w2 g n c at' b1 (b1 + 1) m A xs f p HW2.out hM.out c1 c2)
  clear hG c1 c2
  refine HL.out.mono ?_
  rintro x w3 ⟨rfl, hg3⟩
  have HG3 : Hid (Grow w w3) := Grow.trans _ _ _ HG.out hg3
  have HC3 : Hid (w3.cell? ⟨b1, 0, none⟩ = some (.pointer (some ⟨g, 0, none⟩)) ∧ w3.cell? ⟨b1 + 1, 0, none⟩ = some (.int .i64 (m : Nat))) := ⟨ckp HC.out.1 hg3 (fun h => h), ckp HC.out.2 hg3 (fun h => h)⟩
  have HW3 := Lib.hid (HW2.out.grow hg3)
  clear hg3 HL HC HW2 HG
  by_cases hlk : n - at' < m
  · have hd : decide (n - at' < m) = true := decide_eq_true hlk
    rw [hd]
    go_wp2_with fail
    go_ret2
    exact .inl ⟨hlk, rfl, HG3.out⟩
  · have hd : decide (n - at' < m) = false := decide_eq_false hlk
    rw [hd]
    have HLK : Hid (at' + m ≤ n ∧ n ≤ 1048576) := ⟨by have := HW3.out.le; omega, HW3.out.small⟩
    clear hd hlk
    obtain ⟨at2, hat2⟩ : ∃ at2, at2 = at' + m := ⟨_, rfl⟩
    have hai : (at' : Int) + (m : Int) = (at2 : Int) := by omega
    have ham : (at2 : Int) - (m : Int) = (at' : Int) := by omega
    have ha2 : (at2 : Int) ≤ 1048576 := by have := HLK.out; omega
    have hat1 : (at' : Int) ≤ 1048576 := by omega
    have HAT := Lib.hid hat2
    clear hat2
    go_wp2_with fail
    have HW3d := Lib.hid (HW3.out.grow ((Keeps.refl (fun _ => False) w3).drew))
    have HC3d : Hid (w3.drew.cell? ⟨b1, 0, none⟩ = some (.pointer (some ⟨g, 0, none⟩)) ∧ w3.drew.cell? ⟨b1 + 1, 0, none⟩ = some (.int .i64 (m : Nat))) := HC3.out
    have HG3d : Hid (Grow w w3.drew) := HG3.out.drew
    refine Hv.wp_region_hav2 Grow Grow (fun _ _ _ => True) hyG4 [0, 3, 4] [1008] [(1, [0]), (0, [1, 2]), (1, [3]), (1, [4]), (0, [5, 6, 7]), (4, [8])] [(1, 0, [?o0]), (0, 1, [?o1, ?o2]), (1, 3, [?o3]), (1, 4, [?o4]), (0, 5, [?o5, ?o6, ?o7]), (4, 8, [?o8])] [?o0, ?o1, ?o2, ?o3, ?o4, ?o5, ?o6, ?o7, ?o8] (by kernel_rfl) (by kernel_rfl) (by kernel_rfl) ?_
    clear HW3 HC3 HG3
    generalize w3.drew = w4 at *
    refine Hv.seg_held (by kernel_rfl) (.pointer (some ⟨g, 0, none⟩)) (fun w7 hk7 => ?_) ?_
    · have c7 := ckp HC3d.out.1 hk7 (fun h => h)
      go_simp
    refine Hv.seg_calm ?_
    go_wp2_with fail
    refine Hv.seg_held (by kernel_rfl) (.int .i64 (at' : Nat)) (fun w7 hk7 => ?_) ?_
    · have c7 := blk_cell (HW3d.out.grow hk7).blk 1
      simp at c7
      go_simp
    refine Hv.seg_held (by kernel_rfl) (.int .i64 (m : Nat)) (fun w7 hk7 => ?_) ?_
    · have c7 := ckp HC3d.out.2 hk7 (fun h => h)
      go_simp
    refine Hv.seg_calm ?_
    go_wp2_with fail
    have d1 := blk_cell HW3d.out.blk 1
    have f1 := blk_frozen HW3d.out.blk 1
    simp at d1
    refine Hv.seg_last ?_
    go_wp2_with fail
    refine Hv.seg_end ⟨by kernel_rfl, ?_⟩
    have hst := blk_set HW3d.out.blk 1 (.int .i64 (at2 : Nat))
    simp at hst
    have hk5 : Keeps (fun k => k = g) w4 (w4.setCell ⟨g, 1, none⟩ (.int .i64 (at2 : Nat))) := Keeps.setCell (S := fun k => k = g) (Keeps.refl _ w4) (p := ⟨g, 1, none⟩) (fun _ => rfl) _
    have HW5 := Lib.hid (HW3d.out.moved at2 (by rw [HAT.out]; exact HLK.out.1) hk5 hst)
    have HK5 : Hid (Keeps (fun k => k = g) w (w4.setCell ⟨g, 1, none⟩ (.int .i64 (at2 : Nat)))) := Keeps.trans (gk HG3d.out) hk5 fun _ _ h => h
    have c1 := ckp HC3d.out.1 hk5 (fun h9 => by have := HGB.out.1; have h9 : b1 = g := h9; omega)
    have c2 := ckp HC3d.out.2 hk5 (fun h9 => by have := HGB.out.1; have h9 : b1 + 1 = g := h9; omega)
    clear d1 f1 hst hk5 HW3d HC3d HG3d
    generalize w4.setCell ⟨g, 1, none⟩ (.int .i64 (at2 : Nat)) = w5 at *
    have d0 := blk_cell HW5.out.blk 0
    have d1 := blk_cell HW5.out.blk 1
    simp at d0 d1
    obtain ⟨A2, hA2⟩ : ∃ A2, A2 = Nums.off A c at' := ⟨_, rfl⟩
    have hsl : ∀ w : World, (Instr.slice 51 (.slice A n c) (some (.int .i64 (at' : Nat))) (some (.int .i64 (at2 : Nat))) none).run Try.prog w = .ok (.slice A2 m (c - at')) w := fun w => by
      have h9 := run_mid (P := Try.prog) (t := 51) Try.underlying51 rfl rfl A n c at' at2 (by rw [HAT.out]; omega) (by have := HW5.out.nums.cap; have := HW5.out.le; omega) w
      rw [h9, hA2, show at2 - at' = m by rw [HAT.out]; omega]
    have HA2 := Lib.hid hA2
    clear hA2
    go_wp2_with fail
    go_quiet (fail)
    go_wp2_with fail
    go_ret2
    exact .inr ⟨HLK.out.1, by rw [← HA2.out]; rfl, by rw [← HAT.out]; exact HW5.out.grow ((Keeps.refl _ _).drewN _), HK5.out.drewN _⟩
end Go.Proofs.Ytoeapobpdfidkaa
