/- The document's decoder: NewDecoder. -/
import Derived.Test.YtiikbpcaeoodjaaRdE
namespace Go.Proofs.Ytiikbpcaeoodjaa
open Go.RowKit
set_option linter.unusedVariables false
set_option linter.unusedSimpArgs false

set_option maxRecDepth 8000 in
theorem rNew_arg (w : World) (A : Option Addr) (m c : Nat) (n : Int) (h : n < 0 ∨ 65536 < n) : Calls Try.prog 26 #[.slice A m c, .int .i64 n] w fun e' w' => e' = .returned (.tuple #[.pointer none, .int .i64 2]) ∧ w = w' := by
  by_cases h1 : n < 0
  · go_enter Try.func26, Try.ntmps26
    go_wp2_with fail
    go_ret2
    exact ⟨rfl, rfl⟩
  have h2 : 65536 < n := by omega
  go_enter Try.func26, Try.ntmps26
  go_wp2_with fail
  go_ret2
  exact ⟨rfl, rfl⟩
set_option maxRecDepth 8000 in
theorem rNew_end (w : World) (A : Option Addr) (m c : Nat) (n : Nat) (hn : n ≤ 65536) (hm : m < 5) : Calls Try.prog 26 #[.slice A m c, .int .i64 n] w fun e' w' => e' = .returned (.tuple #[.pointer none, .int .i64 10]) ∧ w = w' := by
  have h1 : ¬ (n : Int) < 0 := by omega
  have h2 : ¬ (65536 : Int) < (n : Int) := by omega
  have h3 : (m : Int) < 5 := by omega
  clear hn hm
  go_enter Try.func26, Try.ntmps26
  go_wp2_with fail
  go_ret2
  exact ⟨rfl, rfl⟩
set_option maxRecDepth 8000 in
theorem rNew_form (w : World) (A : Option Addr) (m c : Nat) (xs : List Int) (hx : Nums .u8 w A m c xs) (n : Nat) (hn : n ≤ 65536) (hm : 5 ≤ m) (h0 : xs.getD 0 0 ≠ 0) : Calls Try.prog 26 #[.slice A m c, .int .i64 n] w fun e' w' => e' = .returned (.tuple #[.pointer none, .int .i64 11]) ∧ w = w' := by
  obtain ⟨b, o, rfl, hc⟩ := hx.at_ (by omega)
  have hcl := hc 0 (by omega)
  have hxx := hx.byte 0
  rw [Nat.add_zero] at hcl
  generalize xs.getD 0 0 = x at *
  have h1 : ¬ (n : Int) < 0 := by omega
  have h2 : ¬ (65536 : Int) < (n : Int) := by omega
  have h3 : ¬ (m : Int) < 5 := by omega
  have h4 : (0 : Int) < (m : Int) := by omega
  clear hn hm hc hx hxx
  go_enter Try.func26, Try.ntmps26
  go_wp2_with fail
  go_ret2
  exact ⟨rfl, rfl⟩
/-- The first number, k bytes of it. -/
def codK (xs : List Int) : Nat → Nat
  | 0 => 0
  | k + 1 => codK xs k * 256 + (xs.getD (k + 1) 0).toNat
theorem codK_4 (xs : List Int) : codK xs 4 = code4 xs := by simp [codK, code4]
theorem codK_lt (xs : List Int) (h : ∀ k, 0 ≤ xs.getD k 0 ∧ xs.getD k 0 < 256) : ∀ k, codK xs k < 256 ^ k
  | 0 => by simp [codK]
  | k + 1 => by
    have h1 := codK_lt xs h k
    have h2 := h (k + 1)
    rw [codK, Nat.pow_succ]
    omega
set_option maxRecDepth 8000 in
set_option maxHeartbeats 2000000 in
theorem rNew_is (w : World) (A : Option Addr) (m c : Nat) (xs : List Int) (hx : Nums .u8 w A m c xs) (BB : Nat → Prop) (hb1 : ∀ b o, A = some ⟨b, o, none⟩ → BB b) (hb2 : ∀ k, BB k → k < w.heap.size) (n : Nat) (hn : n ≤ 65536) (hm : 5 ≤ m) (hm2 : m ≤ 140737488355328) (h0 : xs.getD 0 0 = 0) :
    Calls Try.prog 26 #[.slice A m c, .int .i64 n] w fun e' w' => ∃ (g : Nat), e' = .returned (.tuple #[.pointer (some ⟨g, 0, none⟩), .int .i64 0]) ∧ w.heap.size ≤ g ∧
      RDecAt w' g (.slice (some ⟨w.heap.size, 0, none⟩) n n) BB A m c xs 5 ⟨List.replicate n 1024, 4294967295, code4 xs, toN (xs.drop 5), false⟩ ∧ Grow w w' := by
  obtain ⟨b, o, rfl, hc⟩ := hx.at_ (by omega)
  have hcl := hc 0 (by omega)
  rw [Nat.add_zero, h0] at hcl
  have h1 : ¬ (n : Int) < 0 := by omega
  have h2 : ¬ (65536 : Int) < (n : Int) := by omega
  have h3 : ¬ (m : Int) < 5 := by omega
  have h4 : (0 : Int) < (m : Int) := by omega
  have HV := Lib.hid (even_is w n hn)
  have HX := Lib.hid hx
  have HF := Lib.hid (And.intro hn (And.intro hm (And.intro hm2 (And.intro hb1 (And.intro hb2 hc)))))
  clear hn hm hm2 hc hx h0 hb1 hb2
  go_enter Try.func26, Try.ntmps26
  go_wp2_with fail
  refine HV.out.mono ?_
  rintro x w1 ⟨rfl, ho, hg⟩
  have HO := Lib.hid ho
  have HG := Lib.hid hg
  clear ho hg HV h1 h2 h3 h4 hcl
  go_wp2_with fail
  have HR : Hid (RDecAt (w1.alloc (.cells #[.slice (some ⟨w.heap.size, 0, none⟩) n n, .int .u64 4294967295, .int .u64 0, .slice (some ⟨b, o, none⟩) m c, .int .i64 5, .bool false] 57)) w1.heap.size (.slice (some ⟨w.heap.size, 0, none⟩) n n) BB (some ⟨b, o, none⟩) m c xs 5 ⟨List.replicate n 1024, 4294967295, codK xs 0, toN (xs.drop 5), false⟩) := by
    refine ⟨heap_alloc_new _ _, ?_, HX.out.grow (HG.out.alloc _), ?_, rfl, HF.out.2.2.2.1, ?_, ?_⟩
    · simp only [List.length_replicate]
      exact owns_any_base (HO.out.alloc _) (Nat.zero_le _)
    · have := HF.out.2.1
      have := HX.out.len
      simp [toN]
      omega
    · intro h9
      have h8 := HF.out.2.2.2.2.1 _ h9
      have := HG.out.size
      omega
    · intro k hk h9
      have h8 := HF.out.2.2.2.2.1 _ h9
      simp [Value.ownBlock] at hk
      omega
  have HG2 : Hid (Grow w (w1.alloc (.cells #[.slice (some ⟨w.heap.size, 0, none⟩) n n, .int .u64 4294967295, .int .u64 0, .slice (some ⟨b, o, none⟩) m c, .int .i64 5, .bool false] 57))) := HG.out.alloc _
  have HZ : Hid (w.heap.size ≤ w1.heap.size) := HG.out.size
  generalize w1.alloc (.cells #[.slice (some ⟨w.heap.size, 0, none⟩) n n, .int .u64 4294967295, .int .u64 0, .slice (some ⟨b, o, none⟩) m c, .int .i64 5, .bool false] 57) = wg at *
  generalize w1.heap.size = g at *
  clear HO HG
  go_loopw [7] (fun vi wr => ∃ (k : Nat), k ≤ 4 ∧ vi = .int .i64 ((k : Int) + 1) ∧ Hid (RDecAt wr g (.slice (some ⟨w.heap.size, 0, none⟩) n n) BB (some ⟨b, o, none⟩) m c xs 5 ⟨List.replicate n 1024, 4294967295, codK xs k, toN (xs.drop 5), false⟩) ∧ Hid (Grow w wr)) (fun vi _ => 5 - (intOf vi).toNat)
  case atStart => exact ⟨0, by omega, rfl, HR.out, HG2.out⟩
  case round =>
    obtain ⟨k, hk, rfl, H1, HK⟩ := hrel
    by_cases hk4 : k < 4
    · have hcb := codK_lt xs (fun k => HX.out.byte k) k
      have hpw : 256 ^ k ≤ 256 ^ 3 := Nat.pow_le_pow_right (by omega) (by omega)
      obtain ⟨x, hx⟩ : ∃ (x : Nat), xs.getD (k + 1) 0 = (x : Int) := ⟨(xs.getD (k + 1) 0).toNat, by have := HX.out.byte (k + 1); omega⟩
      have hcell := HF.out.2.2.2.2.2 (k + 1) (by have := HF.out.2.1; omega)
      have hcell2 := ckp hcell HK.out (fun h => h)
      have hxb := HX.out.byte (k + 1)
      rw [hx] at hcell2 hxb
      have HC : Hid (codK xs (k + 1) = codK xs k * 256 + x) := by show _ = _; rw [codK, hx]; rfl
      obtain ⟨C, hC⟩ : ∃ C, C = codK xs k := ⟨_, rfl⟩
      rw [← hC] at H1 hcb HC
      have hki : (k : Int) + 1 < 5 := by omega
      have hCi : (C : Int) * 256 + (x : Int) < 4294967296 := by omega
      have hC0 : (C : Int) < 16777216 := by omega
      have hxi : (x : Int) < 256 := by omega
      have hki2 : (k : Int) + 1 < (m : Int) := by have := HF.out.2.1; omega
      have HCL := Lib.hid hcell2
      clear hcb hpw hx hcell hcell2 hxb hC hk4
      go_wp2_with fail
      refine wp_region_seq (by kernel_rfl) (by kernel_rfl) ?_
      have HEd := Lib.hid H1.out.drew
      have HKd : Hid (Grow w wr.drew) := HK.out.drew
      have k1 : wr.drew.cell? ⟨b, o + (k + 1), none⟩ = some (.int .u8 (x : Nat)) := HCL.out
      clear H1 HK HCL
      generalize wr.drew = wd at *
      have d2 := blk_cell HEd.out.blk 2
      have f2 := blk_frozen HEd.out.blk 2
      simp at d2
      go_wp2_with fail
      refine ⟨by kernel_rfl, ?_⟩
      have HE2 : Hid (RDecAt (wd.setCell ⟨g, 2, none⟩ (.int .u64 ((C : Int) * 256 + (x : Int)))) g (.slice (some ⟨w.heap.size, 0, none⟩) n n) BB (some ⟨b, o, none⟩) m c xs 5 ⟨List.replicate n 1024, 4294967295, codK xs (k + 1), toN (xs.drop 5), false⟩) :=
        HEd.out.re (d' := ⟨List.replicate n 1024, 4294967295, codK xs (k + 1), toN (xs.drop 5), false⟩) ((Keeps.refl (fun k => k = g) wd).setCell (p := ⟨g, 2, none⟩) (fun _ => rfl) _) (by rw [HC.out, show ((C * 256 + x : Nat) : Int) = (C : Int) * 256 + (x : Int) by omega]; exact blk_set HEd.out.blk 2 (.int .u64 ((C : Int) * 256 + (x : Int)))) rfl HEd.out.len HEd.out.rest
      have HK2 : Hid (Grow w (wd.setCell ⟨g, 2, none⟩ (.int .u64 ((C : Int) * 256 + (x : Int))))) := HKd.out.setCell (p := ⟨g, 2, none⟩) (fun h => by have := HZ.out; simp only at h; omega) _
      clear d2 f2 k1 HEd HKd
      generalize wd.setCell ⟨g, 2, none⟩ (.int .u64 ((C : Int) * 256 + (x : Int))) = w2 at *
      go_wp2_with fail
      go_roundw
      case rel => exact ⟨k + 1, by omega, by go_num, HE2.out, HK2.out⟩
      case measure => simp [intOf]; omega
    · obtain rfl : k = 4 := by omega
      clear hk hk4
      have HR9 : Hid (RDecAt wr g (.slice (some ⟨w.heap.size, 0, none⟩) n n) BB (some ⟨b, o, none⟩) m c xs 5 ⟨List.replicate n 1024, 4294967295, code4 xs, toN (xs.drop 5), false⟩) := by
        show RDecAt _ _ _ _ _ _ _ _ _ _
        rw [← codK_4]
        exact H1.out
      clear H1
      go_wp2_with fail
      go_ret2
      exact ⟨g, rfl, HZ.out, HR9.out, HK.out⟩
end Go.Proofs.Ytiikbpcaeoodjaa
