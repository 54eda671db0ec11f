/- xz: small helpers, the program's and the document's. -/
import Derived.Test.YtoeapobpdfidkaaVar3
import Derived.Test.YtoeapobpdfidkaaHead
import Derived.Test.YtoeapobpdfidkaaConI
namespace Go.Proofs.Ytoeapobpdfidkaa
open Go.RowKit
set_option linter.unusedVariables false
set_option linter.unusedSimpArgs false

theorem xlow_is (w : World) (v n : Nat) (hn1 : 1 ≤ n) (hn8 : n ≤ 8) (hv : v < 256 ^ n) :
    Calls Try.prog 84 #[.int .u64 (v : Nat), .int .i64 (n : Nat)] w fun e w' => ∃ A' c', e = .returned (.slice A' n c') ∧ w'.ownsRow w.heap.size 5 1 (.slice A' n c') n ((leN v n).map (Value.int .u8)) ∧ Grow w w' := by
  have H := Lib.hid (lay_is w none 0 0 v n [] ⟨rfl, by simp, Nat.le_refl _, fun _ => rfl, fun h => absurd h (by decide)⟩ (by decide) hn1 hn8 hv)
  clear hn1 hn8 hv
  go_enter Try.func84, Try.ntmps84
  go_wp2_with fail
  refine H.out.mono ?_
  rintro x w1 ⟨A', c', rfl, ho, hg⟩
  simp only [Nat.zero_add, List.nil_append] at ho
  have HO := Lib.hid ho
  have HG := Lib.hid hg
  clear ho hg H
  go_wp2_with fail
  go_ret
  exact ⟨A', c', by simp, HO.out, HG.out⟩
/-- A text's sum, in bytes. -/
def crcN (xs : List Int) : Nat := not32 (crcAll 3988292384 (not32 0) (xs.map Int.toNat))
theorem crcN_lt {w : World} {A : Option Addr} {n c : Nat} {xs : List Int} (h : Nums .u8 w A n c xs) : crcN xs < 4294967296 := not32_lt _ (crcAll_lt _ (by decide) _ (bs_of_nums h).2.1 _ (not32_lt 0 (by decide)))
set_option maxRecDepth 4000 in
theorem xsum_is (w : World) (A : Option Addr) (n c : Nat) (xs : List Int) (h : Nums .u8 w A n c xs) (hn : n ≤ 140737488355328) :
    Calls Try.prog 62 #[.slice A n c] w fun e w' => ∃ A' c', e = .returned (.slice A' 4 c') ∧ w'.ownsRow w.heap.size 5 1 (.slice A' 4 c') 4 ((leN (crcN xs) 4).map (Value.int .u8)) ∧ Grow w w' := by
  have HC := Lib.hid (crc32_is w 0 A n c _ (by decide) (bs_of_nums h) (by omega))
  obtain ⟨S, hS⟩ : ∃ S, S = crcN xs := ⟨_, rfl⟩
  have hSb : S < 4294967296 := by rw [hS]; exact crcN_lt h
  have hSe : not32 (crcAll 3988292384 (not32 0) (xs.map Int.toNat)) = S := by rw [hS]; rfl
  rw [hSe] at HC
  rw [← hS]
  have hSi : (S : Int) < 4294967296 := by omega
  clear hS hSe h hn
  go_enter Try.func62, Try.ntmps62
  go_wp2_with fail
  refine HC.out.mono ?_
  rintro x w1 ⟨rfl, hg1⟩
  have HG1 := Lib.hid hg1
  clear hg1 HC
  go_wp2_with fail
  refine (xlow_is w1 S 4 (by decide) (by decide) (by omega)).mono ?_
  rintro x w2 ⟨A', c', rfl, ho, hg⟩
  have HO := Lib.hid ho
  have HG := Lib.hid hg
  clear ho hg
  go_wp2_with fail
  go_ret
  exact ⟨A', c', rfl, owns_any_base HO.out HG1.out.size, Grow.trans _ _ _ HG1.out HG.out⟩
set_option maxRecDepth 4000 in
theorem rcrc_is (w : World) (A : Option Addr) (n c : Nat) (xs : List Int) (h : Nums .u8 w A n c xs) (hn : n ≤ 140737488355328) :
    Calls Try.prog 66 #[.slice A n c] w fun e w' => ∃ A' c', e = .returned (.slice A' 4 c') ∧ w'.ownsRow w.heap.size 5 1 (.slice A' 4 c') 4 ((leN (crcN xs) 4).map (Value.int .u8)) ∧ Grow w w' := by
  have HC := Lib.hid (refCrc_is w 0 A n c _ (by decide) (bs_of_nums h) (by omega))
  obtain ⟨S, hS⟩ : ∃ S, S = crcN xs := ⟨_, rfl⟩
  have hSb : S < 4294967296 := by rw [hS]; exact crcN_lt h
  have hSe : not32 (crcAll 3988292384 (not32 0) (xs.map Int.toNat)) = S := by rw [hS]; rfl
  rw [hSe] at HC
  rw [← hS]
  have hSi : (S : Int) < 4294967296 := by omega
  clear hS hSe h hn
  go_enter Try.func66, Try.ntmps66
  go_wp2_with fail
  refine HC.out.mono ?_
  rintro x w1 ⟨rfl, hw⟩
  rw [← hw]
  clear hw w1 HC
  have HF : Hid (Calls Try.prog 85 #[.int .i64 (S : Nat)] w fun e w' => ∃ A' c', e = .returned (.slice A' 4 c') ∧ w'.ownsRow w.heap.size 5 1 (.slice A' 4 c') 4 ((leN S 4).map (Value.int .u8)) ∧ Grow w w') := by
    show Calls _ _ _ _ _
    have H := Lib.hid (bytes_is w S 4 (by omega) (by decide))
    go_enter Try.func85, Try.ntmps85
    go_wp2_with fail
    refine H.out.mono ?_
    rintro x w1 ⟨A', c', rfl, ho, hg⟩
    have HO := Lib.hid ho
    have HG := Lib.hid hg
    clear ho hg H
    go_wp2_with fail
    go_ret
    exact ⟨A', c', rfl, HO.out, HG.out⟩
  go_wp2_with fail
  refine HF.out.mono ?_
  rintro x w2 ⟨A', c', rfl, ho, hg⟩
  have HO := Lib.hid ho
  have HG := Lib.hid hg
  clear ho hg HF
  go_wp2_with fail
  go_ret
  exact ⟨A', c', rfl, HO.out, HG.out⟩
/-- A text filled up. -/
def padN (m : Nat) : Nat := (4 - m % 4) % 4
def fillP (xs : List Int) : List Int := xs ++ List.replicate (padN xs.length) 0
/-- A record that may be. -/
def mayP (s t : Int) : Bool := decide (5 ≤ s) && decide (s ≤ 1099511627776) && (decide (0 ≤ t) && decide (t ≤ 1099511627776))
set_option maxRecDepth 4000 in
set_option maxHeartbeats 1000000 in
theorem xmay_is (w : World) (s t : Int) :
    Calls Try.prog 59 #[.agg #[.int .i64 s, .int .i64 t]] w fun e w' => e = .returned (.bool (mayP s t)) ∧ Grow w w' := by
  obtain ⟨b1, e1⟩ : ∃ b, decide ((5 : Int) ≤ s) = b := ⟨_, rfl⟩
  obtain ⟨b2, e2⟩ : ∃ b, decide (s ≤ (1099511627776 : Int)) = b := ⟨_, rfl⟩
  obtain ⟨b3, e3⟩ : ∃ b, decide ((0 : Int) ≤ t) = b := ⟨_, rfl⟩
  obtain ⟨b4, e4⟩ : ∃ b, decide (t ≤ (1099511627776 : Int)) = b := ⟨_, rfl⟩
  have hm : mayP s t = (b1 && b2 && (b3 && b4)) := by unfold mayP; rw [e1, e2, e3, e4]
  have HM := Lib.hid hm
  clear hm
  cases b1 <;> cases b2 <;> cases b3 <;> cases b4
  all_goals
    go_enter Try.func59, Try.ntmps59
    go_wp2_with fail
    go_ret
    exact ⟨by rw [HM.out]; rfl, (Keeps.refl _ w).alloc _⟩
set_option maxRecDepth 4000 in
set_option maxHeartbeats 1000000 in
theorem rmay_is (w : World) (s t : Int) :
    Calls Try.prog 64 #[.agg #[.int .i64 s, .int .i64 t]] w fun e w' => e = .returned (.bool (mayP s t)) ∧ Grow w w' := by
  obtain ⟨b1, e1⟩ : ∃ b, decide ((5 : Int) ≤ s) = b := ⟨_, rfl⟩
  obtain ⟨b2, e2⟩ : ∃ b, decide (s ≤ (1099511627776 : Int)) = b := ⟨_, rfl⟩
  obtain ⟨b3, e3⟩ : ∃ b, decide ((0 : Int) ≤ t) = b := ⟨_, rfl⟩
  obtain ⟨b4, e4⟩ : ∃ b, decide (t ≤ (1099511627776 : Int)) = b := ⟨_, rfl⟩
  have hm : mayP s t = (b1 && b2 && (b3 && b4)) := by unfold mayP; rw [e1, e2, e3, e4]
  have HM := Lib.hid hm
  clear hm
  cases b1 <;> cases b2 <;> cases b3 <;> cases b4
  all_goals
    go_enter Try.func64, Try.ntmps64
    go_wp2_with fail
    go_ret
    exact ⟨by rw [HM.out]; rfl, (Keeps.refl _ w).alloc _⟩
theorem xnot_is (w : World) (s t : Int) :
    Calls Try.prog 58 #[.agg #[.int .i64 s, .int .i64 t]] w fun e w' => e = .returned (.bool (!mayP s t)) ∧ Grow w w' := by
  obtain ⟨b, hb⟩ : ∃ b, b = mayP s t := ⟨_, rfl⟩
  have HM := Lib.hid (fun w => xmay_is w s t)
  rw [← hb] at HM ⊢
  clear hb
  go_enter Try.func58, Try.ntmps58
  go_wp2_with fail
  refine (HM.out _).mono ?_
  rintro x w1 ⟨rfl, hg⟩
  have HG := Lib.hid hg
  clear hg HM
  go_wp2_with fail
  go_ret
  exact ⟨rfl, Grow.trans _ _ _ ((Keeps.refl _ w).alloc _) HG.out⟩
theorem neg3 (m : Nat) (hm : m ≤ 4194304) : bits .and .i64 (-(m : Int)) 3 = ((padN m : Nat) : Int) := by
  show IntKind.i64.wrap ((BitVec.ofInt 64 (-(m : Int)) &&& BitVec.ofInt 64 3).toNat : Int) = _
  obtain ⟨x, hx⟩ : ∃ x, x = (BitVec.ofInt 64 (-(m : Int))).toNat := ⟨_, rfl⟩
  have hx2 : x = (18446744073709551616 - m) % 18446744073709551616 := by
    rw [hx, BitVec.toNat_ofInt]
    show ((-(m : Int)) % ((18446744073709551616 : Nat) : Int)).toNat = _
    omega
  have h3 : (BitVec.ofInt 64 3).toNat = 2 ^ 2 - 1 := by decide
  rw [BitVec.toNat_and, ← hx, h3, Nat.and_two_pow_sub_one_eq_mod]
  have hp : x % 2 ^ 2 = padN m := by unfold padN; omega
  rw [hp]
  rcases (show padN m = 0 ∨ padN m = 1 ∨ padN m = 2 ∨ padN m = 3 by unfold padN; omega) with h | h | h | h <;> rw [h] <;> decide
set_option maxRecDepth 4000 in
set_option maxHeartbeats 1000000 in
theorem fill_is (w : World) (A : Option Addr) (m c B : Nat) (xs : List Int) (ho : w.ownsRow B 5 1 (.slice A m c) m (xs.map (Value.int .u8))) (hl : xs.length = m) (hB : B ≤ w.heap.size) (hm : m ≤ 4194304) :
    Calls Try.prog 61 #[.slice A m c] w fun e w' => ∃ A' c', e = .returned (.slice A' (m + padN m) c') ∧ w'.ownsRow B 5 1 (.slice A' (m + padN m) c') (m + padN m) ((fillP xs).map (Value.int .u8)) ∧ Keeps (fun k => (Value.slice A m c).ownBlock = some k) w w' := by
  have hng := neg3 m hm
  have hp4 : padN m < 4 := by unfold padN; omega
  have HFP : Hid (fillP xs = xs ++ List.replicate (padN m) 0) := by show _ = _; unfold fillP; rw [hl]
  obtain ⟨k, hk⟩ : ∃ k, k = padN m := ⟨_, rfl⟩
  rw [← hk] at hng hp4 HFP ⊢
  have HO := Lib.hid ho
  have hmi : (m : Int) ≤ 4194304 := by omega
  have hki : (k : Int) < 4 := by omega
  clear hk ho hl
  go_enter Try.func61, Try.ntmps61
  go_wp2_with (at_builtin; refine wpList_appZ rfl (.tmp 3) (.tmp 7) 51 3 5 rfl Try.underlying51 Try.underlying3 Try.infoU8l rfl rfl B _ m _ rfl HO.out hB .i64 k rfl (by unfold maxLen; omega) (by omega) ?_)
  intro A1 c1 w1 ho1 hk1 _
  have HO1 := Lib.hid ho1
  have HK1 := Lib.hid hk1
  clear ho1 hk1
  go_wp2_with fail
  go_ret
  exact ⟨A1, c1, rfl, by rw [HFP.out, List.map_append, List.map_replicate]; exact HO1.out, HK1.out⟩
end Go.Proofs.Ytoeapobpdfidkaa
