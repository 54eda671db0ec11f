/- Bytes sorted: slices.Sort; slices.Values, slices.Collect. -/
import Derived.Test.YteccmnjcmmbhlaaSoL
import Derived.RangeFuncBox
import Derived.RangeFuncNested
import Derived.RangeFuncLeaves
import Derived.Shelf.Abstract
import Derived.OwnWalkIn
import Derived.TacticsInMore
import Derived.LoopNIn
import Derived.LoopIn
import Derived.Maps.AppendAt
import Derived.Sort.QuietIn
namespace Go.Proofs.Yteccmnjcmmbhlaa
open Go.RowKit Go.Shelf
open Go.Sort (PermIn SortedIn Below)
open Go.Sort (ltInt)
set_option linter.unusedVariables false
set_option linter.unusedSimpArgs false

theorem ins_nil (w : World) : Calls Try.prog 53 #[.slice none 0 0, .int .i64 0, .int .i64 0] w fun e w' => e = .returned (.tuple #[]) ∧ w' = w := by
  go_enter Try.func53, Try.ntmps53
  go_wp2_with fail
  go_loopw [6, 7] (fun vi _ wr => vi = .int .i64 1 ∧ wr = w) (fun _ _ _ => 0)
  case atStart => exact ⟨rfl, rfl⟩
  case round =>
    obtain ⟨rfl, rfl⟩ := hrel
    go_wp2_with fail
    go_end0
    exact ⟨rfl, rfl⟩
theorem pdq_nil (w : World) (l : Nat) : Calls Try.prog 51 #[.slice none 0 0, .int .i64 0, .int .i64 0, .int .i64 (l : Nat)] w fun e w' => e = .returned (.tuple #[]) ∧ w' = w := by
  go_enter Try.func51, Try.ntmps51
  go_wp2_with fail
  go_loopw [1, 2] (fun va vb wr => va = .int .i64 0 ∧ vb = .int .i64 0 ∧ wr = w) (fun _ _ _ => 0)
  case atStart => exact ⟨rfl, rfl, rfl⟩
  case round =>
    obtain ⟨rfl, rfl, rfl⟩ := hrel
    go_wp2_with fail
    refine (ins_nil wr).mono ?_
    rintro e _ ⟨rfl, rfl⟩
    go_wp2_with fail
    refine bodyPost_ret (results_none rfl _ _ _) rfl ⟨rfl, rfl⟩
theorem sortB_nil (w : World) : Calls Try.prog 46 #[.slice none 0 0] w fun e w' => e = .returned (.tuple #[]) ∧ w' = w := by
  have HL := Lib.hid (Try.len_is 0 w (by decide) (by decide))
  go_enter Try.func46, Try.ntmps46
  go_wp2_with fail
  refine HL.out.mono ?_
  rintro e _ ⟨rfl, rfl⟩
  go_wp2_with fail
  refine (pdq_nil _ _).mono ?_
  rintro e _ ⟨rfl, rfl⟩
  go_wp2_with fail
  go_end0
  exact ⟨rfl, rfl⟩
theorem sortB_is (w : World) {g n cap : Nat} {d : Array Int} (h : RowD w g cap d) (hn : d.size = n) (hnb : n ≤ 1099511627776) :
    Calls Try.prog 46 #[.slice (some ⟨g, 0, none⟩) n cap] w fun e w' => e = .returned (.tuple #[]) ∧ ∃ d', PermIn 0 n d d' ∧ SortedIn ltInt 0 n d' ∧ RowD w' g cap d' ∧ Keeps (fun k => k = g) w w' := by
  have HL := Lib.hid (Try.len_is (n : Int) w (by omega) (by omega))
  have hbl : Lib.bitLen (n : Int).toNat ≤ 64 := by
    rw [Int.toNat_natCast, bitLen_eq _ (by omega)]
    exact (Go.Sort.bitsLen_le_iff n 64).2 (by omega)
  obtain ⟨l, hl⟩ : ∃ l, l = Lib.bitLen (n : Int).toNat := ⟨_, rfl⟩
  rw [← hl] at HL hbl
  have HP := Lib.hid (pdq_is (n + 1) w (a := 0) (b := n) (l := l) h hn (Nat.zero_le _) (Nat.le_refl _) (by omega) hnb (Or.inl rfl) hbl)
  have hni : (n : Int) ≤ 1099511627776 := by omega
  clear hl h hbl
  go_enter Try.func46, Try.ntmps46
  go_wp2_with fail
  refine HL.out.mono ?_
  rintro e _ ⟨rfl, rfl⟩
  go_wp2_with fail
  refine HP.out.mono ?_
  rintro e w2 ⟨rfl, hd⟩
  have HD := Lib.hid hd
  clear hd
  go_wp2_with fail
  go_end0
  exact ⟨rfl, HD.out⟩

theorem values_is (w : World) (A : Option Addr) (n c : Nat) :
    Calls Try.prog 37 #[.slice A n c] w fun e w' => e = .returned (.func (.func 47) #[] #[.pointer (some ⟨w.heap.size, 0, none⟩)]) ∧ w' = w.alloc (.cells #[.slice A n c] 22) := by
  go_enter Try.func37, Try.ntmps37
  go_wp2_with fail
  go_ret
  exact ⟨rfl, rfl⟩
end Go.Proofs.Yteccmnjcmmbhlaa
