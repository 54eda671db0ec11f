/- hamperlaw11.spoilt. -/
import Derived.Test.YteccmnjcmmbhlaaPkR
import Derived.Test.YteccmnjcmmbhlaaUnR
import Derived.Test.YteccmnjcmmbhlaaNxL
namespace Go.Proofs.Yteccmnjcmmbhlaa
open Go.RowKit
set_option linter.unusedVariables false
set_option linter.unusedSimpArgs false

set_option maxRecDepth 4000 in
set_option maxHeartbeats 2000000 in
theorem spoilt11_is (w : World) (B B2 : Nat) (A A2 : Option Addr) (n c c2 : Nat) (xs : List Int) (h : w.ownsRow B 5 1 (.slice A n c) n (xs.map (Value.int .u8))) (h2 : w.ownsRow B2 5 1 (.slice A2 n c2) n (xs.map (Value.int .u8))) :
    Calls Try.prog 25 #[.slice A n c, .slice A2 n c2] w fun e w' => e = .returned (.bool true) ∧ Keeps (fun k => (Value.slice A n c).ownBlock = some k) w w' := by
  have hl : xs.length = n := by have := h.1; simp at this; exact this
  have hcv1 := run_str_src (P := Try.prog) (w := w) (xs := xs) Try.underlying22 Try.underlying5 Try.underlying9 (src_own h (fun u hu => by obtain ⟨y, _, rfl⟩ := List.mem_map.1 hu; rfl))
  have hcv2 := run_str_src (P := Try.prog) (w := w) (xs := xs) Try.underlying22 Try.underlying5 Try.underlying9 (src_own h2 (fun u hu => by obtain ⟨y, _, rfl⟩ := List.mem_map.1 hu; rfl))
  generalize strOfNums xs = Z at *
  rcases h.2 with ⟨hv, rfl⟩ | ⟨g, cap, cur, hv, hg, hh, hnc, hcm, hcs, htake⟩
  · injection hv with hv _ hc
    subst hv hc
    clear h h2
    go_enter Try.func25, Try.ntmps25
    go_wp2_with fail
    go_loopw [5] (fun vi wr => vi = .int .i64 0 ∧ w = wr) (fun _ _ => 0)
    case atStart => exact ⟨rfl, rfl⟩
    case round =>
      obtain ⟨rfl, rfl⟩ := hrel
      go_wp2_with fail
      go_ret
      exact ⟨rfl, Keeps.refl _ _⟩
  · injection hv with hv _ hc
    subst hv hc
    have HC := Lib.hid (own_cell (w := w) (B := B) (e := 0) (g := g) hl hcs htake)
    have hsz : n ≤ cur.size := by omega
    have hn : n ≤ 9223372036854775807 := by simp only [maxLen] at hcm; omega
    generalize hS : (fun k => (Value.slice (some ⟨g, 0, none⟩) n c).ownBlock = some k) = S
    have HS : Hid (∀ k, S k ↔ g = k) := fun k => by rw [← hS]; simp [Value.ownBlock]
    clear h h2 htake hcs hS
    go_enter Try.func25, Try.ntmps25
    go_wp2_with fail
    clear hcv1 hcv2
    go_loopw [5] (fun vi wr => ∃ (i : Nat) (cs : Array Value), vi = .int .i64 i ∧ i ≤ n ∧ Hid (wr.heap[g]? = some (.cells cs 5 (0, 0))) ∧ n ≤ cs.size ∧ Hid (∀ j, i ≤ j → cs[j]? = cur[j]?) ∧ Hid (Keeps S w wr)) (fun vi _ => n - (intOf vi).toNat)
    case atStart => exact ⟨0, cur, rfl, by omega, hh, hsz, fun _ _ => rfl, Keeps.refl _ _⟩
    case round =>
      obtain ⟨i, cs, rfl, hi, HB, hcz, HE, HK⟩ := hrel
      by_cases hin : i < n
      · have c1 : wr.cell? ⟨g, i, none⟩ = some (.int .u8 (xs.getD i 0)) := by rw [blk_cell HB.out, HE.out i (Nat.le_refl _), HC.out i hin]
        have f1 := blk_frozen HB.out i
        generalize xs.getD i 0 = x at *
        go_wp2_with fail
        go_roundw
        case rel =>
          refine ⟨i + 1, _, by go_num, by omega, blk_set HB.out i _, by simpa using hcz, fun j hj => ?_, ?_⟩
          · rw [← HE.out j (by omega)]
            exact Array.getElem?_setIfInBounds_ne (by omega)
          · exact HK.out.setCell (p := ⟨g, i, none⟩) (fun _ => (HS.out g).2 rfl) _
        case measure => exact meas hin
      · obtain rfl : n = i := by omega
        go_wp2_with fail
        go_ret
        exact ⟨rfl, HK.out⟩
theorem Try.names11_fn (w : World) : Calls Try.prog 21 #[] w fun e w' => e = .returned (.bool true) ∧ w = w' := by
  go_enter Try.func21, Try.ntmps21
  go_wp2_with fail
  go_ret
  exact ⟨rfl, rfl⟩
end Go.Proofs.Yteccmnjcmmbhlaa
