/- hamperlaw11.same of two equal rows: true; the first one's block alone is turned. -/
import Derived.Test.YteccmnjcmmbhlaaSymR
namespace Go.Proofs.Yteccmnjcmmbhlaa
open Go.RowKit
set_option linter.unusedVariables false
set_option linter.unusedSimpArgs false

theorem own_cell {w : World} {B e n g cap : Nat} {k : IntKind} {cur : Array Value} {xs : List Int} (hl : xs.length = n) (hcs : cur.size = cap * 1) (htake : cur.toList.take (n * 1) = xs.map (Value.int k)) (j : Nat) (hj : j < n) : cur[j]? = some (.int k (xs.getD j 0)) := by
  have h1 : (cur.toList.take (n * 1))[j]? = (xs.map (Value.int k))[j]? := by rw [htake]
  have hx : xs[j]? = some (xs.getD j 0) := by simp [List.getD_eq_getElem?_getD, show j < xs.length by omega]
  rw [List.getElem?_take, if_pos (by omega), List.getElem?_map, hx] at h1
  simpa using h1

theorem own_at {w : World} {B e n c : Nat} {A : Option Addr} {k : IntKind} {xs : List Int} (h : w.ownsRow B e 1 (.slice A n c) n (xs.map (Value.int k))) (j : Nat) (hj : j < n) : ∃ b, A = some ⟨b, 0, none⟩ ∧ w.cell? ⟨b, j, none⟩ = some (.int k (xs.getD j 0)) := by
  have hl : xs.length = n := by have := h.1; simp at this; exact this
  rcases h.2 with ⟨hv, rfl⟩ | ⟨g, cap, cur, hv, hg, hh, hnc, hcm, hcs, htake⟩
  · omega
  · injection hv with hv _ hc
    exact ⟨g, hv, by rw [blk_cell hh, own_cell (w := w) (B := B) (e := e) (g := g) hl hcs htake j hj]⟩

set_option maxRecDepth 4000 in
set_option maxHeartbeats 2000000 in
theorem same_is (w : World) (B B2 : Nat) (A A2 : Option Addr) (n c c2 : Nat) (xs : List Int) (h : w.ownsRow B 3 1 (.slice A n c) n (xs.map (Value.int .i64))) (h2 : w.ownsRow B2 3 1 (.slice A2 n c2) n (xs.map (Value.int .i64)))
    (hne : ∀ b, (Value.slice A2 n c2).ownBlock = some b → (Value.slice A n c).ownBlock ≠ some b) :
    Calls Try.prog 20 #[.slice A n c, .slice A2 n c2] w fun e w' => e = .returned (.bool true) ∧ Keeps (fun k => (Value.slice A n c).ownBlock = some k) w w' := by
  have hl : xs.length = n := by have := h.1; simp at this; exact this
  rcases h.2 with ⟨hv, rfl⟩ | ⟨g, cap, cur, hv, hg, hh, hnc, hcm, hcs, htake⟩
  · injection hv with hv _ hc
    subst hv hc
    go_enter Try.func20, Try.ntmps20
    go_wp2_with fail
    go_loopw [5] (fun vi wr => vi = .int .i64 0 ∧ w = wr) (fun _ _ => 0)
    case atStart => exact ⟨rfl, rfl⟩
    case round =>
      obtain ⟨rfl, rfl⟩ := hrel
      go_wp2_with fail
      go_ret
      exact ⟨rfl, Keeps.refl _ _⟩
  · injection hv with hv _ hc
    subst hv hc
    have HC := Lib.hid (own_cell (w := w) (B := B) (e := 0) (g := g) hl hcs htake)
    have hsz : n ≤ cur.size := by omega
    have hn : n ≤ 9223372036854775807 := by simp only [maxLen] at hcm; omega
    have HNE : Hid (∀ b, (Value.slice A2 n c2).ownBlock = some b → g ≠ b) := fun b e hb => hne b e (by rw [hb]; rfl)
    generalize hS : (fun k => (Value.slice (some ⟨g, 0, none⟩) n c).ownBlock = some k) = S
    have HS : Hid (∀ k, S k ↔ g = k) := fun k => by rw [← hS]; simp [Value.ownBlock]
    have H2 := Lib.hid h2
    clear hne h htake hcs hS h2
    go_enter Try.func20, Try.ntmps20
    go_wp2_with fail
    go_loopw [5] (fun vi wr => ∃ (i : Nat) (cs : Array Value), vi = .int .i64 i ∧ i ≤ n ∧ Hid (wr.heap[g]? = some (.cells cs 3 (0, 0))) ∧ n ≤ cs.size ∧ Hid (∀ j, i ≤ j → cs[j]? = cur[j]?) ∧ Hid (Keeps S w wr)) (fun vi _ => n - (intOf vi).toNat)
    case atStart => exact ⟨0, cur, rfl, by omega, hh, hsz, fun _ _ => rfl, Keeps.refl _ _⟩
    case round =>
      obtain ⟨i, cs, rfl, hi, HB, hcz, HE, HK⟩ := hrel
      by_cases hin : i < n
      · have c1 : wr.cell? ⟨g, i, none⟩ = some (.int .i64 (xs.getD i 0)) := by rw [blk_cell HB.out, HE.out i (Nat.le_refl _), HC.out i hin]
        have f1 := blk_frozen HB.out i
        obtain ⟨b2, rfl, c3⟩ := own_at (owns_keep H2.out HK.out (fun b e hs => HNE.out b e ((HS.out b).1 hs))) i hin
        generalize xs.getD i 0 = x at *
        go_wp2_with fail
        refine wp_region_seq (by kernel_rfl) (by kernel_rfl) ?_
        go_wp2_with fail
        refine ⟨by kernel_rfl, ?_⟩
        go_wp2_with fail
        go_roundw
        case rel =>
          refine ⟨i + 1, _, by go_num, by omega, blk_set (w := wr.drew) (show wr.drew.heap[g]? = _ from HB.out) i _, by simpa using hcz, fun j hj => ?_, ?_⟩
          · rw [← HE.out j (by omega)]
            exact Array.getElem?_setIfInBounds_ne (by omega)
          · exact (HK.out.drew).setCell (p := ⟨g, i, none⟩) (fun _ => (HS.out g).2 rfl) _
        case measure => simp [intOf]; omega
      · obtain rfl : n = i := by omega
        go_wp2_with fail
        go_ret
        exact ⟨rfl, HK.out⟩
end Go.Proofs.Yteccmnjcmmbhlaa
