/- Adler's sum, the program's and the document's; the program's Crc32. -/
import Derived.Test.YtcackdcjepifpaaCrcAlong
namespace Go.Proofs.Ytcackdcjepifpaa
open Go.RowKit
set_option linter.unusedVariables false
set_option linter.unusedSimpArgs false

theorem crc32_is (w : World) (a : Nat) (A : Option Addr) (n c : Nat) (xs : List Nat) (ha : a < 4294967296) (h : Bs w A n xs) (hn : n ≤ 140737488355328) :
    Calls Try.prog 10 #[.int .u32 a, .slice A n c] w fun e w' => e = .returned (.int .u32 (not32 (crcAll 3988292384 (not32 a) xs) : Nat)) ∧ Grow w w' := by
  have H := Lib.hid (along_is w a A n c xs ha h hn)
  clear h ha
  go_enter Try.func10, Try.ntmps10
  go_wp2_with fail
  refine H.out.mono ?_
  rintro e w1 ⟨rfl, k⟩
  go_wp2_with fail
  go_ret
  exact ⟨rfl, k⟩

def adStep (s : Nat × Nat) (c : Nat) : Nat × Nat := ((s.1 + c) % 65521, (s.2 + (s.1 + c) % 65521) % 65521)
def adAll (s : Nat × Nat) (xs : List Nat) : Nat × Nat := xs.foldl adStep s
theorem adAll_step (s : Nat × Nat) (xs : List Nat) (i : Nat) (h : i < xs.length) : adAll s (xs.take (i + 1)) = adStep (adAll s (xs.take i)) (xs.getD i 0) := by
  have hx : xs[i]? = some (xs.getD i 0) := by rw [List.getElem?_eq_getElem h, List.getD_eq_getElem?_getD, List.getElem?_eq_getElem h]; rfl
  rw [List.take_add_one, hx]
  simp [adAll, List.foldl_append]
theorem adAll_lt (xs : List Nat) : ∀ s : Nat × Nat, s.1 < 65536 ∧ s.2 < 65536 → (adAll s xs).1 < 65536 ∧ (adAll s xs).2 < 65536 := by
  induction xs with
  | nil => intro s h; exact h
  | cons x xs ih =>
    intro s h
    exact ih _ ⟨Nat.lt_of_lt_of_le (Nat.mod_lt _ (by decide)) (by decide), Nat.lt_of_lt_of_le (Nat.mod_lt _ (by decide)) (by decide)⟩
def adSum (a : Nat) (xs : List Nat) : Nat := (adAll (a % 65536, a / 65536) xs).2 * 65536 + (adAll (a % 65536, a / 65536) xs).1

set_option maxRecDepth 4000 in
set_option maxHeartbeats 1000000 in
theorem refAdler_is (w : World) (a : Nat) (A : Option Addr) (n c : Nat) (xs : List Nat) (ha : a < 4294967296) (h : Bs w A n xs) (hn : n ≤ 140737488355328) :
    Calls Try.prog 18 #[.int .u32 a, .slice A n c] w fun e w' => e = .returned (.int .u32 (adSum a xs : Nat)) ∧ w = w' := by
  have HS : Hid (adSum a xs = (adAll (a % 65536, a / 65536) xs).2 * 65536 + (adAll (a % 65536, a / 65536) xs).1) := rfl
  have hs0 : (a % 65536, a / 65536).1 < 65536 ∧ (a % 65536, a / 65536).2 < 65536 := ⟨Nat.mod_lt _ (by decide), by show a / 65536 < 65536; omega⟩
  have e1 : (a : Int) % 65536 = ((a % 65536, a / 65536).1 : Nat) := by show _ = ((a % 65536 : Nat) : Int); omega
  have e2 : (a : Int) / 65536 = ((a % 65536, a / 65536).2 : Nat) := by show _ = ((a / 65536 : Nat) : Int); omega
  generalize (a % 65536, a / 65536) = s0 at *
  generalize adSum a xs = S at *
  have H0 := Lib.hid hs0
  have HE1 := Lib.hid e1
  have HE2 := Lib.hid e2
  clear e1 e2
  have HB := Lib.hid h
  have hlen : xs.length = n := h.1
  clear h hs0
  go_enter Try.func18, Try.ntmps18
  go_wp2_with fail
  go_loopw [5, 6, 7] (fun vx vy vi wr => ∃ (i : Nat), i ≤ n ∧ vi = .int .i64 i ∧ vx = .int .u32 ((adAll s0 (xs.take i)).1 : Nat) ∧ vy = .int .u32 ((adAll s0 (xs.take i)).2 : Nat) ∧ wr = w) (fun _ _ vi _ => n - (intOf vi).toNat)
  case atStart => exact ⟨0, by omega, rfl, by rw [HE1.out]; rfl, by rw [HE2.out]; rfl, rfl⟩
  case round =>
    obtain ⟨i, hi, rfl, rfl, rfl, rfl⟩ := hrel
    by_cases hin : i < n
    · have h := HB.out
      obtain ⟨b, o, rfl, hc⟩ := h.2.2 (by omega)
      have hcell := hc i hin
      have hb := h.byte i
      have hst := adAll_step s0 xs i (by omega)
      have hlt := adAll_lt (xs.take i) s0 H0.out
      generalize xs.getD i 0 = x at *
      generalize adAll s0 (xs.take i) = s at *
      obtain ⟨X, Y⟩ := s
      simp only at hlt
      have HST := Lib.hid hst
      have hin' : (i : Int) < n := by omega
      clear hst hc h
      go_wp2_with fail
      go_roundw
      case rel => exact ⟨i + 1, by omega, by go_num, by rw [HST.out]; rfl, by rw [HST.out]; rfl, by trivial⟩
      case measure => simp [intOf]; omega
    · obtain rfl : i = n := by omega
      rw [List.take_of_length_le (by omega)]
      have hlt := adAll_lt xs s0 H0.out
      generalize adAll s0 xs = s at *
      obtain ⟨X, Y⟩ := s
      simp only at hlt HS
      go_wp2_with fail
      go_ret
      exact ⟨by rw [HS.out]; rfl, rfl⟩

theorem and16_u32 (a : Nat) (ha : a < 4294967296) : bits .and .u32 (a : Int) 65535 = (a : Int) % 65536 :=
  bits_mask .u32 32 (by decide) (fun m a b => by rw [IntKind.wrap_u32]; omega) 16 (by decide) (a : Int) (by omega) (by omega)
theorem join16 (X Y : Nat) (hX : X < 65536) (hY : Y < 65536) : bits .or .u32 ((Y : Int) * 65536) (X : Int) = ((Y * 65536 + X : Nat) : Int) := by
  have e : (Y : Int) * 65536 = ((Y * 65536 : Nat) : Int) := by omega
  rw [e, u32_or _ _ (by omega) (by omega) (by omega) (by omega), Int.toNat_natCast, Int.toNat_natCast, nat_join 16 _ _ (by omega) hX]

set_option maxRecDepth 4000 in
set_option maxHeartbeats 1000000 in
theorem adler_is (w : World) (a : Nat) (A : Option Addr) (n c : Nat) (xs : List Nat) (ha : a < 4294967296) (h : Bs w A n xs) (hn : n ≤ 140737488355328) :
    Calls Try.prog 13 #[.int .u32 a, .slice A n c] w fun e w' => e = .returned (.int .u32 (adSum a xs : Nat)) ∧ w = w' := by
  have HS : Hid (adSum a xs = (adAll (a % 65536, a / 65536) xs).2 * 65536 + (adAll (a % 65536, a / 65536) xs).1) := rfl
  have hs0 : (a % 65536, a / 65536).1 < 65536 ∧ (a % 65536, a / 65536).2 < 65536 := ⟨Nat.mod_lt _ (by decide), by show a / 65536 < 65536; omega⟩
  have e1 : (a : Int) % 65536 = ((a % 65536, a / 65536).1 : Nat) := by show _ = ((a % 65536 : Nat) : Int); omega
  have e2 : (a : Int) / 65536 = ((a % 65536, a / 65536).2 : Nat) := by show _ = ((a / 65536 : Nat) : Int); omega
  have hand := and16_u32 a ha
  generalize (a % 65536, a / 65536) = s0 at *
  generalize adSum a xs = S at *
  have H0 := Lib.hid hs0
  have HE1 := Lib.hid e1
  have HE2 := Lib.hid e2
  have HB := Lib.hid h
  have hlen : xs.length = n := h.1
  clear h hs0 e1 e2
  go_enter Try.func13, Try.ntmps13
  go_wp2_with fail
  clear hand
  go_loopw [5, 6, 15] (fun vx vy vi wr => ∃ (i : Nat), i ≤ n ∧ vi = .int .i64 i ∧ vx = .int .u32 ((adAll s0 (xs.take i)).1 : Nat) ∧ vy = .int .u32 ((adAll s0 (xs.take i)).2 : Nat) ∧ wr = w) (fun _ _ vi _ => n - (intOf vi).toNat)
  case atStart => exact ⟨0, by omega, rfl, by rw [HE1.out]; rfl, by rw [HE2.out]; rfl, rfl⟩
  case round =>
    obtain ⟨i, hi, rfl, rfl, rfl, rfl⟩ := hrel
    by_cases hin : i < n
    · have h := HB.out
      obtain ⟨b, o, rfl, hc⟩ := h.2.2 (by omega)
      have hcell := hc i hin
      have hb := h.byte i
      have hst := adAll_step s0 xs i (by omega)
      have hlt := adAll_lt (xs.take i) s0 H0.out
      generalize xs.getD i 0 = x at *
      generalize adAll s0 (xs.take i) = s at *
      obtain ⟨X, Y⟩ := s
      simp only at hlt
      have HST := Lib.hid hst
      have hin' : (i : Int) < n := by omega
      clear hst hc h
      go_wp2_with fail
      go_roundw
      case rel => exact ⟨i + 1, by omega, by go_num, by rw [HST.out]; rfl, by rw [HST.out]; rfl, by trivial⟩
      case measure => simp [intOf]; omega
    · obtain rfl : i = n := by omega
      rw [List.take_of_length_le (by omega)]
      have hlt := adAll_lt xs s0 H0.out
      generalize adAll s0 xs = s at *
      obtain ⟨X, Y⟩ := s
      simp only at hlt HS
      have hj := join16 X Y hlt.1 hlt.2
      go_wp2_with fail
      go_ret
      exact ⟨by rw [HS.out]; rfl, rfl⟩
end Go.Proofs.Ytcackdcjepifpaa
