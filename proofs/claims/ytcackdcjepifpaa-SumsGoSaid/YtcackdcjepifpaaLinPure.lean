/- The sums of texts exclusive-ored, and of joined texts: plain laws, with no program in sight. -/
import Derived.Test.YtcackdcjepifpaaAdler
import Derived.Test.YtcackdcjepifpaaHighPure
import Derived.Test.YtcackdcjepifpaaCrc64Ref
namespace Go.Proofs.Ytcackdcjepifpaa
open Go.RowKit
set_option linter.unusedVariables false
set_option linter.unusedSimpArgs false

/-- A register that takes in bytes. -/
def feed (f g : Nat → Nat) (r : Nat) (xs : List Nat) : Nat := xs.foldl (fun r b => f (r ^^^ g b)) r
theorem crcAll_feed (P r : Nat) (xs : List Nat) : crcAll P r xs = feed (ZPn P 8) id r xs := rfl
theorem crcHi_feed (P r : Nat) (xs : List Nat) : crcHi P r xs = feed (HPn P 8) (· * 16777216) r xs := rfl
theorem Lin_id : Lin id := fun _ _ => rfl
theorem Lin_up : Lin (· * 16777216) := fun a b => by
  show (a ^^^ b) * 2 ^ 24 = a * 2 ^ 24 ^^^ b * 2 ^ 24
  rw [← Nat.shiftLeft_eq, ← Nat.shiftLeft_eq, ← Nat.shiftLeft_eq, Nat.shiftLeft_xor_distrib]
def xor3 (a b c : List Nat) : List Nat := List.zipWith (· ^^^ ·) (List.zipWith (· ^^^ ·) a b) c
theorem feed_lin {f g : Nat → Nat} (hf : Lin f) (hg : Lin g) : ∀ (xs ys : List Nat) (r s : Nat), xs.length = ys.length → feed f g (r ^^^ s) (List.zipWith (· ^^^ ·) xs ys) = feed f g r xs ^^^ feed f g s ys
  | [], [], _, _, _ => rfl
  | x :: xs, y :: ys, r, s, h => by
    have h' : xs.length = ys.length := by simpa using h
    show feed f g (f ((r ^^^ s) ^^^ g (x ^^^ y))) (List.zipWith (· ^^^ ·) xs ys) = feed f g (f (r ^^^ g x)) xs ^^^ feed f g (f (s ^^^ g y)) ys
    rw [← feed_lin hf hg xs ys _ _ h', ← hf, hg, xor_four]
  | [], _ :: _, _, _, h => by simp at h
  | _ :: _, [], _, _, h => by simp at h
theorem feed_three {f g : Nat → Nat} (hf : Lin f) (hg : Lin g) (a b c : List Nat) (r : Nat) (h1 : a.length = b.length) (h2 : a.length = c.length) : feed f g r (xor3 a b c) = feed f g r a ^^^ feed f g r b ^^^ feed f g r c := by
  unfold xor3
  have e : r = (r ^^^ r) ^^^ r := by rw [Nat.xor_self, Nat.zero_xor]
  conv => lhs; rw [e]
  rw [feed_lin hf hg _ _ _ _ (by simp; omega), feed_lin hf hg _ _ _ _ h1]
theorem xor_m3 (m a b c : Nat) : m ^^^ (a ^^^ b ^^^ c) = (m ^^^ a) ^^^ (m ^^^ b) ^^^ (m ^^^ c) := by
  apply Nat.eq_of_testBit_eq
  intro i
  simp only [Nat.testBit_xor]
  cases m.testBit i <;> cases a.testBit i <;> cases b.testBit i <;> cases c.testBit i <;> rfl
theorem xor_mm (m x : Nat) : m ^^^ (m ^^^ x) = x := by rw [← Nat.xor_assoc, Nat.xor_self, Nat.zero_xor]
theorem xor_m0 (m x : Nat) : (m ^^^ x) ^^^ (m ^^^ 0) = x := by rw [Nat.xor_zero, Nat.xor_comm m x, Nat.xor_assoc, Nat.xor_self, Nat.xor_zero]
theorem not32_is : ∃ m, ∀ x, not32 x = m ^^^ x := ⟨4294967295, fun _ => rfl⟩
theorem not64_is : ∃ m, ∀ x, not64 x = m ^^^ x := ⟨18446744073709551615, fun _ => rfl⟩
theorem not32_three (a b c : Nat) : not32 (a ^^^ b ^^^ c) = not32 a ^^^ not32 b ^^^ not32 c := xor_m3 _ _ _ _
theorem not64_three (a b c : Nat) : not64 (a ^^^ b ^^^ c) = not64 a ^^^ not64 b ^^^ not64 c := xor_m3 _ _ _ _
theorem crc_three (P r : Nat) (a b c : List Nat) (h1 : a.length = b.length) (h2 : a.length = c.length) : not32 (crcAll P r (xor3 a b c)) = not32 (crcAll P r a) ^^^ not32 (crcAll P r b) ^^^ not32 (crcAll P r c) := by
  rw [← not32_three, crcAll_feed, crcAll_feed, crcAll_feed, crcAll_feed, feed_three (ZPn_lin P 8) Lin_id a b c r h1 h2]
theorem high_three (P r : Nat) (a b c : List Nat) (h1 : a.length = b.length) (h2 : a.length = c.length) : not32 (crcHi P r (xor3 a b c)) = not32 (crcHi P r a) ^^^ not32 (crcHi P r b) ^^^ not32 (crcHi P r c) := by
  rw [← not32_three, crcHi_feed, crcHi_feed, crcHi_feed, crcHi_feed, feed_three (HPn_lin P 8) Lin_up a b c r h1 h2]
theorem wide_three (P r : Nat) (a b c : List Nat) (h1 : a.length = b.length) (h2 : a.length = c.length) : not64 (crcAll P r (xor3 a b c)) = not64 (crcAll P r a) ^^^ not64 (crcAll P r b) ^^^ not64 (crcAll P r c) := by
  rw [← not64_three, crcAll_feed, crcAll_feed, crcAll_feed, crcAll_feed, feed_three (ZPn_lin P 8) Lin_id a b c r h1 h2]

/-! ### One bit is another one -/
theorem feed_zeros {f g : Nat → Nat} (hf : Lin f) (hg : Lin g) : ∀ n, feed f g 0 (List.replicate n 0) = 0
  | 0 => rfl
  | n + 1 => by
    rw [List.replicate_succ]
    show feed f g (f (0 ^^^ g 0)) (List.replicate n 0) = 0
    rw [hg.zero, Nat.zero_xor, hf.zero]
    exact feed_zeros hf hg n
theorem feed_ne {f g : Nat → Nat} (hf : ∀ r, r ≠ 0 → f r ≠ 0) (hg : Lin g) : ∀ (n r : Nat), r ≠ 0 → feed f g r (List.replicate n 0) ≠ 0
  | 0, r, h => h
  | n + 1, r, h => by
    rw [List.replicate_succ]
    show feed f g (f (r ^^^ g 0)) (List.replicate n 0) ≠ 0
    rw [hg.zero, Nat.xor_zero]
    exact feed_ne hf hg n _ (hf r h)
theorem feed_append (f g : Nat → Nat) (r : Nat) (xs ys : List Nat) : feed f g r (xs ++ ys) = feed f g (feed f g r xs) ys := by simp [feed, List.foldl_append]
/-- Of two texts that differ in one byte the registers differ. -/
theorem feed_turned {f g : Nat → Nat} (hf : Lin f) (hg : Lin g) (B : Nat → Prop) (hB : ∀ r, B r → r ≠ 0 → B (f r) ∧ f r ≠ 0) (xs : List Nat) (i d r : Nat) (hi : i < xs.length) (h0 : B (g d)) (hd : g d ≠ 0) :
    feed f g r xs ≠ feed f g r (xs.set i (xs.getD i 0 ^^^ d)) := by
  intro h
  have hl : (xs.set i (xs.getD i 0 ^^^ d)).length = xs.length := by simp
  have e := feed_lin hf hg xs (xs.set i (xs.getD i 0 ^^^ d)) r r hl.symm
  rw [← h, Nat.xor_self, Nat.xor_self] at e
  have hz : List.zipWith (· ^^^ ·) xs (xs.set i (xs.getD i 0 ^^^ d)) = List.replicate i 0 ++ d :: List.replicate (xs.length - i - 1) 0 := by
    apply List.ext_getElem
    · simp; omega
    · intro j hj1 hj2
      have hj : j < xs.length := by simp at hj1; omega
      rw [List.getElem_zipWith, List.getElem_set]
      by_cases hij : i = j
      · subst hij
        rw [if_pos rfl, List.getElem_append_right (by simp)]
        simp only [List.length_replicate, Nat.sub_self, List.getElem_cons_zero]
        have hx : xs[i] = xs.getD i 0 := by simp [List.getD_eq_getElem?_getD, hj]
        have hc : ∀ u v : Nat, u = v → u ^^^ (v ^^^ d) = d := by rintro u _ rfl; exact xor_mm _ _
        exact hc _ _ hx
      · rw [if_neg hij, Nat.xor_self]
        by_cases hlt : j < i
        · rw [List.getElem_append_left (by simpa using hlt), List.getElem_replicate]
        · rw [List.getElem_append_right (by simp; omega)]
          simp only [List.length_replicate]
          obtain ⟨k, hk⟩ : ∃ k, j - i = k + 1 := ⟨j - i - 1, by omega⟩
          simp only [hk, List.getElem_cons_succ, List.getElem_replicate]
  rw [hz, feed_append, feed_zeros hf hg] at e
  have e2 : feed f g (f (0 ^^^ g d)) (List.replicate (xs.length - i - 1) 0) = 0 := e
  rw [Nat.zero_xor] at e2
  have step : ∀ n r, B r → r ≠ 0 → feed f g r (List.replicate n 0) ≠ 0 := by
    intro n
    induction n with
    | zero => intro r _ h; exact h
    | succ n ih =>
      intro r hb hr
      rw [List.replicate_succ]
      show feed f g (f (r ^^^ g 0)) (List.replicate n 0) ≠ 0
      rw [hg.zero, Nat.xor_zero]
      exact ih _ (hB r hb hr).1 (hB r hb hr).2
  exact step _ _ (hB _ h0 hd).1 (hB _ h0 hd).2 e2
theorem ZP_ne (P m r : Nat) (hP : 2 ^ m ≤ P) (hP2 : P < 2 ^ (m + 1)) (hr : r < 2 ^ (m + 1)) (h : r ≠ 0) : ZP P r ≠ 0 := by
  unfold ZP
  split
  · intro e
    have e2 : r / 2 = P := by
      have := congrArg (· ^^^ P) e
      simp only [Nat.xor_assoc, Nat.xor_self, Nat.xor_zero, Nat.zero_xor] at this
      exact this
    rw [Nat.pow_succ] at hr
    omega
  · omega
theorem ZPn_ne (P m : Nat) (hP : 2 ^ m ≤ P) (hP2 : P < 2 ^ (m + 1)) (k r : Nat) (hr : r < 2 ^ (m + 1)) (h : r ≠ 0) : ZPn P k r < 2 ^ (m + 1) ∧ ZPn P k r ≠ 0 := by
  induction k with
  | zero => exact ⟨hr, h⟩
  | succ k ih => exact ⟨ZP_lt P (m + 1) _ hP2 ih.1, ZP_ne P m _ hP hP2 ih.1 ih.2⟩
theorem HP_ne (P r : Nat) (hP : P % 2 = 1) (hP2 : P < 4294967296) (hr : r < 4294967296) (h : r ≠ 0) : HP P r ≠ 0 := by
  unfold HP
  split
  · intro e
    have e2 : r * 2 % 4294967296 = P := by
      have := congrArg (· ^^^ P) e
      simp only [Nat.xor_assoc, Nat.xor_self, Nat.xor_zero, Nat.zero_xor] at this
      exact this
    omega
  · omega
theorem HPn_ne (P : Nat) (hP : P % 2 = 1) (hP2 : P < 4294967296) (k r : Nat) (hr : r < 4294967296) (h : r ≠ 0) : HPn P k r < 4294967296 ∧ HPn P k r ≠ 0 := by
  induction k with
  | zero => exact ⟨hr, h⟩
  | succ k ih => exact ⟨HP_lt P _ hP2, HP_ne P _ hP hP2 ih.1 ih.2⟩
theorem not32_inj {a b : Nat} (h : not32 a = not32 b) : a = b := by
  have := congrArg (4294967295 ^^^ ·) h
  simpa [not32, ← Nat.xor_assoc] using this
theorem not64_inj {a b : Nat} (h : not64 a = not64 b) : a = b := by
  have := congrArg (18446744073709551615 ^^^ ·) h
  simpa [not64, ← Nat.xor_assoc] using this
theorem crc_turned (r : Nat) (xs : List Nat) (i d : Nat) (hi : i < xs.length) (hd : d ≠ 0) (hd2 : d < 256) : not32 (crcAll 3988292384 r xs) ≠ not32 (crcAll 3988292384 r (xs.set i (xs.getD i 0 ^^^ d))) := fun h =>
  feed_turned (ZPn_lin _ 8) Lin_id (· < 4294967296) (fun r hr h => ZPn_ne 3988292384 31 (by decide) (by decide) 8 r hr h) xs i d r hi (show d < 4294967296 by omega) hd (not32_inj h)
theorem high_turned (r : Nat) (xs : List Nat) (i d : Nat) (hi : i < xs.length) (hd : d ≠ 0) (hd2 : d < 256) : not32 (crcHi 79764919 r xs) ≠ not32 (crcHi 79764919 r (xs.set i (xs.getD i 0 ^^^ d))) := fun h =>
  feed_turned (HPn_lin _ 8) Lin_up (· < 4294967296) (fun r hr h => HPn_ne 79764919 (by decide) (by decide) 8 r hr h) xs i d r hi (show d * 16777216 < 4294967296 by omega) (show d * 16777216 ≠ 0 by omega) (not32_inj h)
theorem wide_turned (r : Nat) (xs : List Nat) (i d : Nat) (hi : i < xs.length) (hd : d ≠ 0) (hd2 : d < 256) : not64 (crcAll 14514072000185962306 r xs) ≠ not64 (crcAll 14514072000185962306 r (xs.set i (xs.getD i 0 ^^^ d))) := fun h =>
  feed_turned (ZPn_lin _ 8) Lin_id (· < 18446744073709551616) (fun r hr h => ZPn_ne 14514072000185962306 63 (by decide) (by decide) 8 r hr h) xs i d r hi (show d < 18446744073709551616 by omega) hd (not64_inj h)

/-! ### Joined texts -/
theorem not32_not (x : Nat) : not32 (not32 x) = x := by obtain ⟨m, h⟩ := not32_is; rw [h, h, xor_mm]
theorem not64_not (x : Nat) : not64 (not64 x) = x := by obtain ⟨m, h⟩ := not64_is; rw [h, h, xor_mm]
theorem crc_go (P a : Nat) (xs ys : List Nat) : not32 (crcAll P (not32 (not32 (crcAll P (not32 a) xs))) ys) = not32 (crcAll P (not32 a) (xs ++ ys)) := by
  rw [not32_not]; simp [crcAll, List.foldl_append]
theorem high_go (P a : Nat) (xs ys : List Nat) : not32 (crcHi P (not32 (not32 (crcHi P (not32 a) xs))) ys) = not32 (crcHi P (not32 a) (xs ++ ys)) := by
  rw [not32_not]; simp [crcHi, List.foldl_append]
theorem wide_go (P a : Nat) (xs ys : List Nat) : not64 (crcAll P (not64 (not64 (crcAll P (not64 a) xs))) ys) = not64 (crcAll P (not64 a) (xs ++ ys)) := by
  rw [not64_not]; simp [crcAll, List.foldl_append]
theorem adAll_append (s : Nat × Nat) (xs ys : List Nat) : adAll s (xs ++ ys) = adAll (adAll s xs) ys := by simp [adAll, List.foldl_append]
theorem adler_go (a : Nat) (ha : a < 4294967296) (xs ys : List Nat) : adSum (adSum a xs) ys = adSum a (xs ++ ys) := by
  unfold adSum
  have hl := adAll_lt xs (a % 65536, a / 65536) ⟨Nat.mod_lt _ (by decide), by show a / 65536 < 65536; omega⟩
  rw [adAll_append]
  generalize adAll (a % 65536, a / 65536) xs = s at *
  obtain ⟨X, Y⟩ := s
  simp only at hl ⊢
  rw [show (Y * 65536 + X) % 65536 = X from by omega, show (Y * 65536 + X) / 65536 = Y from by omega]
theorem ZZ_eq (r : Nat) : ZZ r = ZP 3988292384 r := rfl
theorem Zn_eq (n r : Nat) : Zn n r = ZPn 3988292384 n r := by
  induction n generalizing r with
  | zero => rfl
  | succ n ih =>
    show Zn n (ZZ r) = ZP 3988292384 (ZPn 3988292384 n r)
    rw [← ih, ← ZZ_eq, ← Zn_comm]
theorem feed_nothing (n r : Nat) : crcAll 3988292384 r (List.replicate n 0) = Zn (8 * n) r := by
  induction n generalizing r with
  | zero => rfl
  | succ n ih =>
    rw [List.replicate_succ]
    show crcAll 3988292384 (ZPn 3988292384 8 (r ^^^ 0)) (List.replicate n 0) = _
    rw [ih, Nat.xor_zero, ← Zn_eq, ← Zn_add]
    congr 1
    omega
theorem join_go (M : Nat) (xs ys : List Nat) : Zn (8 * ys.length) (not32 (crcAll 3988292384 (not32 M) xs)) ^^^ not32 (crcAll 3988292384 (not32 0) ys) = not32 (crcAll 3988292384 (not32 M) (xs ++ ys)) := by
  have h1 : crcAll 3988292384 (not32 M) (xs ++ ys) = crcAll 3988292384 (crcAll 3988292384 (not32 M) xs) ys := by simp [crcAll, List.foldl_append]
  rw [h1]
  generalize crcAll 3988292384 (not32 M) xs = A
  have hz : List.zipWith (· ^^^ ·) (List.replicate ys.length 0) ys = ys := by
    apply List.ext_getElem
    · simp
    · intro i h1 h2; simp
  have e := feed_lin (f := ZPn 3988292384 8) (g := id) (ZPn_lin _ 8) Lin_id (List.replicate ys.length 0) ys (not32 A) (not32 0) (by simp)
  rw [hz, ← crcAll_feed, ← crcAll_feed, ← crcAll_feed, feed_nothing] at e
  have e3 : not32 A ^^^ not32 0 = A := xor_m0 _ _
  rw [e3] at e
  rw [e]
  have hc : ∀ m z c : Nat, z ^^^ (m ^^^ c) = m ^^^ (z ^^^ c) := fun m z c => by rw [← Nat.xor_assoc, Nat.xor_comm z m, Nat.xor_assoc]
  exact hc _ _ _
theorem nine_low : not32 (crcAll 3988292384 (not32 0) [49, 50, 51, 52, 53, 54, 55, 56, 57]) = 3421780262 := by decide +kernel
theorem nine_wide : not64 (crcAll 14514072000185962306 (not64 0) [49, 50, 51, 52, 53, 54, 55, 56, 57]) = 11051210869376104954 := by decide +kernel
end Go.Proofs.Ytcackdcjepifpaa
