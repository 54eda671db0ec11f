/- number.Low and the document's Read: a number out of its bytes. -/
import Derived.Test.YtnjdhkaabpmahaaVjP
namespace Go.Proofs.Ytnjdhkaabpmahaa
open Go.RowKit
set_option linter.unusedVariables false
set_option linter.unusedSimpArgs false

theorem ofInt64v (a : Nat) (ha : a < 18446744073709551616) : (BitVec.ofInt 64 (a : Int)).toNat = a := by
  rw [BitVec.ofInt_natCast, BitVec.toNat_ofNat]; exact Nat.mod_eq_of_lt (by omega)
theorem or_shift8 (v d i : Nat) (hi : i ≤ 7) (hv : v < 256 ^ i) (hd : d < 256) : bits .or .u64 (v : Int) ((d * 256 ^ i : Nat) : Int) = ((v + d * 256 ^ i : Nat) : Int) := by
  have hp : (256 : Nat) ^ i = 2 ^ (8 * i) := by rw [Nat.pow_mul]
  have h := Nat.two_pow_add_eq_or_of_lt (i := 8 * i) (b := v) (by rw [← hp]; exact hv) d
  have hle : 256 ^ i ≤ 256 ^ 7 := Nat.pow_le_pow_right (by decide) hi
  have hs : d * 256 ^ i ≤ 255 * 256 ^ 7 := Nat.mul_le_mul (by omega) hle
  have h8 : (256 : Nat) ^ 7 = 72057594037927936 := by decide
  show IntKind.u64.wrap ((BitVec.ofInt 64 (v : Int) ||| BitVec.ofInt 64 ((d * 256 ^ i : Nat) : Int)).toNat : Int) = _
  rw [BitVec.toNat_or, ofInt64v _ (by omega), ofInt64v _ (by omega), Nat.or_comm, Nat.mul_comm d, hp, ← h]
  show ((2 ^ (8 * i) * d + v : Nat) : Int) % 18446744073709551616 = _
  rw [← hp]
  have : 256 ^ i * d = d * 256 ^ i := Nat.mul_comm _ _
  omega
theorem leV_take (ys : List Int) (i : Nat) (hi : i < ys.length) : leV (ys.take (i + 1)) = leV (ys.take i) + (ys.getD i 0).toNat * 256 ^ i := by
  have hx : ys[i]? = some (ys.getD i 0) := by rw [List.getElem?_eq_getElem hi, List.getD_eq_getElem?_getD, List.getElem?_eq_getElem hi]; rfl
  rw [List.take_add_one, hx, leV_append, List.length_take, Nat.min_eq_left (by omega)]
  show _ + 256 ^ i * ((ys.getD i 0).toNat + 256 * 0) = _
  rw [Nat.mul_zero, Nat.add_zero, Nat.mul_comm]
theorem leV_drop (ys : List Int) (i : Nat) (hi : i < ys.length) : leV (ys.drop i) = (ys.getD i 0).toNat + 256 * leV (ys.drop (i + 1)) := by
  have hx : ys[i] = ys.getD i 0 := by rw [List.getD_eq_getElem?_getD, List.getElem?_eq_getElem hi]; rfl
  rw [List.drop_eq_getElem_cons hi, hx]; rfl
theorem leV_part (ys : List Int) (h : ∀ x ∈ ys, inKind .u8 x) (i : Nat) (hi : i ≤ ys.length) : leV (ys.take i) < 256 ^ i := by
  have := leV_lt (ys.take i) fun x hx => h x (List.mem_of_mem_take hx)
  rwa [List.length_take, Nat.min_eq_left hi] at this
theorem pow256_le (i : Nat) (h : i ≤ 8) : 256 ^ i ≤ 18446744073709551616 := by
  have := Nat.pow_le_pow_right (show 0 < 256 by decide) h
  simpa using this
theorem lowest_q (w : World) (i : Nat) : Calls Try.prog 48 #[.int .i64 (i : Nat)] w fun e w' => e = .returned (.int .i64 (i : Nat)) ∧ ∃ n, w' = w.drewN n :=
  (lowest_is w i).mono fun _ _ h => ⟨h.1, 0, h.2.symm⟩
set_option maxRecDepth 4000 in
set_option maxHeartbeats 2000000 in
theorem nread_is (w : World) (A : Option Addr) (n c a m : Nat) (xs : List Int) (h : Nums .u8 w A n c xs) (hn : n ≤ 140737488355328) (hm1 : 1 ≤ m) (hm8 : m ≤ 8) (ham : a + m ≤ n) :
    Calls Try.prog 47 #[.slice A n c, .int .i64 (a : Nat), .int .i64 (m : Nat), .func (.func 48) #[] #[]] w fun e w' => e = .returned (.tuple #[.int .u64 (leV ((xs.drop a).take m) : Nat), .int .i64 ((a + m : Nat) : Int), .int .i64 0]) ∧ Grow w w' := by
  obtain ⟨ys, hys⟩ : ∃ ys, ys = (xs.drop a).take m := ⟨_, rfl⟩
  have hyl : ys.length = m := by rw [hys, List.length_take, List.length_drop, h.len]; omega
  have hyr : ∀ x ∈ ys, inKind .u8 x := fun x hx => h.rng x (List.mem_of_mem_drop (List.mem_of_mem_take (by rw [← hys]; exact hx)))
  have hyg : ∀ i, i < m → xs.getD (a + i) 0 = ys.getD i 0 := fun i hi => by
    rw [hys]; simp [List.getD_eq_getElem?_getD, List.getElem?_take, hi]
  rw [← hys]
  obtain ⟨b, o, rfl, hc⟩ := h.at_ (by omega)
  have HC := Lib.hid (And.intro hc (And.intro hyl (And.intro hyr hyg)))
  have hni : (n : Int) ≤ 140737488355328 := by omega
  have hmi : (m : Int) ≤ 8 := by omega
  have hm1i : (1 : Int) ≤ (m : Int) := by omega
  have hai : (a : Int) + (m : Int) ≤ (n : Int) := by omega
  have hab : (a : Int) ≤ 140737488355328 := by omega
  have hq1 : decide ((m : Int) < 1) = false := decide_eq_false (by omega)
  have hq2 : decide ((8 : Int) < (m : Int)) = false := decide_eq_false (by omega)
  have hq3 : decide ((n : Int) < (a : Int)) = false := decide_eq_false (by omega)
  have hq4 : decide ((a : Int) < 0) = false := decide_eq_false (by omega)
  have hq5 : decide ((n : Int) - (a : Int) < (m : Int)) = false := decide_eq_false (by omega)
  have HM := Lib.hid (And.intro hm8 ham)
  clear h hys hyl hyr hyg hc hn hm8 hm1 ham
  go_enter Try.func47, Try.ntmps47
  go_wp2_with fail
  go_loopw [8, 11, 37] (fun vv _ vi wr => ∃ (i v : Nat), i ≤ m ∧ vi = .int .i64 i ∧ vv = .int .u64 (v : Nat) ∧ Hid (v = leV (ys.take i)) ∧ Hid (Grow w wr)) (fun _ _ vi _ => m - (intOf vi).toNat)
  case atStart => exact ⟨0, 0, by omega, rfl, rfl, rfl, Keeps.refl _ _⟩
  case round =>
    obtain ⟨i, v, hi, rfl, rfl, HV, HG⟩ := hrel
    by_cases hin : i < m
    · have hin' : (i : Int) < (m : Int) := by omega
      have h0 := HC.out.1 (a + i) (by have := HM.out; omega)
      rw [HC.out.2.2.2 i hin] at h0
      obtain ⟨x, hx⟩ : ∃ x, x = (ys.getD i 0).toNat := ⟨_, rfl⟩
      have hxy : ys.getD i 0 = (x : Int) := by
        have := inKind_u8 (HC.out.2.2.1 (ys.getD i 0) (by
          rw [List.getD_eq_getElem?_getD, List.getElem?_eq_getElem (by have := HC.out.2.1; omega)]
          exact List.getElem_mem _))
        omega
      have hxb : x < 256 := by
        have := inKind_u8 (HC.out.2.2.1 (ys.getD i 0) (by
          rw [List.getD_eq_getElem?_getD, List.getElem?_eq_getElem (by have := HC.out.2.1; omega)]
          exact List.getElem_mem _))
        omega
      rw [hxy] at h0
      have hcell : ∀ w2, Grow w w2 → w2.cell? ⟨b, o + (a + i), none⟩ = some (.int .u8 (x : Nat)) := fun w2 k => ckp h0 k (fun h => h)
      have hc0 := hcell wr HG.out
      have hvb : v < 256 ^ i := by rw [HV.out]; exact leV_part ys HC.out.2.2.1 i (by have := HC.out.2.1; omega)
      have hi7 : i ≤ 7 := by have := HM.out.1; omega
      have hp := pow256_le i (by omega)
      have hp2 := pow256_le (i + 1) (by omega)
      have hor := or_shift8 v x i hi7 hvb hxb
      have hst := leV_take ys i (by have := HC.out.2.1; omega)
      rw [← HV.out, ← hx] at hst
      have hsh : (x : Int) * 2 ^ (8 * i) = ((x * 256 ^ i : Nat) : Int) := by
        rw [show (256 : Nat) ^ i = 2 ^ (8 * i) by rw [Nat.pow_mul]]
        simp
      have hle : x * 256 ^ i < 18446744073709551616 := by
        have h9 : x * 256 ^ i ≤ 255 * 256 ^ i := Nat.mul_le_mul_right _ (by omega)
        rw [Nat.pow_succ] at hp2
        omega
      obtain ⟨u, hu⟩ : ∃ u, u = x * 256 ^ i := ⟨_, rfl⟩
      rw [← hu] at hsh hor hst hle
      have hwr : IntKind.u64.wrap ((u : Nat) : Int) = ((u : Nat) : Int) := by simp [IntKind.wrap, IntKind.bits, IntKind.signed]; omega
      have hxi : (x : Int) < 256 := by omega
      have hi7i : (i : Int) ≤ 7 := by omega
      have HST := Lib.hid hst
      clear hx hxy hp hp2 hst h0 hvb hu hcell
      go_wp2_with fail
      go_quiet (refine Calls.quiet_of (lowest_q _ i))
      have HG2 : Hid (Grow w (wr.drewN nq)) := HG.out.drewN _
      have hvu : (v : Int) + (u : Int) = ((v + u : Nat) : Int) := by omega
      rw [hvu]
      go_wp2_with fail
      go_roundw
      case rel => exact ⟨i + 1, v + u, by omega, by go_num, rfl, HST.out.symm, HG2.out⟩
      case measure => simp [intOf]; omega
    · obtain rfl : i = m := by omega
      have HE : Hid (v = leV ys) := by
        show v = _
        rw [HV.out, List.take_of_length_le (by rw [HC.out.2.1]; exact Nat.le_refl _)]
      go_wp2_with fail
      try go_ret3
      exact ⟨by rw [HE.out]; simp, HG.out⟩
theorem low_is (w : World) (A : Option Addr) (n c a m : Nat) (xs : List Int) (h : Nums .u8 w A n c xs) (hn : n ≤ 140737488355328) (hm1 : 1 ≤ m) (hm8 : m ≤ 8) (ham : a + m ≤ n) :
    Calls Try.prog 40 #[.slice A n c, .int .i64 (a : Nat), .int .i64 (m : Nat)] w fun e w' => e = .returned (.tuple #[.int .u64 (leV ((xs.drop a).take m) : Nat), .int .i64 ((a + m : Nat) : Int), .int .i64 0]) ∧ Grow w w' := by
  have H := Lib.hid (nread_is w A n c a m xs h hn hm1 hm8 ham)
  obtain ⟨V, hV⟩ : ∃ V, V = leV ((xs.drop a).take m) := ⟨_, rfl⟩
  obtain ⟨k, hk⟩ : ∃ k, k = a + m := ⟨_, rfl⟩
  rw [← hV, ← hk] at H ⊢
  clear h hn hm1 hm8 ham hV hk
  go_enter Try.func40, Try.ntmps40
  go_wp2_with fail
  refine H.out.mono ?_
  rintro x w1 ⟨rfl, hg⟩
  have HG := Lib.hid hg
  clear hg H
  go_wp2_with fail
  go_ret3
  exact ⟨rfl, HG.out⟩
set_option maxRecDepth 4000 in
set_option maxHeartbeats 2000000 in
theorem turned_is (w : World) (A : Option Addr) (n c : Nat) (xs : List Int) (h : Nums .u8 w A n c xs) (hn : n ≤ 1048576) :
    Calls Try.prog 59 #[.slice A n c] w fun e w' => ∃ A' c', e = .returned (.slice A' n c') ∧ w'.ownsRow w.heap.size 5 1 (.slice A' n c') n (xs.reverse.map (Value.int .u8)) ∧ Grow w w' := by
  have HN := Lib.hid h
  have hni : (n : Int) ≤ 1048576 := by omega
  have HX : Hid (∀ k, k < n → xs.reverse.take (n - k) = xs.reverse.take (n - k - 1) ++ [xs.getD k 0]) := fun k hk => by
    have e : n - k = n - k - 1 + 1 := by omega
    conv => lhs; rw [e]
    rw [List.take_add_one]
    congr 1
    rw [List.getElem?_reverse (by rw [h.len]; omega), h.len, show n - 1 - (n - k - 1) = k by omega, List.getD_eq_getElem?_getD, List.getElem?_eq_getElem (by rw [h.len]; exact hk)]
    rfl
  clear h hn
  go_enter Try.func59, Try.ntmps59
  go_wp2_with fail
  go_loopw [3, 4] (fun vo vi wr => ∃ (k : Nat) (z : Int) (A2 : Option Addr) (c2 m2 : Nat), k ≤ n ∧ z = (k : Int) - 1 ∧ vi = .int .i64 z ∧ m2 = n - k ∧ vo = .slice A2 m2 c2 ∧ Hid (wr.ownsRow w.heap.size 5 1 (.slice A2 m2 c2) m2 ((xs.reverse.take (n - k)).map (Value.int .u8))) ∧ Hid (Grow w wr)) (fun _ vi _ => (intOf vi + 1).toNat)
  case atStart => exact ⟨n, (n : Int) - 1, none, 0, 0, Nat.le_refl _, rfl, rfl, by omega, rfl, by rw [Nat.sub_self]; exact own_nil _ _ _, Keeps.refl _ _⟩
  case round =>
    obtain ⟨k, z, A2, c2, m2, hk, hz, rfl, hm2, rfl, HO, HG⟩ := hrel
    by_cases hk0 : 0 < k
    · obtain ⟨j, rfl⟩ : ∃ j, k = j + 1 := ⟨k - 1, by omega⟩
      obtain rfl : z = (j : Int) := by omega
      clear hz
      obtain ⟨b, o, rfl, hc⟩ := HN.out.at_ (by omega)
      have h0 := hc j (by omega)
      have hby := HN.out.byte j
      obtain ⟨x, hx⟩ : ∃ x, x = xs.getD j 0 := ⟨_, rfl⟩
      rw [← hx] at h0 hby
      have hb1 := hby.1
      have hb2 := hby.2
      have hst := HX.out j (by omega)
      rw [← hx] at hst
      have hcell := ckp h0 HG.out (fun h => h)
      have HST : Hid (xs.reverse.take (n - j) = xs.reverse.take (n - (j + 1)) ++ [x]) := by
        show _ = _
        rw [hst, show n - j - 1 = n - (j + 1) by omega]
      have hji : (j : Int) < (n : Int) := by omega
      have hm2i : (m2 : Int) ≤ 1048576 := by omega
      have HM2 := Lib.hid hm2
      have hsz : w.heap.size ≤ wr.heap.size := HG.out.size
      have hjn : j < n := by omega
      clear hc hx hst hm2 h0 hby
      go_wp2_with (at_builtin; refine wpList_app1 rfl (.tmp 12) (.tmp 17) 24 5 rfl Try.underlying24 Try.infoU8l rfl w.heap.size _ m2 _ rfl HO.out hsz rfl rfl (by unfold maxLen; omega) (by omega) ?_)
      intro g cap w4 ho4 hk4 _
      have HO4 : Hid (w4.ownsRow w.heap.size 5 1 (.slice (some ⟨g, 0, none⟩) (m2 + 1) cap) (m2 + 1) ((xs.reverse.take (n - j)).map (Value.int .u8))) := by
        show World.ownsRow _ _ _ _ _ _ _
        rw [HST.out, List.map_append]
        simpa using ho4
      have HG4 := Lib.hid (grow_own HG.out HO.out (Nat.le_refl _) hk4)
      clear ho4 hk4
      go_wp2_with fail
      go_roundw
      case rel => exact ⟨j, (j : Int) - 1, some ⟨g, 0, none⟩, cap, m2 + 1, by omega, rfl, by go_num, by have := HM2.out; omega, rfl, HO4.out, HG4.out⟩
      case measure => (simp [intOf] <;> omega)
    · obtain rfl : k = 0 := by omega
      obtain rfl : z = -1 := by omega
      obtain rfl : m2 = n := by omega
      clear hz hm2
      have HO2 : Hid (wr.ownsRow w.heap.size 5 1 (.slice A2 m2 c2) m2 (xs.reverse.map (Value.int .u8))) := by
        have h9 := HO.out
        rw [List.take_of_length_le (by rw [List.length_reverse, HN.out.len]; omega)] at h9
        exact h9
      go_wp2_with fail
      go_ret
      exact ⟨A2, c2, rfl, HO2.out, HG.out⟩
set_option maxRecDepth 4000 in
set_option maxHeartbeats 2000000 in
theorem rread_is (w : World) (A : Option Addr) (n c a m : Nat) (xs : List Int) (h : Nums .u8 w A n c xs) (hn : n ≤ 140737488355328) (hm1 : 1 ≤ m) (hm8 : m ≤ 8) (ham : a + m ≤ n) :
    Calls Try.prog 45 #[.slice A n c, .int .i64 (a : Nat), .int .i64 (m : Nat), .bool false] w fun e w' => e = .returned (.tuple #[.int .u64 (leV ((xs.drop a).take m) : Nat), .int .i64 ((a + m : Nat) : Int), .int .i64 0]) ∧ Grow w w' := by
  obtain ⟨ys, hys⟩ : ∃ ys, ys = (xs.drop a).take m := ⟨_, rfl⟩
  have hyl : ys.length = m := by rw [hys, List.length_take, List.length_drop, h.len]; omega
  obtain ⟨d, hd⟩ : ∃ d, d = a + m := ⟨_, rfl⟩
  obtain ⟨As, hAs⟩ : ∃ As, As = Nums.off A c a := ⟨_, rfl⟩
  have hY : Nums .u8 w As m (c - a) ys := by
    rw [hys, hAs]
    exact (h.drop a (by omega)).take m (by omega)
  have hcap := h.cap
  have hsl : ∀ w : World, (Instr.slice 24 (.slice A n c) (some (.int .i64 (a : Nat))) (some (.int .i64 (d : Nat))) none).run Try.prog w = .ok (.slice As m (c - a)) w := fun w => by
    have h9 := run_mid (P := Try.prog) (t := 24) Try.underlying24 rfl rfl A n c a d (by omega) (by omega) w
    rw [h9, hAs, show d - a = m by omega]
  have hdi : (a : Int) + (m : Int) = (d : Int) := by omega
  rw [← hys, ← hd]
  have HT := Lib.hid (turned_is w As m (c - a) ys hY (by omega))
  have HY := Lib.hid (And.intro hyl hY.rng)
  have hni : (n : Int) ≤ 140737488355328 := by omega
  have hdn : (d : Int) ≤ 140737488355328 := by omega
  have hmi : (m : Int) ≤ 8 := by omega
  have hm1i : (1 : Int) ≤ (m : Int) := by omega
  have hai : (a : Int) ≤ 140737488355328 := by omega
  have hq1 : decide ((m : Int) < 1) = false := decide_eq_false (by omega)
  have hq2 : decide ((8 : Int) < (m : Int)) = false := decide_eq_false (by omega)
  have hq3 : decide ((n : Int) < (a : Int)) = false := decide_eq_false (by omega)
  have hq4 : decide ((a : Int) < 0) = false := decide_eq_false (by omega)
  have hq5 : decide ((n : Int) - (a : Int) < (m : Int)) = false := decide_eq_false (by omega)
  have hq6 : (a : Int) ≤ (n : Int) := by omega
  have HM := Lib.hid (And.intro hm8 ham)
  clear h hys hyl hY hd hAs hcap hn hm8 hm1 ham
  go_enter Try.func45, Try.ntmps45
  go_wp2_with fail
  refine HT.out.mono ?_
  rintro x w1 ⟨A1, c1, rfl, ho1, hg1⟩
  have HN1 := Lib.hid (Nums.of_own (xs := ys.reverse) ho1 (fun x hx => HY.out.2 x (List.mem_reverse.1 hx)))
  have HG1 := Lib.hid hg1
  clear ho1 hg1 HT hsl
  go_wp2_with fail
  go_loopw [12, 13] (fun vv vi wr => ∃ (i v : Nat), i ≤ m ∧ vi = .int .i64 i ∧ vv = .int .u64 (v : Nat) ∧ Hid (v = leV (ys.drop (m - i))) ∧ wr = w1) (fun _ vi _ => m - (intOf vi).toNat)
  case atStart => exact ⟨0, 0, by omega, rfl, rfl, by show 0 = _; rw [List.drop_eq_nil_of_le (by rw [HY.out.1]; omega)]; rfl, rfl⟩
  case round =>
    obtain ⟨i, v, hi, rfl, rfl, HV, rfl⟩ := hrel
    by_cases hin : i < m
    · have hin' : (i : Int) < (m : Int) := by omega
      obtain ⟨b, o, rfl, hc⟩ := HN1.out.at_ (by omega)
      have h0 := hc i hin
      have hby := HN1.out.byte i
      obtain ⟨x, hx⟩ : ∃ x, x = (ys.reverse.getD i 0).toNat := ⟨_, rfl⟩
      have hxy : ys.reverse.getD i 0 = (x : Int) := by omega
      have hxb : x < 256 := by omega
      rw [hxy] at h0
      have hyx : (ys.getD (m - i - 1) 0).toNat = x := by
        rw [hx]
        congr 1
        rw [List.getD_eq_getElem?_getD, List.getD_eq_getElem?_getD, List.getElem?_reverse (by rw [HY.out.1]; exact hin), HY.out.1, show m - 1 - i = m - i - 1 by omega]
      have hst := leV_drop ys (m - i - 1) (by rw [HY.out.1]; omega)
      rw [hyx, show m - i - 1 + 1 = m - i by omega, ← HV.out] at hst
      have hvl := leV_lt (ys.drop (m - i - 1)) fun x hx => HY.out.2 x (List.mem_of_mem_drop hx)
      rw [hst, List.length_drop, HY.out.1] at hvl
      have hp := pow256_le (m - (m - i - 1)) (by have := HM.out.1; omega)
      have hlt : x + 256 * v < 18446744073709551616 := by omega
      have hvb : v < 72057594037927936 := by omega
      have HST : Hid (v * 256 + x = leV (ys.drop (m - (i + 1)))) := by
        show _ = _
        rw [show m - (i + 1) = m - i - 1 by omega, hst]; omega
      have hxi : (x : Int) < 256 := by omega
      have hvi : (v : Int) < 72057594037927936 := by omega
      clear hx hxy hp hst hvl hyx hby hc hlt hvb
      go_wp2_with fail
      go_roundw
      case rel => exact ⟨i + 1, v * 256 + x, by omega, by go_num, by go_num, HST.out, by trivial⟩
      case measure => simp [intOf]; omega
    · obtain rfl : i = m := by omega
      have HE : Hid (v = leV ys) := by
        show v = _
        rw [HV.out, Nat.sub_self, List.drop_zero]
      go_wp2_with fail
      go_ret3
      exact ⟨by rw [HE.out]; rfl, HG1.out⟩
end Go.Proofs.Ytnjdhkaabpmahaa
