/- The walk of hamperlaw15.Lzma2Sizes. -/
import Derived.Test.YtoeapobpdfidkaaSzG
namespace Go.Proofs.Ytoeapobpdfidkaa
open Go.RowKit
set_option linter.unusedVariables false
set_option linter.unusedSimpArgs false

theorem szSum (l : List Int) : (l.map (fun _ => 1)).sum = l.length := by
  induction l with
  | nil => rfl
  | cons x r ih => simp only [List.map_cons, List.sum_cons, List.length_cons, ih]; omega
theorem Try.infoU8s : (Try.prog.info? 5).map (fun i => (i.zero, i.size, i.bytes)) = some (some (.int .u8 0), 1, 1) := by kernel_rfl
theorem names15_is (w : World) : Calls Try.prog 33 #[] w fun e w' => e = .returned (.bool true) ∧ w = w' := by
  go_enter Try.func33, Try.ntmps33
  go_wp2_with fail
  go_ret
  exact ⟨rfl, rfl⟩
theorem goP_len (xs : List Int) (n : Nat) : ∀ (t a : Nat) (f p : Bool) (l : List Nat), (goP xs n t a f p l).1.length ≤ l.length + t
  | 0, _, _, _, _ => Nat.zero_le _
  | t + 1, a, f, p, l => by
    show (if (chunkP xs n a f p).er ≠ 0 then ([], (chunkP xs n a f p).er) else if (chunkP xs n a f p).k = 0 then (if (chunkP xs n a f p).nx < n then ([], 15) else (l, 0)) else goP xs n t (chunkP xs n a f p).nx (firstP (chunkP xs n a f p) f) (propsP (chunkP xs n a f p) p) (l ++ [(chunkP xs n a f p).N])).1.length ≤ _
    split
    · exact Nat.zero_le _
    · split
      · split
        · exact Nat.zero_le _
        · exact Nat.le_add_right _ _
      · have h := goP_len xs n t (chunkP xs n a f p).nx (firstP (chunkP xs n a f p) f) (propsP (chunkP xs n a f p) p) (l ++ [(chunkP xs n a f p).N])
        rw [List.length_append, List.length_singleton] at h
        omega
set_option maxRecDepth 8000 in
set_option maxHeartbeats 4000000 in
theorem walkLzma2Sizes (W : World) (a0 : Option Addr) (c0 : Nat) (x0 : List (Int)) (_h0 : Sh.Rd W (.sl 1 (.int .u8)) [.slice a0 x0.length c0] x0) (_hk : Sh.bulk (.sl 1 (.int .u8)) x0 ≤ 1048576) :
    Calls Try.prog 7 #[.slice a0 x0.length c0] W fun e w' => e = .returned (.bool true) ∧ Below W.heap.size W w' := by
  obtain ⟨hN0, hcb⟩ := Nums.of_rd _h0
  have hcap := hN0.cap
  generalize hm : x0.length = m at *
  have hmu : m ≤ 1048576 := by
    have h : ((List.map (fun _ => 1) x0).sum + 1) ≤ 1048576 := _hk
    have h1 := szSum x0
    omega
  have HN0 := Lib.hid hN0
  have HMU := Lib.hid hmu
  have ho0 := own_none W 5
  have HS0 := Lib.hid (hN0.grow ((Keeps.refl (fun _ => False) W).alloc (.cells #[] 5))).src
  clear hN0 hm hcb hcap _h0 _hk
  go_enter Try.func7, Try.ntmps7
  go_wp2_with (at_builtin; refine wpList_appS rfl (.tmp 9) (.tmp 10) 51 5 rfl Try.underlying51 Try.infoU8s rfl (by decide) W.heap.size _ 0 _ rfl ho0 (by simp) a0 m c0 _ rfl HS0.out (by unfold maxLen; omega) (by omega) ?_)
  intro A1 c1 wa ho1 k1 _
  (try simp only [Nat.zero_add, List.nil_append] at ho1)
  (try simp only [Nat.zero_add])
  have HGa : Hid (Grow W wa) := Keeps.trans ((Keeps.refl (fun _ => False) W).alloc (.cells #[] 5)) k1 (fun i hi h => by simp [Value.ownBlock] at h; omega)
  have HNa := Lib.hid (Nums.of_own ho1 HN0.out.rng)
  have HLT : Hid (∀ b, A1 = some b → b.block < wa.heap.size) := fun b hb => by
    subst hb
    exact (ho1.lt b.block rfl).2
  clear ho1 k1 ho0 HS0
  obtain ⟨R, hR⟩ : ∃ R, R = goP x0 m (m + 1) 0 true false [] := ⟨_, rfl⟩
  have HP := Lib.hid (sizes_is wa m c1 A1 x0 HNa.out HMU.out HLT.out)
  have HQ := Lib.hid (fun w h => rSizes_is w m c0 a0 x0 h HMU.out)
  rw [← hR] at HP HQ
  have hln := goP_len x0 m (m + 1) 0 true false []
  rw [← hR] at hln
  clear hR
  obtain ⟨ls, er⟩ := R
  have HLN : Hid (ls.length ≤ 1048577) := by have h : ls.length ≤ 0 + (m + 1) := hln; show _ ≤ _; omega
  clear hln
  go_wp2_with fail
  refine HP.out.mono ?_
  rintro x w2 ⟨A2, c2, rfl, hn2, hg2⟩
  have HG2 : Hid (Grow W w2) := Grow.trans _ _ _ HGa.out hg2
  have HL2 := Lib.hid hn2
  clear hg2 hn2 HP HGa HNa HLT
  go_wp2_with fail
  refine (HQ.out w2 (HN0.out.grow HG2.out)).mono ?_
  rintro x w3 ⟨A3, c3, rfl, hn3, hg3⟩
  have HG3 : Hid (Grow W w3) := Grow.trans _ _ _ HG2.out hg3
  have HL3 := Lib.hid hn3
  have HL2' := Lib.hid (HL2.out.grow hg3)
  clear hg3 hn3 HQ HG2 HL2 HN0
  have HA2 : Hid (Nums .i64 w3 A2 ls.length c2 (ls.map Int.ofNat)) := HL2'.out
  have HA3 : Hid (Nums .i64 w3 A3 ls.length c3 (ls.map Int.ofNat)) := HL3.out
  clear HL2' HL3
  simp only
  obtain ⟨L, hL⟩ : ∃ L, L = ls.length := ⟨_, rfl⟩
  rw [← hL] at HA2 HA3 HLN ⊢
  clear hL
  have hLi : (L : Int) ≤ 1048577 := by have := HLN.out; omega
  have h0 : ((er : Int) != (er : Int)) = false := by simp
  go_wp2_with fail
  go_loopw [7] (fun vi wr => ∃ i : Nat, i ≤ L ∧ vi = .int .i64 i ∧ Hid (Grow w3 wr)) (fun vi _ => L - (intOf vi).toNat)
  case atStart => exact ⟨0, Nat.zero_le _, rfl, Keeps.refl _ _⟩
  case round =>
    obtain ⟨i, hi, rfl, HG⟩ := hrel
    by_cases hiL : i < L
    · obtain ⟨b2, o2, rfl, hc2⟩ := HA2.out.at_ (by omega)
      obtain ⟨b3, o3, rfl, hc3⟩ := HA3.out.at_ (by omega)
      have hd2 : ∀ w', Grow w3 w' → w'.cell? ⟨b2, o2 + i, none⟩ = some (.int .i64 ((ls.map Int.ofNat).getD i 0)) := fun w' hg => ckp (hc2 i hiL) hg (fun h => h)
      have hd3 : ∀ w', Grow w3 w' → w'.cell? ⟨b3, o3 + i, none⟩ = some (.int .i64 ((ls.map Int.ofNat).getD i 0)) := fun w' hg => ckp (hc3 i hiL) hg (fun h => h)
      obtain ⟨v, hv⟩ : ∃ v, v = (ls.map Int.ofNat).getD i 0 := ⟨_, rfl⟩
      rw [← hv] at hd2 hd3
      have c2' := hd2 wr HG.out
      have c3' := hd3 wr HG.out
      have hiL' : (i : Int) < (L : Int) := by omega
      have hvv : (v != v) = false := by simp
      clear hc2 hc3 hd2 hd3 hv
      go_wp2_with fail
      go_quiet (fail)
      go_wp2_with fail
      go_roundw
      case rel => exact ⟨i + 1, by omega, by go_num, HG.out.drewN _⟩
      case measure => simp [intOf]; omega
    · obtain rfl : i = L := by omega
      go_wp2_with fail
      refine (names15_is wr).mono ?_
      rintro x w4 ⟨rfl, rfl⟩
      go_wp2_with fail
      go_ret
      exact ⟨rfl, (Grow.trans _ _ _ HG3.out HG.out).below (fun _ _ h => h) (Nat.le_refl _)⟩
end Go.Proofs.Ytoeapobpdfidkaa
