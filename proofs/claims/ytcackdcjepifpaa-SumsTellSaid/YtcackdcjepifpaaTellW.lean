/- The law SumsTell: the walk. -/
import Derived.Test.YtcackdcjepifpaaTell
namespace Go.Proofs.Ytcackdcjepifpaa
open Go.RowKit
set_option linter.unusedVariables false
set_option linter.unusedSimpArgs false

set_option maxRecDepth 4000 in
set_option maxHeartbeats 2000000 in
theorem walkSumsTell (W : World) (x0 : Int) (_h0 : (Lit.int .u32 x0).wf = true) (x1 : Int) (_h1 : (Lit.int .u64 x1).wf = true) (a2 : Option Addr) (c2 : Nat) (x2 : List (Int)) (_h2 : Sh.Rd W (.sl 1 (.int .u8)) [.slice a2 x2.length c2] x2) :
    Calls Try.prog 6 #[.int .u32 x0, .int .u64 x1, .slice a2 x2.length c2] W fun e w' => e = .returned (.bool true) ∧ Below W.heap.size W w' := by
  obtain ⟨hsrc, hbs, hlen, hr, hmap⟩ := rd_bytes _h2
  clear _h2
  have HBS := Lib.hid hbs
  have hs1 : Src (W.alloc (.cells #[] 5)) 1 a2 x2.length c2 (x2.map (Value.int .u8)) := ⟨hsrc.1, hsrc.2.1, fun b hb j u hj => by
      have hc := hsrc.2.2.1 b hb j u hj
      rw [← hc]
      exact World.cell?_of_block (Below.heap_alloc _ _ _ (World.block_lt_of_cell? W _ hc)), hsrc.2.2.2⟩
  have HS1 := Lib.hid hs1
  have ho : (W.alloc (.cells #[] 5)).ownsRow 0 5 1 (.slice (some ⟨W.heap.size, 0, none⟩) 0 0) 0 [] := ⟨rfl, .inr ⟨W.heap.size, 0, #[], rfl, Nat.zero_le _, heap_alloc_new W _, Nat.le_refl _, Nat.zero_le _, rfl, rfl⟩⟩
  have hsrc0 := Lib.hid hsrc
  have hstr : Hid (x2.map Int.toNat = (strOfNums x2).data.toList.map (·.toNat)) := (strOf_nums x2).resolve_right (fun h => h hr)
  clear hbs hsrc hs1
  obtain ⟨a, ea, ha⟩ : ∃ m : Nat, x0 = m ∧ m < 4294967296 := by
    simp [Lit.wf] at _h0
    have h1 : IntKind.u32.min = 0 := rfl
    have h2 : IntKind.u32.max = 4294967295 := rfl
    obtain ⟨m, rfl⟩ := Int.eq_ofNat_of_zero_le (show 0 ≤ x0 by omega)
    exact ⟨m, rfl, by omega⟩
  obtain ⟨b, eb, hb⟩ : ∃ m : Nat, x1 = m ∧ m < 18446744073709551616 := by
    simp [Lit.wf] at _h1
    have h1 : IntKind.u64.min = 0 := rfl
    have h2 : IntKind.u64.max = 18446744073709551615 := rfl
    obtain ⟨m, rfl⟩ := Int.eq_ofNat_of_zero_le (show 0 ≤ x1 by omega)
    exact ⟨m, rfl, by omega⟩
  subst ea
  subst eb
  clear _h0 _h1
  have HA := Lib.hid ha
  have HB := Lib.hid hb
  clear ha hb
  generalize hn : x2.length = n at *
  have HN := Lib.hid hn
  clear hn
  go_enter Try.func6, Try.ntmps6
  go_wp2_with (at_builtin; refine wpList_app_any rfl (.tmp 9) (.tmp 10) 29 5 rfl Try.underlying29 Try.infoU8 rfl (by decide) _ _ _ rfl ho a2 n c2 _ rfl HS1.out (by unfold maxLen; omega) (by omega) ?_)
  intro A' c' w1 ho1 hg1 hm1
  (try simp only [Nat.zero_add, List.nil_append] at ho1)
  (try simp only [Nat.zero_add] at hm1)
  (try simp only [Nat.zero_add])
  have hfresh : ∀ k, (Value.slice A' n c').ownBlock = some k → W.heap.size ≤ k := fun k hk => by
    rcases hm1 with e | ⟨j, e, hj⟩
    · rw [e] at hk
      simp [Value.ownBlock] at hk
      omega
    · rw [e] at hk
      injection hk with hk
      simp at hj
      omega
  have hK1 : Grow W w1 := ((Keeps.refl (fun _ => False) W).alloc _).grown hg1 (fun k hk e => by simp [Value.ownBlock] at e; omega)
  have HF1 := Lib.hid (owns_base ho1 hfresh)
  clear hg1 hm1 hfresh ho
  go_wp2_with (at_builtin; refine wpList_app rfl (.tmp 11) (.tmp 12) 29 5 rfl Try.underlying29 Try.infoU8 rfl (by decide) _ _ _ rfl (ho1.alloc _) ⟨w1.heap.size, 0, none⟩ 1 1 [.int .u8 90] rfl rfl (one_new _ _ _) (by simp [Value.oneCell']) (by decide) (by unfold maxLen; omega) (by omega) ?_)
  intro g2 cap2 w2 ho2 hg2 hw2
  have hK2 : Grow W w2 := (Keeps.alloc hK1 _).grown hg2 (fun k hk e => by
    have := HF1.out.lt k e
    omega)
  have HO2 := Lib.hid ho2
  have hB2 : Bs w2 (some ⟨g2, 0, none⟩) n (x2.map Int.toNat) := ⟨HBS.out.1, HBS.out.2.1, fun _ => ⟨g2, 0, rfl, fun j hj => by
    have hx : x2[j]? = some (x2.getD j 0) := by have := HN.out; rw [List.getElem?_eq_getElem (by omega), List.getD_eq_getElem?_getD, List.getElem?_eq_getElem (by omega)]; rfl
    have hc := ho2.cells (g := g2) rfl j (.int .u8 (x2.getD j 0)) (by rw [List.getElem?_append_left (by simp; have := HN.out; omega), List.getElem?_map, hx]; rfl)
    rw [Go.WideShapes.add_plain] at hc
    have hg : (x2.map Int.toNat).getD j 0 = (x2.getD j 0).toNat := by
      rw [List.getD_eq_getElem?_getD, List.getElem?_map, hx]
      rfl
    rw [hc, hg, Int.toNat_of_nonneg (hr _ (List.mem_of_getElem? hx)).1]⟩⟩
  have hcap : n + 1 ≤ cap2 := by
    rcases ho2.2 with ⟨hv, _⟩ | ⟨g', cap', cur, hv, _, _, hc, _⟩
    · cases hv
    · injection hv with h1 h2 h3
      omega
  clear hg2 hw2 ho2 ho1
  have hB0 : Hid (∀ w, Grow W w → Bs w a2 n (x2.map Int.toNat)) := fun w k => HBS.out.keep k (fun _ _ h => h)
  have hBo : Hid (∀ w, Grow w2 w → Bs w (some ⟨g2, 0, none⟩) n (x2.map Int.toNat)) := fun w k => hB2.keep k (fun _ _ h => h)
  have hSo : Hid (∀ w, Grow w2 w → Src w 1 (some ⟨g2, 0, none⟩) (n + 1) cap2 ((x2 ++ [90]).map (Value.int .u8))) := fun w k => (src_own (by simpa using HO2.out) (fun u hu => by obtain ⟨y, _, rfl⟩ := List.mem_map.1 hu; rfl)).keep k (fun _ _ h => h)
  clear hB2
  have hn8 : n ≤ 140737488355328 := by omega
  generalize hxs : x2.map Int.toNat = xs at *
  go_wp2_with fail
  refine (crc32_is w2 a (some ⟨g2, 0, none⟩) n cap2 xs HA.out (hBo.out _ (Grow.refl _)) hn8).mono ?_
  rintro e w3 ⟨rfl, k3⟩
  go_wp2_with fail
  refine (refCrc_is w3 a a2 n c2 xs HA.out (hB0.out _ (Grow.trans _ _ _ hK2 k3)) hn8).mono ?_
  rintro e w4 ⟨rfl, rfl⟩
  have hS0 : Hid (∀ w, Grow W w → Src w 1 a2 n c2 (x2.map (Value.int .u8))) := fun w k => hsrc0.out.keep k (fun _ _ h => h)
  have hcv := run_str_src (P := Try.prog) Try.underlying29 Try.underlying5 Try.underlying9 (hS0.out w3 (Grow.trans _ _ _ hK2 k3))
  have hsz : (strOfNums x2).size = n := by rw [strOfNums_size]; exact HN.out
  have HSZ := Lib.hid hsz
  clear hsz
  go_wp2_with fail
  refine (text_is w3 a (strOfNums x2) xs HA.out hstr.out (by rw [HSZ.out]; exact hn8)).mono ?_
  rintro e w5 ⟨rfl, k5⟩
  clear hcv
  have g5 := Grow.trans _ _ _ k3 k5
  clear k3 k5
  go_wp2_with fail
  refine (refCrc_is w5 a a2 n c2 xs HA.out (hB0.out _ (Grow.trans _ _ _ hK2 g5)) hn8).mono ?_
  rintro e w6 ⟨rfl, rfl⟩
  go_wp2_with fail
  refine (crcHigh_is w5 a (some ⟨g2, 0, none⟩) n cap2 xs HA.out (hBo.out _ g5) hn8).mono ?_
  rintro e w7 ⟨rfl, k7⟩
  have g7 := Grow.trans _ _ _ g5 k7
  clear k7 g5
  go_wp2_with fail
  refine (refHigh_is w7 a a2 n c2 xs HA.out (hB0.out _ (Grow.trans _ _ _ hK2 g7)) hn8).mono ?_
  rintro e w8 ⟨rfl, rfl⟩
  go_wp2_with fail
  refine (crc64_is w7 b (some ⟨g2, 0, none⟩) n cap2 xs HB.out (hBo.out _ g7) hn8).mono ?_
  rintro e w9 ⟨rfl, k9⟩
  have g9 := Grow.trans _ _ _ g7 k9
  clear k9 g7
  go_wp2_with fail
  refine (refCrc64_is w9 b a2 n c2 xs HB.out (hB0.out _ (Grow.trans _ _ _ hK2 g9)) hn8).mono ?_
  rintro e w10 ⟨rfl, rfl⟩
  go_wp2_with fail
  refine (adler_is w9 a (some ⟨g2, 0, none⟩) n cap2 xs HA.out (hBo.out _ g9) hn8).mono ?_
  rintro e w11 ⟨rfl, rfl⟩
  go_wp2_with fail
  refine (refAdler_is w9 a a2 n c2 xs HA.out (hB0.out _ (Grow.trans _ _ _ hK2 g9)) hn8).mono ?_
  rintro e w12 ⟨rfl, rfl⟩
  have hK9 := Grow.trans _ _ _ hK2 g9
  have hc1 := run_str_src (P := Try.prog) Try.underlying29 Try.underlying5 Try.underlying9 (hSo.out w9 g9)
  have hc2 := run_str_src (P := Try.prog) Try.underlying29 Try.underlying5 Try.underlying9 (hS0.out w9 hK9)
  have happ : strOfNums x2 ++ ⟨#[90]⟩ = strOfNums (x2 ++ [90]) := str_snoc x2
  have hsz := HSZ.out
  go_wp2_with fail
  go_ret
  exact ⟨rfl, hK9.below (fun _ _ h => h) (Nat.le_refl _)⟩
end Go.Proofs.Ytcackdcjepifpaa
