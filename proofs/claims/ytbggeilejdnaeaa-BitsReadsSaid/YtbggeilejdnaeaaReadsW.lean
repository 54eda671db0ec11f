/- The law BitsReads, for inputs of bulk at most 1048576: the walk. -/
import Derived.Test.YtbggeilejdnaeaaWritesW
namespace Go.Proofs.Ytbggeilejdnaeaa
open Go.RowKit
set_option linter.unusedVariables false
set_option linter.unusedSimpArgs false

theorem unpk_of (hi : Bool) (xs : List Int) : unpk hi xs = ofBytes hi xs := rfl
/-- Where the reader and the list of bits stand. -/
structure BRs (W : World) (hi : Bool) (w : World) (g : Nat) (A : Option Addr) (n c : Nat) (xs : List Int) (Al : Option Addr) (cl : Nat) (at' : Nat) : Prop where
  rd : Rr w g hi A n c xs at'
  own : w.ownsRow W.heap.size 3 1 (.slice Al (8 * n) cl) (8 * n) ((ofBytes hi xs).map (Value.int .i64))
  grow : Grow W w
  hg : W.heap.size ≤ g
  far : Far W (.slice A n c)
theorem BRs.keep {W w w' : World} {hi : Bool} {g n c cl at' : Nat} {A Al : Option Addr} {xs : List Int} {S : Nat → Prop} (h : BRs W hi w g A n c xs Al cl at') (k : Keeps S w w') (hS : ∀ b, b < w.heap.size → ¬ S b) : BRs W hi w' g A n c xs Al cl at' :=
  ⟨h.rd.keep k (hS _ (blk_lt h.rd.1)) (fun i hi => hS i (row_lt h.rd.2.1 i hi)), owns_keep h.own k (fun i hi => hS i (row_lt h.own i hi)), Keeps.trans h.grow k (fun i hi hs => absurd hs (hS i (Nat.lt_of_lt_of_le hi h.grow.size))), h.hg, h.far⟩
theorem BRs.grown {W w w' : World} {hi : Bool} {g n c cl at' : Nat} {A Al : Option Addr} {xs : List Int} (h : BRs W hi w g A n c xs Al cl at') (k : Grow w w') : BRs W hi w' g A n c xs Al cl at' := h.keep k fun _ _ h => h
theorem BRs.go {W w w' : World} {hi : Bool} {g n c cl at' at2 : Nat} {A Al : Option Addr} {xs : List Int} (h : BRs W hi w g A n c xs Al cl at') (hR : Rr w' g hi A n c xs at2) (k : Keeps (fun k => k = g) w w') : BRs W hi w' g A n c xs Al cl at2 :=
  ⟨hR, owns_keep h.own k (fun i hi hs => by subst hs; exact row_ne h.own h.rd.1 (by decide) hi), Keeps.trans h.grow k (fun i hi hs => by have := h.hg; omega), h.hg, h.far⟩
theorem BRs.nums {W w : World} {hi : Bool} {g n c cl at' : Nat} {A Al : Option Addr} {xs : List Int} (h : BRs W hi w g A n c xs Al cl at') : Nums .i64 w Al (8 * n) cl (ofBytes hi xs) := Nums.of_own h.own (bits_in _ (isBits_ofBytes hi xs))

set_option maxRecDepth 4000 in
set_option maxHeartbeats 4000000 in
theorem walkBitsReads (W : World) (x0 : Bool) (a1 : Option Addr) (c1 : Nat) (x1 : List (Int)) (_h1 : Sh.Rd W (.sl 1 (.int .u8)) [.slice a1 x1.length c1] x1) (a2 : Option Addr) (c2 : Nat) (x2 : List ((Int) × (Int) × (Int) × (List (Int)) × Unit)) (_h2 : Sh.Rd W (.sl 48 (.pair (.int .i64) (.pair (.int .u64) (.pair (.int .i64) (.pair (.sl 1 (.int .u8)) .nil))))) [.slice a2 x2.length c2] x2) (_hk : Sh.bulk .bool x0 + Sh.bulk (.sl 1 (.int .u8)) x1 + Sh.bulk (.sl 48 (.pair (.int .i64) (.pair (.int .u64) (.pair (.int .i64) (.pair (.sl 1 (.int .u8)) .nil))))) x2 ≤ 1048576) :
    Calls Try.prog 5 #[.bool x0, .slice a1 x1.length c1, .slice a2 x2.length c2] W fun e w' => e = .returned (.bool true) ∧ Below W.heap.size W w' := by
  have hlens : x1.length ≤ 1048576 ∧ x2.length ≤ 1048576 := by
    have h : 1 + ((List.map (fun _ => 1) x1).sum + 1) + ((x2.map actBulk).sum + 1) ≤ 1048576 := _hk
    have h2 := len_le_sum x2
    have h3 : (List.map (fun _ => 1) x1).sum = x1.length := by
      clear h h2 _hk _h1
      induction x1 with
      | nil => rfl
      | cons y l ih => simp only [List.map_cons, List.sum_cons, List.length_cons] at *; omega
    omega
  have HC := Lib.hid (fun i hi => acts_cells _h2 i hi)
  obtain ⟨hN1, hcb⟩ := Nums.of_rd _h1
  clear _h1 _h2 _hk
  obtain ⟨hnb, hn2⟩ := hlens
  generalize hnn : x1.length = nb at *
  have HNN := Lib.hid hnn
  have HN1 : Hid (∀ w, Grow W w → Nums .u8 w a1 nb c1 x1) := fun w h => hN1.grow h
  have hcap1 := hN1.cap
  have HRNG := Lib.hid hN1.rng
  have ho0 := own_none W 5
  have HS0 := Lib.hid (hN1.grow ((Keeps.refl (fun _ => False) W).alloc (.cells #[] 5))).src
  clear hN1 hnn hcb
  go_enter Try.func5, Try.ntmps5
  go_wp2_with (at_builtin; refine wpList_appS rfl (.tmp 23) (.tmp 24) 29 5 rfl Try.underlying29 Try.infoU8 rfl (by decide) W.heap.size _ 0 _ rfl ho0 (by simp) a1 nb c1 _ rfl HS0.out (by unfold maxLen; omega) (by omega) ?_)
  intro A3 c3 wa ho3 k3 _
  (try simp only [Nat.zero_add, List.nil_append] at ho3)
  (try simp only [Nat.zero_add])
  have HG3 : Hid (Grow W wa) := Keeps.trans ((Keeps.refl (fun _ => False) W).alloc (.cells #[] 5)) k3 (fun i hi h => by simp [Value.ownBlock] at h; omega)
  have HO3 := Lib.hid ho3
  have HS3 := Lib.hid (src_own ho3 (fun u hu => by obtain ⟨y, _, rfl⟩ := List.mem_map.1 hu; rfl))
  clear ho3 k3 ho0
  go_wp2_with fail
  refine (newReader_any wa x0 A3 nb c3 x1 HS3.out (fun y hy => inKind_u8 (HRNG.out y hy)) (by omega)).mono ?_
  rintro e wb ⟨g, A4, c4, rfl, hg, hR, hF, k4⟩
  have HO4 := Lib.hid (owns_keep HO3.out k4 (fun _ _ h => h))
  have HFX : Hid (∀ b, (Value.slice A3 nb c3).ownBlock = some b → W.heap.size ≤ b ∧ b < wa.heap.size) := fun b hb => ⟨own_ge HO3.out b hb, row_lt HO3.out b hb⟩
  have HR := Lib.hid hR
  have HF := Lib.hid hF
  have HG4 := Lib.hid (Grow.trans _ _ _ HG3.out k4)
  have hzab := k4.size
  have hzWa := HG3.out.size
  clear hR hF k4 HO3 HS3
  go_wp2_with fail
  go_loopw [9] (fun vk wr => ∃ (k : Nat) (ys : List Int), k ≤ nb ∧ vk = .int .i64 k ∧ wr.ownsRow W.heap.size 5 1 (.slice A3 nb c3) nb (ys.map (Value.int .u8)) ∧ Hid (∀ y ∈ ys, inKind .u8 y) ∧ Keeps (fun b => (Value.slice A3 nb c3).ownBlock = some b) wb wr) (fun vk _ => nb - (intOf vk).toNat)
  case atStart => exact ⟨0, _, by omega, rfl, HO4.out, HRNG.out, Keeps.refl _ _⟩
  case round =>
    obtain ⟨k, ys, hk, rfl, hox, hys, hkx⟩ := hrel
    by_cases hkm : k < nb
    · have hN := Nums.of_own hox hys.out
      obtain ⟨bx, ox, rfl, hc⟩ := hN.at_ (by omega)
      have hbo : ox = 0 := by
        rcases hox.2 with ⟨e, _⟩ | ⟨g, cap, cur, e, _⟩
        · cases e
        · injection e with e _ _
          injection e with e
          injection e
      subst hbo
      have d0 := hc k hkm
      have hy := hN.byte k
      have fr := hox.frozenAt k
      rw [Nat.zero_add] at d0
      have hst := (hox.stored k (.int .u8 ((ys.getD k 0 + 1) % 256))).1
      rw [map_set_u8] at hst
      have hys2 : Hid (∀ y ∈ ys.set k ((ys.getD k 0 + 1) % 256), inKind .u8 y) := fun y hy => by
        rcases List.mem_or_eq_of_mem_set hy with h | h
        · exact hys.out y h
        · rw [h]; exact mk_u8 (by omega) (by omega)
      generalize ys.set k ((ys.getD k 0 + 1) % 256) = zs at *
      generalize ys.getD k 0 = y at *
      have HST := Lib.hid hst
      have HKX := Lib.hid hkx
      have hkm' : (k : Int) < nb := by omega
      clear hc hst hkx hox hN
      go_wp2_with fail
      go_roundw
      case rel => exact ⟨k + 1, zs, by omega, by go_num, HST.out, hys2, HKX.out.setCell (p := ⟨bx, k, none⟩) (fun _ => rfl) _⟩
      case measure => simp [intOf]; omega
    · obtain rfl : nb = k := by omega
      obtain ⟨wc, rfl⟩ : ∃ wc : World, wc = wr := ⟨_, rfl⟩
      have hRc : Rr wc g x0 A4 nb c4 x1 0 := HR.out.keep hkx (fun h => by have := HFX.out g h; omega) (fun b hb h => by have h1 := HFX.out b h; have h2 := HF.out b hb; omega)
      have HGc : Hid (Grow W wc) := Keeps.trans HG4.out hkx (fun b hb h => absurd hb (Nat.not_lt.2 (HFX.out b h).1))
      have HRc := Lib.hid hRc
      clear hRc hkx hox HR HO4
      go_wp2_with fail
      refine (refOf_is wc a1 nb c1 x1 x0 (HN1.out wc HGc.out) (by omega)).mono ?_
      rintro e wd ⟨Al, cl, rfl, hol, kd⟩
      have HBR : Hid (BRs W x0 wd g A4 nb c4 x1 Al cl 0) := ⟨HRc.out.keep kd (fun h => h) (fun _ _ h => h), owns_base hol (fun b hb => Nat.le_trans HGc.out.size (own_ge hol b hb)), Grow.trans _ _ _ HGc.out kd, by omega, fun b hb => by have := HF.out b hb; omega⟩
      clear hol kd HRc HGc HG4 HFX HF HG3 hys
      go_wp2_with fail
      go_loopw [11, 12] (fun va vi wr => ∃ (i at' : Nat), i ≤ x2.length ∧ vi = .int .i64 i ∧ va = .int .i64 at' ∧ at' ≤ 8 * nb ∧ BRs W x0 wr g A4 nb c4 x1 Al cl at') (fun _ vi _ => x2.length + 1 - (intOf vi).toNat)
      case atStart => exact ⟨0, 0, by omega, rfl, rfl, by omega, HBR.out⟩
      case round =>
        obtain ⟨i, at', hi, rfl, rfl, hat, hB⟩ := hrel
        obtain ⟨wo, rfl⟩ : ∃ wo : World, wo = wr := ⟨_, rfl⟩
        have HB := Lib.hid hB
        have hi' : (i : Int) ≤ x2.length := by omega
        have el : ((8 * nb - at' : Nat) : Int) = 8 * (nb : Int) - at' := by omega
        have HEL := Lib.hid el
        clear hB el HBR
        go_wp2_with fail
        refine (at_any wo g nb c4 at' x0 A4 x1 HB.out.rd).mono ?_
        rintro e w1 ⟨rfl, rfl⟩
        go_wp2_with fail
        refine (left_any wo g nb c4 at' x0 A4 x1 HB.out.rd (by omega) hat).mono ?_
        rw [HEL.out]
        rintro e w1 ⟨rfl, rfl⟩
        have HB1 : Hid (BRs W x0 wo.drew g A4 nb c4 x1 Al cl at') := HB.out.grown ((Grow.refl wo).drew)
        generalize wo.drew = wr at *
        by_cases hend : i = x2.length
        · subst hend
          go_wp2_with fail
          refine (names01_is wr).mono ?_
          rintro e w5 ⟨rfl, rfl⟩
          go_wp2_with fail
          go_ret
          exact ⟨rfl, HB1.out.grow.below (fun _ _ h => h) (Nat.le_refl _)⟩
        · have hil : i < x2.length := by omega
          have hil' : (i : Int) < x2.length := by omega
          have hne : ((i : Int) == x2.length) = false := by rw [beq_eq_false_iff_ne]; omega
          obtain ⟨b, off, A', c', x, rfl, hx, k0, k1, k2, k3, h0, hv, hnn, hbb⟩ := HC.out i hil
          have hgW := HB1.out.grow
          have d0 := cell_keep k0 hgW (fun h => h)
          have d1 := cell_keep k1 hgW (fun h => h)
          have d2 := cell_keep k2 hgW (fun h => h)
          have d3 := cell_keep k3 hgW (fun h => h)
          have hnr := wf_i64 hnn
          have HNK := Lib.hid (inKind_wf hnn)
          clear k0 k1 k2 k3 h0 hv hnn hbb hgW hx
          obtain ⟨kd, vv, nn', bs, u⟩ := x
          simp only at d0 d1 d2 d3 hnr HNK
          generalize bs.length = bn at *
          go_upto_region 16 with fail
          have hga := heap_alloc_new wr (.cells #[.int .i64 kd, .int .u64 vv, .int .i64 nn', .slice A' bn c'] 36)
          have HB6 := Lib.hid (HB1.out.grown ((Keeps.refl (fun _ => False) wr).alloc (.cells #[.int .i64 kd, .int .u64 vv, .int .i64 nn', .slice A' bn c'] 36)))
          have HGA := Lib.hid hga
          have hlt1 := blk_lt HB1.out.rd.1
          clear d0 d1 d2 d3 hga hne HB1 HB
          generalize wr.alloc (.cells #[.int .i64 kd, .int .u64 vv, .int .i64 nn', .slice A' bn c'] 36) = wb at *
          obtain ⟨ga, hgae⟩ : ∃ ga, ga = wr.heap.size := ⟨_, rfl⟩
          rw [← hgae] at HGA ⊢
          have hgne : ga ≠ g := by omega
          clear hgae hlt1
          have e0 := blk_cell HGA.out 0
          have e2 := blk_cell HGA.out 2
          simp at e0 e2
          have HF2 : Hid (∀ (w' : World) (u0 u1 : Value), w'.heap[ga]? = some (.cells #[u0, u1, .int .i64 nn', .slice A' bn c'] 36 (0, 0)) → w'.cell? ⟨ga, 2, none⟩ = some (.int .i64 nn')) := fun w' u0 u1 h => by rw [blk_cell h 2]; rfl
          by_cases hk0 : kd = 0
          · subst hk0
            by_cases hbad : nn' < 0 ∨ 64 < nn'
            · have HP := Lib.hid (get_arg wb g nb c4 at' x0 A4 x1 nn' HB6.out.rd hbad HNK.out)
              rcases hbad with hbad | hbad
              all_goals
                go_wp2_with fail
                refine HP.out.mono ?_
                rintro e w5 ⟨rfl, rfl⟩
                go_wp2_with fail
                go_roundw
                case rel => exact ⟨i + 1, at', by omega, by go_num, rfl, by omega, HB6.out⟩
                case measure => simp [intOf]; omega
            · obtain ⟨kk, rfl⟩ := Int.eq_ofNat_of_zero_le (show 0 ≤ nn' by omega)
              have hk64 : kk ≤ 64 := by omega
              clear hbad
              by_cases hfit : at' + kk ≤ 8 * nb
              · have HP := Lib.hid (get_yes wb g nb c4 at' x0 A4 x1 kk HB6.out.rd (by omega) hk64 hfit)
                have hq1 : ¬ (8 * (nb : Int) - at') < kk := by omega
                have hsl : ∀ w, (Instr.slice 33 (.slice Al (8 * nb) cl) (some (.int .i64 (at' : Int))) (some (.int .i64 ((at' : Int) + (kk : Int)))) none).run Try.prog w = .ok (.slice (Nums.off Al cl at') kk (cl - at')) w := fun w => by
                  have h := run_mid (P := Try.prog) (t := 33) Try.underlying33 rfl rfl Al (8 * nb) cl at' (at' + kk) (by omega) (Nat.le_trans hfit HB6.out.nums.cap) w
                  rw [Int.natCast_add, Nat.add_sub_cancel_left] at h
                  exact h
                have HSL := Lib.hid hsl
                clear hsl
                go_wp2_with fail
                refine HP.out.mono ?_
                rintro e w5 ⟨rfl, hR5, k5⟩
                have HB5 := Lib.hid (HB6.out.go hR5 k5)
                have hact := block_keep HGA.out k5 (fun h => hgne h)
                have f2 := HF2.out _ _ _ hact
                have hN5 := (HB5.out.nums.take (at' + kk) hfit).drop at' (by omega)
                rw [show at' + kk - at' = kk from by omega, List.drop_take, show at' + kk - at' = kk from by omega] at hN5
                have HN5 := Lib.hid hN5
                have hsl := HSL.out
                have HBT : Hid (IsBits (((ofBytes x0 x1).drop at').take kk)) := fun y hy => isBits_ofBytes x0 x1 y (List.mem_of_mem_drop (List.mem_of_mem_take hy))
                rw [unpk_of]
                clear hR5 k5 e0 e2 hact hN5
                go_wp2_with fail
                refine (refNumber_is w5 _ kk _ _ x0 HN5.out HBT.out hk64).mono ?_
                rintro e w6 ⟨rfl, rfl⟩
                generalize numOf x0 (((ofBytes x0 x1).drop at').take kk) = V at *
                go_wp2_with fail
                go_roundw
                case rel => exact ⟨i + 1, at' + kk, by omega, by go_num, by go_num, by omega, HB5.out⟩
                case measure => simp [intOf]; omega
              · have HP := Lib.hid (get_end wb g nb c4 at' x0 A4 x1 kk HB6.out.rd (by omega) hat hk64 (by omega))
                have hq1 : (8 * (nb : Int) - at') < kk := by omega
                go_wp2_with fail
                refine HP.out.mono ?_
                rintro e w5 ⟨rfl, rfl⟩
                have HB5 : Hid (BRs W x0 wb.drew g A4 nb c4 x1 Al cl at') := HB6.out.grown ((Grow.refl wb).drew)
                go_wp2_with fail
                go_roundw
                case rel => exact ⟨i + 1, at', by omega, by go_num, rfl, by omega, HB5.out⟩
                case measure => simp [intOf]; omega
          by_cases hk1 : kd = 1
          · subst hk1
            clear hk0
            have HP := Lib.hid (ralign_any wb g nb c4 at' x0 A4 x1 HB6.out.rd (by omega))
            go_wp2_with fail
            refine HP.out.mono ?_
            rintro e w5 ⟨rfl, hR5, k5⟩
            have HB5 := Lib.hid (HB6.out.go hR5 k5)
            clear hR5 k5 e0 e2
            go_wp2_with fail
            go_roundw
            case rel => exact ⟨i + 1, (at' + 7) / 8 * 8, by omega, by go_num, by go_num, by omega, HB5.out⟩
            case measure => simp [intOf]; omega
          by_cases hk2 : kd = 2
          · subst hk2
            clear hk0 hk1
            obtain ⟨r, hr⟩ : ∃ r, r = at' % 8 := ⟨_, rfl⟩
            have hri : (at' : Int) % 8 = r := by omega
            have hr8 : r < 8 := by omega
            have HR8 := Lib.hid hr
            clear hr
            by_cases hneg : nn' < 0
            · have HP := Lib.hid (rbytes_arg wb g nb c4 at' x0 A4 x1 nn' HB6.out.rd (by omega) (.inl hneg) HNK.out)
              have hcv : (convert 29 9 (.slice none 0 0)).run Try.prog wb = .ok (.string ByteArray.empty) wb := run_convert_bytes_nil wb _ _ Try.underlying29 Try.underlying5 0 0 _ Try.underlying9
              have HBD := HB6
              go_wp2_with fail
              refine HP.out.mono ?_
              rintro e w5 ⟨rfl, rfl⟩
              go_wp2_with fail
              have HOX : Hid ((wb : World).ownsRow 0 5 1 (.slice none 0 0) 0 (([] : List Int).map (Value.int .u8))) := own_nil _ _ _
              have HYX : Hid (∀ y ∈ ([] : List Int), inKind .u8 y) := fun y hy => by cases hy
              have FIN : Hid (∀ w', Keeps (fun b => (Value.slice none 0 0).ownBlock = some b) wb w' → BRs W x0 w' g A4 nb c4 x1 Al cl at') := fun w' k => HBD.out.keep k (fun b _ h => by simp [Value.ownBlock] at h)
              go_loopw [22] (fun vk wr => ∃ (k : Nat) (ys : List Int), k ≤ 0 ∧ vk = .int .i64 k ∧ wr.ownsRow 0 5 1 (.slice none 0 0) 0 (ys.map (Value.int .u8)) ∧ Hid (∀ y ∈ ys, inKind .u8 y) ∧ Keeps (fun b => (Value.slice none 0 0).ownBlock = some b) wb wr) (fun vk _ => 0 - (intOf vk).toNat)
              case atStart => exact ⟨0, _, by omega, rfl, HOX.out, HYX.out, Keeps.refl _ _⟩
              case round =>
                obtain ⟨k, ys, hk, rfl, hox, hys, hkx⟩ := hrel
                by_cases hkm : k < 0
                · exact absurd hkm (by omega)
                · obtain rfl : 0 = k := by omega
                  have HBF := Lib.hid (FIN.out wr hkx)
                  clear hkx hox
                  go_wp2_with fail
                  go_roundw
                  case rel => exact ⟨i + 1, at', by omega, by go_num, rfl, by omega, HBF.out⟩
                  case measure => simp [intOf]; omega
            by_cases hr0 : r = 0
            · subst hr0
              obtain ⟨kk, rfl⟩ := Int.eq_ofNat_of_zero_le (show 0 ≤ nn' by omega)
              have h8 : at' % 8 = 0 := HR8.out.symm
              obtain ⟨q, hq⟩ : ∃ q, q = at' / 8 := ⟨_, rfl⟩
              have eq8 : (at' : Int) / 8 = (q : Int) := by omega
              by_cases hfit : kk ≤ (8 * nb - at') / 8
              · have HP := Lib.hid (rbytes_yes wb g nb c4 at' x0 A4 x1 kk HB6.out.rd (by omega) hat h8 hfit)
                have hq1 : ¬ (8 * (nb : Int) - at') / 8 < kk := by omega
                have hqk : q + kk ≤ nb := by omega
                have hsl : ∀ w, (Instr.slice 29 (.slice a1 nb c1) (some (.int .i64 (q : Int))) (some (.int .i64 ((q : Int) + (kk : Int)))) none).run Try.prog w = .ok (.slice (Nums.off a1 c1 q) kk (c1 - q)) w := fun w => by
                  have h := run_mid (P := Try.prog) (t := 29) Try.underlying29 rfl rfl a1 nb c1 q (q + kk) (by omega) (by omega) w
                  rw [Int.natCast_add, Nat.add_sub_cancel_left] at h
                  exact h
                have HSL := Lib.hid hsl
                rw [← hq] at HP
                have hzb := (HB6.out.grow).size
                clear hsl hq h8
                go_wp2_with fail
                refine HP.out.mono ?_
                rintro e w5 ⟨A5, c5, rfl, ho5, hR5, k5⟩
                have HB5 := Lib.hid (HB6.out.go hR5 k5)
                have hact := block_keep HGA.out k5 (fun h => hgne h)
                have f2 := HF2.out _ _ _ hact
                have hN5 := ((HN1.out w5 HB5.out.grow).take (q + kk) hqk).drop q (by omega)
                rw [show q + kk - q = kk from by omega, List.drop_take, show q + kk - q = kk from by omega] at hN5
                have hcv1 := run_str (P := Try.prog) (w := w5) Try.underlying29 Try.underlying5 Try.underlying9 ho5
                have hcv2 := run_str_src (P := Try.prog) (w := w5) Try.underlying29 Try.underlying5 Try.underlying9 hN5.src
                have hsl := HSL.out
                have HOX := Lib.hid ho5
                have HYX : Hid (∀ y ∈ (x1.drop q).take kk, inKind .u8 y) := hN5.rng
                have hlr := row_lt HB6.out.rd.2.1
                have hll := row_lt HB6.out.own
                have hlg := blk_lt HB6.out.rd.1
                have FIN : Hid (∀ w', Keeps (fun b => (Value.slice A5 kk c5).ownBlock = some b) w5 w' → BRs W x0 w' g A4 nb c4 x1 Al cl (at' + 8 * kk)) := fun w' k =>
                  ⟨HB5.out.rd.keep k (fun h => by have := own_ge HOX.out _ h; omega) (fun b hb h => by have h1 := own_ge HOX.out _ h; have h2 := hlr b hb; omega),
                   owns_keep HB5.out.own k (fun b hb h => by have h1 := own_ge HOX.out _ h; have h2 := hll b hb; omega),
                   Keeps.trans HB5.out.grow k (fun b hb h => by have h1 := own_ge HOX.out _ h; omega), HB5.out.hg, HB5.out.far⟩
                clear ho5 hR5 k5 e0 e2 hact hN5 hlr hll hlg
                generalize strOfNums ((x1.drop q).take kk) = S at *
                go_wp2_with fail
                clear hcv1 hcv2 hsl
                go_loopw [22] (fun vk wr => ∃ (k : Nat) (ys : List Int), k ≤ kk ∧ vk = .int .i64 k ∧ wr.ownsRow wb.heap.size 5 1 (.slice A5 kk c5) kk (ys.map (Value.int .u8)) ∧ Hid (∀ y ∈ ys, inKind .u8 y) ∧ Keeps (fun b => (Value.slice A5 kk c5).ownBlock = some b) w5 wr) (fun vk _ => kk - (intOf vk).toNat)
                case atStart => exact ⟨0, _, by omega, rfl, HOX.out, HYX.out, Keeps.refl _ _⟩
                case round =>
                  obtain ⟨k, ys, hk, rfl, hox, hys, hkx⟩ := hrel
                  by_cases hkm : k < kk
                  · have hN := Nums.of_own hox hys.out
                    obtain ⟨bx, ox, eA, hc⟩ := hN.at_ (by omega)
                    have hbo : ox = 0 := by
                      rw [eA] at hox
                      rcases hox.2 with ⟨e, _⟩ | ⟨g, cap, cur, e, _⟩
                      · cases e
                      · injection e with e _ _
                        injection e with e
                        injection e
                    subst hbo
                    subst eA
                    have d0 := hc k hkm
                    have hy := hN.byte k
                    have fr := hox.frozenAt k
                    rw [Nat.zero_add] at d0
                    have hst := (hox.stored k (.int .u8 ((ys.getD k 0 + 1) % 256))).1
                    rw [map_set_u8] at hst
                    have hys2 : Hid (∀ y ∈ ys.set k ((ys.getD k 0 + 1) % 256), inKind .u8 y) := fun y hy => by
                      rcases List.mem_or_eq_of_mem_set hy with h | h
                      · exact hys.out y h
                      · rw [h]; exact mk_u8 (by omega) (by omega)
                    generalize ys.set k ((ys.getD k 0 + 1) % 256) = zs at *
                    generalize ys.getD k 0 = y at *
                    have HST := Lib.hid hst
                    have HKX := Lib.hid hkx
                    have hkm' : (k : Int) < kk := by omega
                    clear hc hst hkx hox hN
                    go_wp2_with fail
                    go_roundw
                    case rel => exact ⟨k + 1, zs, by omega, by go_num, HST.out, hys2, HKX.out.setCell (p := ⟨bx, k, none⟩) (fun _ => rfl) _⟩
                    case measure => simp [intOf]; omega
                  · obtain rfl : kk = k := by omega
                    have HBF := Lib.hid (FIN.out wr hkx)
                    clear hkx hox
                    go_wp2_with fail
                    go_roundw
                    case rel => exact ⟨i + 1, at' + 8 * kk, by omega, by go_num, by go_num, by omega, HBF.out⟩
                    case measure => simp [intOf]; omega
              · have HP := Lib.hid (rbytes_end wb g nb c4 at' x0 A4 x1 kk HB6.out.rd (by omega) hat h8 (by omega) (by omega))
                have hq1 : (8 * (nb : Int) - at') / 8 < kk := by omega
                have hcv : (convert 29 9 (.slice none 0 0)).run Try.prog wb.drew = .ok (.string ByteArray.empty) wb.drew := run_convert_bytes_nil wb.drew _ _ Try.underlying29 Try.underlying5 0 0 _ Try.underlying9
                have HBD : Hid (BRs W x0 wb.drew g A4 nb c4 x1 Al cl at') := HB6.out.grown ((Grow.refl wb).drew)
                clear hq h8
                go_wp2_with fail
                refine HP.out.mono ?_
                rintro e w5 ⟨rfl, rfl⟩
                go_wp2_with fail
                have HOX : Hid ((wb.drew : World).ownsRow 0 5 1 (.slice none 0 0) 0 (([] : List Int).map (Value.int .u8))) := own_nil _ _ _
                have HYX : Hid (∀ y ∈ ([] : List Int), inKind .u8 y) := fun y hy => by cases hy
                have FIN : Hid (∀ w', Keeps (fun b => (Value.slice none 0 0).ownBlock = some b) wb.drew w' → BRs W x0 w' g A4 nb c4 x1 Al cl at') := fun w' k => HBD.out.keep k (fun b _ h => by simp [Value.ownBlock] at h)
                go_loopw [22] (fun vk wr => ∃ (k : Nat) (ys : List Int), k ≤ 0 ∧ vk = .int .i64 k ∧ wr.ownsRow 0 5 1 (.slice none 0 0) 0 (ys.map (Value.int .u8)) ∧ Hid (∀ y ∈ ys, inKind .u8 y) ∧ Keeps (fun b => (Value.slice none 0 0).ownBlock = some b) wb.drew wr) (fun vk _ => 0 - (intOf vk).toNat)
                case atStart => exact ⟨0, _, by omega, rfl, HOX.out, HYX.out, Keeps.refl _ _⟩
                case round =>
                  obtain ⟨k, ys, hk, rfl, hox, hys, hkx⟩ := hrel
                  by_cases hkm : k < 0
                  · exact absurd hkm (by omega)
                  · obtain rfl : 0 = k := by omega
                    have HBF := Lib.hid (FIN.out wr hkx)
                    clear hkx hox
                    go_wp2_with fail
                    go_roundw
                    case rel => exact ⟨i + 1, at', by omega, by go_num, rfl, by omega, HBF.out⟩
                    case measure => simp [intOf]; omega
            · have HP := Lib.hid (rbytes_arg wb g nb c4 at' x0 A4 x1 nn' HB6.out.rd (by omega) (.inr (by rw [← HR8.out]; exact hr0)) HNK.out)
              have b0 : ((r : Int) == 0) = false := by rw [beq_eq_false_iff_ne]; omega
              have b0' : ((r : Int) != 0) = true := by rw [bne, b0]; rfl
              have hcv : (convert 29 9 (.slice none 0 0)).run Try.prog wb = .ok (.string ByteArray.empty) wb := run_convert_bytes_nil wb _ _ Try.underlying29 Try.underlying5 0 0 _ Try.underlying9
              have HBD := HB6
              go_wp2_with fail
              refine HP.out.mono ?_
              rintro e w5 ⟨rfl, rfl⟩
              go_wp2_with fail
              have HOX : Hid ((wb : World).ownsRow 0 5 1 (.slice none 0 0) 0 (([] : List Int).map (Value.int .u8))) := own_nil _ _ _
              have HYX : Hid (∀ y ∈ ([] : List Int), inKind .u8 y) := fun y hy => by cases hy
              have FIN : Hid (∀ w', Keeps (fun b => (Value.slice none 0 0).ownBlock = some b) wb w' → BRs W x0 w' g A4 nb c4 x1 Al cl at') := fun w' k => HBD.out.keep k (fun b _ h => by simp [Value.ownBlock] at h)
              go_loopw [22] (fun vk wr => ∃ (k : Nat) (ys : List Int), k ≤ 0 ∧ vk = .int .i64 k ∧ wr.ownsRow 0 5 1 (.slice none 0 0) 0 (ys.map (Value.int .u8)) ∧ Hid (∀ y ∈ ys, inKind .u8 y) ∧ Keeps (fun b => (Value.slice none 0 0).ownBlock = some b) wb wr) (fun vk _ => 0 - (intOf vk).toNat)
              case atStart => exact ⟨0, _, by omega, rfl, HOX.out, HYX.out, Keeps.refl _ _⟩
              case round =>
                obtain ⟨k, ys, hk, rfl, hox, hys, hkx⟩ := hrel
                by_cases hkm : k < 0
                · exact absurd hkm (by omega)
                · obtain rfl : 0 = k := by omega
                  have HBF := Lib.hid (FIN.out wr hkx)
                  clear hkx hox
                  go_wp2_with fail
                  go_roundw
                  case rel => exact ⟨i + 1, at', by omega, by go_num, rfl, by omega, HBF.out⟩
                  case measure => simp [intOf]; omega
          · go_wp2_with fail
            go_roundw
            case rel => exact ⟨i + 1, at', by omega, by go_num, rfl, by omega, HB6.out⟩
            case measure => simp [intOf]; omega
end Go.Proofs.Ytbggeilejdnaeaa
