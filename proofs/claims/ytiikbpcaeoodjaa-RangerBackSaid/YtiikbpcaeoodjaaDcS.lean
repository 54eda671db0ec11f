/- The decoder: settle. -/
import Derived.Test.YtiikbpcaeoodjaaDcP
import Derived.Test.YtiikbpcaeoodjaaEnV
import Derived.Test.YtiikbpcaeoodjaaRfM
namespace Go.Proofs.Ytiikbpcaeoodjaa
open Go.RowKit
set_option linter.unusedVariables false
set_option linter.unusedSimpArgs false

/-- The decoder at block g: its chances at gc, what is left of its bytes in a block of RB. -/
structure DecAt (w : World) (g gc cc : Nat) (RB : Nat → Prop) (A : Option Addr) (c : Nat) (d : Dec) : Prop where
  blk : w.heap[g]? = some (.cells #[.bool true, .slice (some ⟨gc, 0, none⟩) d.ch.length cc, .int .u32 d.width, .int .u32 d.code, .slice A d.rest.length c, .bool d.over] 72 (0, 0))
  chs : w.ownsRow 0 88 1 (.slice (some ⟨gc, 0, none⟩) d.ch.length cc) d.ch.length (u16s d.ch)
  rst : Nums .u8 w A d.rest.length c (toI d.rest)
  rb : ∀ b o, A = some ⟨b, o, none⟩ → RB b
  ng : ¬ RB g
  ngc : ¬ RB gc
theorem own1 {gc i n c : Nat} (h : (Value.slice (some ⟨gc, 0, none⟩) n c).ownBlock = some i) : gc = i := by simpa [Value.ownBlock] using h
namespace DecAt
variable {w w' : World} {g gc cc c : Nat} {RB : Nat → Prop} {A : Option Addr} {d d' : Dec}
theorem chs_blk (h : DecAt w g gc cc RB A c d) : ∃ cs, w.heap[gc]? = some (.cells cs 88 (0, 0)) := by
  rcases h.chs.2 with ⟨hv, _⟩ | ⟨g', cap, cur, hv, _, hh, _⟩
  · cases hv
  · injection hv with hv
    injection hv with hv
    injection hv with hv
    subst hv
    exact ⟨cur, hh⟩
theorem ne (h : DecAt w g gc cc RB A c d) : gc ≠ g := by
  obtain ⟨cs, h2⟩ := h.chs_blk
  rintro rfl
  have h3 := h.blk
  rw [h2] at h3
  injection h3 with h3
  injection h3 with _ h3
  exact absurd h3 (by decide)
theorem keep {S : Nat → Prop} (h : DecAt w g gc cc RB A c d) (k : Keeps S w w') (h1 : ¬ S g) (h2 : ¬ S gc) (h3 : ∀ b, RB b → ¬ S b) : DecAt w' g gc cc RB A c d :=
  ⟨block_keep h.blk k h1, owns_keep h.chs k (fun i hi => by rw [← own1 hi]; exact h2), h.rst.keep k (fun b o e => h3 b (h.rb b o e)), h.rb, h.ng, h.ngc⟩
theorem drew (h : DecAt w g gc cc RB A c d) : DecAt w.drew g gc cc RB A c d := h.keep (Keeps.refl (fun _ => False) w).drew (fun h => h) (fun h => h) (fun _ _ h => h)
/-- Its own cells are written. -/
theorem re (h : DecAt w g gc cc RB A c d) (k : Keeps (fun k => k = g) w w')
    (hb : w'.heap[g]? = some (.cells #[.bool true, .slice (some ⟨gc, 0, none⟩) d.ch.length cc, .int .u32 d'.width, .int .u32 d'.code, .slice A d.rest.length c, .bool d'.over] 72 (0, 0))) (hc : d'.ch = d.ch) (hr : d'.rest = d.rest) : DecAt w' g gc cc RB A c d' :=
  ⟨by rw [hc, hr]; exact hb, by rw [hc]; exact owns_keep h.chs k (fun i hi h9 => h.ne ((own1 hi).trans h9)), by rw [hr]; exact h.rst.keep k (fun b o e h9 => h.ng (h9 ▸ h.rb b o e)), h.rb, h.ng, h.ngc⟩
/-- .. and what is left. -/
theorem re1 {x : Nat} {r : List Nat} (h : DecAt w g gc cc RB A c d) (hrest : d.rest = x :: r) (k : Keeps (fun k => k = g) w w')
    (hb : w'.heap[g]? = some (.cells #[.bool true, .slice (some ⟨gc, 0, none⟩) d.ch.length cc, .int .u32 d'.width, .int .u32 d'.code, .slice (Nums.off A c 1) r.length (c - 1), .bool d'.over] 72 (0, 0))) (hc : d'.ch = d.ch) (hr : d'.rest = r) : DecAt w' g gc cc RB (Nums.off A c 1) (c - 1) d' :=
  ⟨by rw [hc, hr]; exact hb, by rw [hc]; exact owns_keep h.chs k (fun i hi h9 => h.ne ((own1 hi).trans h9)), by
      have h1 := (h.rst.keep k (fun b o e h9 => h.ng (h9 ▸ h.rb b o e))).drop 1 (by rw [hrest]; simp)
      rw [hr]
      rw [hrest] at h1
      simpa [toI] using h1, fun b o e => by
      unfold Nums.off at e
      split at e
      · exact h.rb b o e
      · cases A with
        | none => cases e
        | some a =>
          obtain ⟨b', o', e', _⟩ := h.rst.at_ (by rw [hrest]; simp)
          injection e' with e'
          subst e'
          rw [Option.map_some, Addr.add_mid] at e
          injection e with e
          injection e with e1 e2
          subst e1
          exact h.rb b' o' rfl, h.ng, h.ngc⟩
end DecAt
/-- What a call on the decoder leaves. -/
def DecTo (w : World) (g gc cc : Nat) (RB : Nat → Prop) (d : Dec) (w' : World) : Prop := ∃ A c, DecAt w' g gc cc RB A c d ∧ Keeps (fun k => k = g) w w'
def DecTo2 (w : World) (g gc cc : Nat) (RB : Nat → Prop) (d : Dec) (w' : World) : Prop := ∃ A c, DecAt w' g gc cc RB A c d ∧ Keeps (fun k => k = g ∨ k = gc) w w'

theorem bits_or_u32_nat (a b : Nat) (ha : a < 4294967296) (hb : b < 4294967296) : bits .or .u32 (a : Int) (b : Int) = ((a ||| b : Nat) : Int) := by
  have hx : a ||| b < 2 ^ 32 := Nat.or_lt_two_pow (by omega) (by omega)
  have h1 : (BitVec.ofInt 32 (a : Int)).toNat = a := by
    rw [BitVec.ofInt_natCast, BitVec.toNat_ofNat]; exact Nat.mod_eq_of_lt (by omega)
  have h2 : (BitVec.ofInt 32 (b : Int)).toNat = b := by
    rw [BitVec.ofInt_natCast, BitVec.toNat_ofNat]; exact Nat.mod_eq_of_lt (by omega)
  show IntKind.u32.wrap ((BitVec.ofInt 32 (a : Int) ||| BitVec.ofInt 32 (b : Int)).toNat : Int) = _
  rw [BitVec.toNat_or, h1, h2]
  show ((a ||| b : Nat) : Int) % 4294967296 = _
  omega
theorem or_byte32 (a x : Nat) (hx : x < 256) (ha : a < 16777216) : bits .or .u32 ((a : Int) * 256) (x : Int) = ((a * 256 + x : Nat) : Int) := by
  rw [show ((a : Int) * 256) = ((a * 256 : Nat) : Int) by omega, bits_or_u32_nat _ _ (by omega) (by omega)]
  have h := Nat.two_pow_add_eq_or_of_lt (i := 8) (b := x) (by omega) a
  rw [show 2 ^ 8 * a = a * 256 by omega] at h
  rw [← h]

set_option maxRecDepth 100000 in
set_option maxHeartbeats 4000000 in
theorem dSettle_is (w : World) (g gc cc : Nat) (RB : Nat → Prop) (A : Option Addr) (c : Nat) (d : Dec) (h : DecAt w g gc cc RB A c d) (ho : d.over = false) (hw : d.width < 4294967296) (ht : 65536 ≤ d.width) (hc : d.code < 4294967296) (hr : ∀ x ∈ d.rest, x < 256) :
    Calls Try.prog 58 #[.pointer (some ⟨g, 0, none⟩)] w fun e' w' => e' = .returned (.bool (!d.settle.over)) ∧ DecTo w g gc cc RB d.settle w' := by
  obtain ⟨ch, width, code, rest, over⟩ := d
  simp only at ho hw ht hc hr
  subst ho
  have H := Lib.hid h
  by_cases hlt : width < 16777216
  · have hlt' : decide ((width : Int) < 16777216) = true := by simp; omega
    have d2 := blk_cell h.blk 2
    have d4 := blk_cell h.blk 4
    have f5 := blk_frozen h.blk 5
    cases rest with
    | nil =>
      have HS : Hid ((⟨ch, width, code, [], false⟩ : Dec).settle = ⟨ch, width, code, [], true⟩) := by show _ = _; simp [Dec.settle, hlt]
      rw [HS.out]
      have d5 := blk_cell h.blk 5
      simp at d2 d4 d5
      clear h hlt HS
      go_enter Try.func58, Try.ntmps58
      go_wp2_with fail
      go_loopw [] (fun wr => wr = w) (fun _ => 0)
      case atStart => rfl
      case round =>
        obtain rfl := hrel
        go_wp2_with fail
        rw [show (!true) = false from rfl]
        go_ret
        exact ⟨rfl, _, _, H.out.re (d' := ⟨ch, width, code, [], true⟩) ((Keeps.refl (fun k => k = g) wr).setCell (p := ⟨g, 5, none⟩) (fun _ => rfl) (.bool true)) (blk_set H.out.blk 5 (.bool true)) rfl rfl, (Keeps.refl (fun k => k = g) wr).setCell (p := ⟨g, 5, none⟩) (fun _ => rfl) (.bool true)⟩
    | cons x r =>
      have hx := hr x (List.mem_cons_self ..)
      obtain ⟨D, hD⟩ : ∃ D : Dec, D = ⟨ch, width * 256, (code * 256 + x) % 4294967296, r, false⟩ := ⟨_, rfl⟩
      have HDD := Lib.hid hD
      have HS : Hid ((⟨ch, width, code, x :: r, false⟩ : Dec).settle = D) := by show _ = _; rw [hD]; simp [Dec.settle, hlt]
      rw [HS.out]
      have HLT := Lib.hid hlt
      have HDO : Hid (D.over = false ∧ 16777216 ≤ D.width) := by show _ ∧ _; rw [hD]; exact ⟨rfl, by show _ ≤ width * 256; omega⟩
      have hxi : (x : Int) < 256 := by omega
      have HXX := Lib.hid hx
      clear h hlt HS hD d2 d4 f5 hr hx
      go_enter Try.func58, Try.ntmps58
      go_wp2_with fail
      go_loopw [] (fun wr => ∃ (A' : Option Addr) (c' : Nat) (d1 : Dec), Hid (DecAt wr g gc cc RB A' c' d1) ∧ Hid ((A' = A ∧ c' = c ∧ d1 = ⟨ch, width, code, x :: r, false⟩) ∨ (d1 = D ∧ 16777216 ≤ d1.width)) ∧ Hid (Keeps (fun k => k = g) w wr)) (fun wr => wid (wr.cell? ⟨g, 2, none⟩))
      case atStart => exact ⟨A, c, _, H.out, .inl ⟨rfl, rfl, rfl⟩, Keeps.refl _ _⟩
      case round =>
        obtain ⟨A', c', d1, H1, HD, HK⟩ := hrel
        by_cases hl1 : d1.width < 16777216
        · obtain ⟨rfl, rfl, rfl⟩ : A' = A ∧ c' = c ∧ d1 = ⟨ch, width, code, x :: r, false⟩ := by
            rcases HD.out with h | h
            · exact h
            · have := h.2; omega
          clear hl1 HD
          have hci : (code : Int) < 4294967296 := by omega
          have HF := Lib.hid (And.intro hw (And.intro ht hc))
          clear hw ht hc
          obtain ⟨b, o, rfl, hcl⟩ := H1.out.rst.at_ (by simp)
          have hbg : ∀ w7, Keeps (fun k => k = g) wr w7 → w7.cell? ⟨b, o, none⟩ = some (.int .u8 (x : Nat)) := fun w7 h7 => by
            have h8 := hcl 0 (by simp)
            simp [toI] at h8
            exact ckp h8 h7 (fun h9 => H1.out.ng (h9 ▸ H1.out.rb b o rfl))
          have HBG := Lib.hid hbg
          clear hcl hbg
          have d2 := blk_cell H1.out.blk 2
          have f2 := blk_frozen H1.out.blk 2
          simp at d2
          have hk1 := (Keeps.refl (fun k => k = g) wr).setCell (p := ⟨g, 2, none⟩) (fun _ => rfl) (.int .u32 ((width : Int) * 256))
          have HE2 : Hid (DecAt (wr.setCell ⟨g, 2, none⟩ (.int .u32 ((width : Int) * 256))) g gc cc RB (some ⟨b, o, none⟩) c' ⟨ch, width * 256, code, x :: r, false⟩) := H1.out.re (d' := ⟨ch, width * 256, code, x :: r, false⟩) hk1 (blk_set H1.out.blk 2 (.int .u32 ((width : Int) * 256))) rfl rfl
          have HK2 : Hid (Keeps (fun k => k = g) wr (wr.setCell ⟨g, 2, none⟩ (.int .u32 ((width : Int) * 256)))) := hk1
          have hw0 : (width : Int) * 256 < 4294967296 := by have := HLT.out; omega
          have hlt' : decide ((width : Int) < 16777216) = true := by have := HLT.out; simp; omega
          have d4 := blk_cell H1.out.blk 4
          simp at d4
          obtain ⟨L, hL⟩ : ∃ L, L = r.length + 1 := ⟨_, rfl⟩
          rw [← hL] at d4
          have hn0 : ((L : Int) == 0) = false := by rw [beq_eq_false_iff_ne]; omega
          have hn1 : ¬ (L : Int) = 0 := by omega
          have HLL := Lib.hid hL
          clear hL
          clear hk1
          go_wp2_with fail
          have HD2 := Lib.hid d2
          clear d4 d2 f2
          generalize wr.setCell ⟨g, 2, none⟩ (.int .u32 ((width : Int) * 256)) = w2 at *
          refine wp_region_seq (by kernel_rfl) (by kernel_rfl) ?_
          have HE3 := Lib.hid HE2.out.drew
          have HK3 : Hid (Keeps (fun k => k = g) wr w2.drew) := HK2.out.drew
          clear HE2 HK2
          generalize w2.drew = wd at *
          have d3 := blk_cell HE3.out.blk 3
          have d4 := blk_cell HE3.out.blk 4
          have f3 := blk_frozen HE3.out.blk 3
          have f4 := blk_frozen HE3.out.blk 4
          have hcl := HBG.out wd HK3.out
          have hcz := H1.out.rst.cap
          simp at hcz
          obtain ⟨A2, hA2⟩ : ∃ A2, A2 = Nums.off (some ⟨b, o, none⟩) c' 1 := ⟨_, rfl⟩
          have hsl : ∀ w : World, (Instr.slice 29 (.slice (some ⟨b, o, none⟩) (r.length + 1) c') (some (.int .i64 1)) none none).run Try.prog w = .ok (.slice A2 r.length (c' - 1)) w := fun w => by
            rw [hA2]
            exact run_post (P := Try.prog) (t := 29) Try.underlying29 rfl rfl (some ⟨b, o, none⟩) (r.length + 1) c' 1 (by omega) w
          have HA2 := Lib.hid hA2
          clear hA2
          simp at d3 d4
          obtain ⟨C, hC⟩ : ∃ C, C = (code * 256 + x) % 4294967296 := ⟨_, rfl⟩
          have eor : bits .or .u32 ((code : Int) * 256 % 4294967296) (x : Int) = (C : Int) := by
            have h1 := HF.out.2.2
            have h2 := or_byte32 (code % 16777216) x HXX.out (by omega)
            rw [show (((code % 16777216 : Nat)) : Int) * 256 = (code : Int) * 256 % 4294967296 by omega] at h2
            rw [h2, hC]
            omega
          have HCC := Lib.hid hC
          clear hC
          go_wp2_with fail
          refine ⟨by kernel_rfl, ?_⟩
          go_wp2_with fail
          have hk6 := ((Keeps.refl (fun k => k = g) wd).setCell (p := ⟨g, 3, none⟩) (fun _ => rfl) (.int .u32 (C : Nat))).setCell (p := ⟨g, 4, none⟩) (fun _ => rfl) (.slice A2 r.length (c' - 1))
          have HE6 : Hid (DecAt ((wd.setCell ⟨g, 3, none⟩ (.int .u32 (C : Nat))).setCell ⟨g, 4, none⟩ (.slice A2 r.length (c' - 1))) g gc cc RB A2 (c' - 1) D) := by
            show DecAt _ _ _ _ _ _ _ _
            rw [HDD.out, ← HCC.out, HA2.out]
            rw [HA2.out] at hk6
            exact HE3.out.re1 (d' := ⟨ch, width * 256, C, r, false⟩) rfl hk6 (blk_set (blk_set HE3.out.blk 3 (.int .u32 (C : Nat))) 4 (.slice _ r.length (c' - 1))) rfl rfl
          have HK6 : Hid (Keeps (fun k => k = g) w ((wd.setCell ⟨g, 3, none⟩ (.int .u32 (C : Nat))).setCell ⟨g, 4, none⟩ (.slice A2 r.length (c' - 1)))) := Keeps.trans (Keeps.trans HK.out HK3.out fun _ _ h => h) hk6 fun _ _ h => h
          have hme : wid (((wd.setCell ⟨g, 3, none⟩ (.int .u32 (C : Nat))).setCell ⟨g, 4, none⟩ (.slice A2 r.length (c' - 1))).cell? ⟨g, 2, none⟩) = 4294967296 - width * 256 := by
            have h9 := blk_cell HE6.out.blk 2
            simp only [HDD.out] at h9
            simp at h9
            rw [h9]
            exact wid_int .u32 (width * 256)
          have HME := Lib.hid hme
          clear hk6 hme d3 d4 f3 f4 hsl hcl eor
          generalize ((wd.setCell ⟨g, 3, none⟩ (.int .u32 (C : Nat))).setCell ⟨g, 4, none⟩ (.slice A2 r.length (c' - 1))) = w6 at *
          go_roundw
          case rel => exact ⟨_, _, D, HE6.out, .inr ⟨rfl, HDO.out.2⟩, HK6.out⟩
          case measure => rw [HME.out, HD2.out, wid_int]; have h1 := HF.out.2.1; have h2 := HLT.out; omega
        · have he : d1 = D := by
            rcases HD.out with h | h
            · have := HLT.out; rw [h.2.2] at hl1; exact absurd this hl1
            · exact h.1
          subst he
          have d2 := blk_cell H1.out.blk 2
          simp at d2
          have hov := HDO.out.1
          obtain ⟨dch, dw, dc, dr, dov⟩ := d1
          simp only at d2 hl1 hov
          subst hov
          have hl2 : decide ((dw : Int) < 16777216) = false := by simp; omega
          clear hl1
          go_wp2_with fail
          go_ret
          exact ⟨rfl, _, _, H1.out, HK.out⟩
  · have HS : Hid ((⟨ch, width, code, rest, false⟩ : Dec).settle = ⟨ch, width, code, rest, false⟩) := by show _ = _; simp only [Dec.settle]; rw [if_neg hlt]
    rw [HS.out]
    have hl2 : decide ((width : Int) < 16777216) = false := by simp; omega
    have d2 := blk_cell h.blk 2
    simp at d2
    clear h hlt HS
    go_enter Try.func58, Try.ntmps58
    go_wp2_with fail
    go_loopw [] (fun wr => wr = w) (fun _ => 0)
    case atStart => rfl
    case round =>
      obtain rfl := hrel
      go_wp2_with fail
      go_ret
      exact ⟨rfl, _, _, H.out, Keeps.refl _ _⟩
end Go.Proofs.Ytiikbpcaeoodjaa
