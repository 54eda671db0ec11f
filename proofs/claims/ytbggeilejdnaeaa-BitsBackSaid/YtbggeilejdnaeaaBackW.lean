/- The law BitsBack: the walk. -/
import Derived.Test.YtbggeilejdnaeaaBack
namespace Go.Proofs.Ytbggeilejdnaeaa
open Go.RowKit
set_option linter.unusedVariables false

set_option maxRecDepth 4000 in
set_option maxHeartbeats 2000000 in
theorem walkBitsBack (W : World) (x0 : Bool) (a1 : Option Addr) (c1 : Nat) (x1 : List ((Int) × (Int) × (Int) × (List (Int)) × Unit)) (_h1 : Sh.Rd W (.sl 48 (.pair (.int .i64) (.pair (.int .u64) (.pair (.int .i64) (.pair (.sl 1 (.int .u8)) .nil))))) [.slice a1 x1.length c1] x1) :
    Calls Try.prog 6 #[.bool x0, .slice a1 x1.length c1] W fun e w' => e = .returned (.bool true) ∧ Below W.heap.size W w' := by
  have hlen : x1.length ≤ 2932031007402 := by
    obtain ⟨a, cap, e, h1, h2, h3, _⟩ := _h1
    omega
  have HC := Lib.hid (fun i hi => acts_cells _h1 i hi)
  clear _h1
  go_enter Try.func6, Try.ntmps6
  go_wp2_with fail
  refine (new_any _ x0).mono ?_
  rintro e wA ⟨rfl, HA, KA⟩
  go_wp2_with fail
  go_loopw [6] (fun s wr => ∃ (i : Nat) (v' : Value), i ≤ x1.length ∧ s = .int .i64 i ∧ Wr wr W.heap.size x0 v' (allBits x0 (x1.take i)) ∧ Keeps (fun _ => False) W wr ∧ Far W v') (fun s _ => x1.length - (intOf s).toNat)
  case atStart => exact ⟨0, _, by omega, rfl, HA, KA, Far.nil _ 0 0⟩
  case round =>
    obtain ⟨i, v', hi, rfl, hW, hK, hF⟩ := hrel
    clear HA KA
    by_cases hil : i < x1.length
    · obtain ⟨b, off, A, c, x, rfl, hx, k0, k1, k2, k3, h0, hv, hn, hbb⟩ := HC.out i hil
      have hv := wf_u64 hv
      have hn := wf_i64 hn
      have d2 := cell_keep k2 hK (fun h => h)
      have d1 := cell_keep k1 hK (fun h => h)
      obtain ⟨k, hk, ek, e1, e2⟩ := rem65 x.2.2.1
      have enn : nn x = k := by unfold nn; rw [ek]; simp
      have e64 : (64 : Int) - k = ((64 - k : Nat) : Int) := by omega
      obtain ⟨hf0, hf1, hf2⟩ := uu_fits x hv.1 hv.2
      have huu : x.2.1 / 2 ^ (64 - k) = uu x := by unfold uu; rw [enn]
      rw [enn] at hf2
      have hl : (allBits x0 (x1.take i)).length ≤ 64 * i := Nat.le_trans (allBits_length x0 _) (by simp; omega)
      have HS := Lib.hid (allBits_step x0 x1 i x hx)
      have hil' : (i : Int) < x1.length := by omega
      clear k0 k1 k2 k3 h0 hbb
      go_wp2_with fail
      refine (put_yes wr W.heap.size x0 v' _ (uu x) k hW hf0 hf1 hk (.inr hf2) (by omega)).mono ?_
      rintro e w2 ⟨rfl, v2, hW2, hK2⟩
      obtain ⟨hK3, hF3⟩ := hK2.far hK (Nat.le_refl _) hF
      go_wp2_with fail
      go_roundw
      case rel => exact ⟨i + 1, v2, by omega, by go_num, by rw [HS.out, enn]; exact hW2, hK3, hF3⟩
      case measure => simp [intOf]; omega
    · obtain rfl : i = x1.length := by omega
      go_wp2_with fail
      rw [List.take_length] at hW
      have hl := allBits_length x0 x1
      have hB := allBits_isBits x0 x1
      have hpk := pk_isByte x0 _ hB
      refine (bytes_any wr W.heap.size x0 v' _ hW (by omega)).mono ?_
      rintro e w2 ⟨A', c', rfl, ho, hk2⟩
      obtain ⟨q, hq⟩ : ∃ q, q = ((allBits x0 x1).length + 7) / 8 := ⟨_, rfl⟩
      rw [← hq] at ho ⊢
      have HQ := Lib.hid hq
      have hqb : q ≤ 140737488355328 := by omega
      clear hq
      go_wp2_with fail
      refine (newReader_any w2 x0 A' q c' _ (src_u8 ho) (fun y hy => by have := hpk y hy; omega) hqb).mono ?_
      rintro e w3 ⟨g, A2, c2, rfl, hg, hR, hFr, hk3⟩
      have hz2 : wr.heap.size ≤ w2.heap.size := hk2.size
      have hWg := blk_lt hW.2.1
      have hWv : ∀ i, v'.ownBlock = some i → i < wr.heap.size := row_lt hW.2.2
      have hW3 : Wr w3 W.heap.size x0 v' (allBits x0 x1) := (hW.keep hk2 (fun h => h) (fun _ _ h => h)).keep hk3 (fun h => h) (fun _ _ h => h)
      have hK3 : Keeps (fun _ => False) W w3 := (hK.trans hk2 (fun _ _ h => h)).trans hk3 (fun _ _ h => h)
      have hgW : W.heap.size < g := by omega
      have hvg : ∀ i, v'.ownBlock = some i → i ≠ g := fun i hi => by have := hWv i hi; omega
      clear hW hK hF ho hk2 hk3 hg hFr hz2 hWg hWv
      go_wp2_with fail
      go_loopw [9] (fun s wr => ∃ (i : Nat), i ≤ x1.length ∧ s = .int .i64 i ∧ Rr wr g x0 A2 q c2 (pk x0 (allBits x0 x1)) (allBits x0 (x1.take i)).length ∧ Keeps (fun k => k = g) w3 wr) (fun s _ => x1.length - (intOf s).toNat)
      case atStart => exact ⟨0, by omega, rfl, hR, Keeps.refl _ _⟩
      case round =>
        obtain ⟨i, hi, rfl, hRr, hKr⟩ := hrel
        by_cases hil : i < x1.length
        · obtain ⟨b, off, A, c, x, rfl, hx, k0, k1, k2, k3, h0, hv, hn, hbb⟩ := HC.out i hil
          have hv := wf_u64 hv
          have hn := wf_i64 hn
          have hKw : Keeps (fun _ => False) W wr := hK3.trans hKr (fun j hj h => by omega)
          have hbW := World.block_lt_of_cell? W _ k2
          have d2 := cell_keep k2 hKw (fun h => h)
          have d1 := cell_keep k1 hKw (fun h => h)
          obtain ⟨k, hk, ek, e1, e2⟩ := rem65 x.2.2.1
          have enn : nn x = k := by unfold nn; rw [ek]; simp
          have e64 : (64 : Int) - k = ((64 - k : Nat) : Int) := by omega
          have huu : x.2.1 / 2 ^ (64 - k) = uu x := by unfold uu; rw [enn]
          obtain ⟨hg1, hg2⟩ := allBits_get x0 x1 i x hx hv.1 hv.2
          rw [enn] at hg1 hg2
          rw [← HQ.out] at hg2
          have HS := Lib.hid (allBits_step x0 x1 i x hx)
          have hil' : (i : Int) < x1.length := by omega
          clear k0 k1 k2 k3 h0 hbb
          go_wp2_with fail
          refine (get_yes wr g q c2 _ x0 A2 _ k hRr hqb hk hg2).mono ?_
          rintro e w4 ⟨rfl, hR4, hK4⟩
          rw [hg1]
          have d1 := cell_keep d1 hK4 (fun h => by simp at h hbW; omega)
          go_wp2_with fail
          go_roundw
          case rel => exact ⟨i + 1, by omega, by go_num, by rw [HS.out, List.length_append, show (bitsOf x0 (uu x) (nn x)).length = k from by simp [bitsOf, enn]]; exact hR4, hKr.trans hK4 (fun _ _ h => h)⟩
          case measure => simp [intOf]; omega
        · obtain rfl : i = x1.length := by omega
          rw [List.take_length] at hRr
          have hW4 : Wr wr W.heap.size x0 v' (allBits x0 x1) := hW3.keep hKr (fun h => by omega) (fun j hj h => hvg j hj h)
          have hKw : Keeps (fun _ => False) W wr := hK3.trans hKr (fun j hj h => by omega)
          have hle : (allBits x0 x1).length ≤ 8 * q := by have := HQ.out; omega
          have h8 : 8 * q < (allBits x0 x1).length + 8 := by have := HQ.out; omega
          generalize hnb : (allBits x0 x1).length = nb at *
          have HNB := Lib.hid hnb
          clear hnb
          go_wp2_with fail
          refine (at_any wr g q c2 nb x0 A2 _ hRr).mono ?_
          rintro e w4 ⟨rfl, rfl⟩
          go_wp2_with fail
          refine (len_any wr W.heap.size x0 v' _ hW4).mono ?_
          rintro e w4 ⟨rfl, rfl⟩
          rw [HNB.out]
          go_wp2_with fail
          refine (left_any wr g q c2 nb x0 A2 _ hRr hqb hle).mono ?_
          rintro e w4 ⟨rfl, rfl⟩
          go_wp2_with fail
          refine (new_any wr.drew x0).mono ?_
          rintro e w5 ⟨rfl, _, hk5⟩
          go_wp2_with fail
          go_ret
          exact ⟨rfl, ((hKw.drew).trans hk5 (fun _ _ h => h)).below (fun _ _ h => h) (Nat.le_refl _)⟩
end Go.Proofs.Ytbggeilejdnaeaa
