/- RangerBack: the law. -/
import Derived.Test.YtiikbpcaeoodjaaBkK
import Derived.Test.YtiikbpcaeoodjaaRrW
namespace Go.Proofs.Ytiikbpcaeoodjaa
open Go.RowKit
set_option linter.unusedVariables false
set_option linter.unusedSimpArgs false

theorem Try.infoAct : (Try.prog.info? 43).map (fun i => (i.zero, i.size, i.bytes)) = some (some (.agg #[.int .i64 0, .int .i64 0, .int .i64 0, .int .i64 0, .slice none 0 0]), 5, 56) := by kernel_rfl
theorem rows_apart2 {w : World} {b1 b2 e1 e2 s1 s2 n m : Nat} {v1 v2 : Value} {x1 x2 : List Value} (h1 : w.ownsRow b1 e1 s1 v1 n x1) (h2 : w.ownsRow b2 e2 s2 v2 m x2) (hne : e1 ≠ e2) (k : Nat) (k1 : v1.ownBlock = some k) : v2.ownBlock ≠ some k := by
  rcases h1.2 with ⟨hv, _⟩ | ⟨g, cap, cur, hv, _, hh, _⟩
  · subst hv; simp [Value.ownBlock] at k1
  · subst hv
    have hk : g = k := by simpa [Value.ownBlock] using k1
    subst hk
    exact row_ne h2 hh (fun h => hne h.symm)
/-- The cells of an act in the row. -/
def cells1 (a : ActV) : List Value := [.int .i64 a.1, .int .i64 a.2.1, .int .i64 a.2.2.1, .int .i64 a.2.2.2.1, .slice a.2.2.2.2.1 a.2.2.2.2.2.1 a.2.2.2.2.2.2]
def cellsOf (L : List ActV) : List Value := L.flatMap cells1
theorem cellsOf_snoc (L : List ActV) (a : ActV) : cellsOf (L ++ [a]) = cellsOf L ++ cells1 a := by simp [cellsOf]
theorem cells_at : ∀ (L : List ActV) (i : Nat) (a : ActV), L[i]? = some a → ∀ j, j < 5 → (cellsOf L)[i * 5 + j]? = (cells1 a)[j]?
  | b :: L, 0, a, h, j, hj => by
    have h : b = a := by simpa using h
    subst h
    show (cells1 b ++ cellsOf L)[0 * 5 + j]? = _
    rw [Nat.zero_mul, Nat.zero_add, List.getElem?_append_left (by show j < 5; exact hj)]
  | b :: L, i + 1, a, h, j, hj => by
    have h : L[i]? = some a := by simpa using h
    show (cells1 b ++ cellsOf L)[(i + 1) * 5 + j]? = _
    rw [List.getElem?_append_right (by show 5 ≤ _; omega)]
    show (cellsOf L)[(i + 1) * 5 + j - 5]? = _
    rw [show (i + 1) * 5 + j - 5 = i * 5 + j by omega]
    exact cells_at L i a h j hj
theorem src_new {w : World} (cs : List Value) (t : TypeId) (h5 : cs.length = 1 * 5) (h : ∀ u ∈ cs, u.oneCell' = true) : Src (w.alloc (.cells cs.toArray t)) 5 (some ⟨w.heap.size, 0, none⟩) 1 1 cs := by
  refine ⟨h5, (fun h => nomatch h), (fun ad he j u hj => ?_), h⟩
  injection he with he
  subst he
  rw [Addr.add_mid]
  have h1 := blk_cell (heap_alloc_new w (.cells cs.toArray t)) (0 + j)
  rw [h1]
  simpa using hj
theorem EncTo2.rel2 {w w' : World} {g gc cc ga : Nat} {vo : Value} {e e' : Enc} {cs : Array Value} (h : EncAt w g gc cc vo e) (hga : w.heap[ga]? = some (.cells cs 43 (0, 0))) (t : EncTo2 w g gc cc vo e' w') : Keeps (fun k => k ≠ ga) w w' := by
  obtain ⟨vo', _, h2, _⟩ := t
  refine h2.mono fun k _ hk => ?_
  rintro rfl
  rcases hk with hk | hk | hk
  · exact blk_ne h.blk hga (by decide) hk.symm
  · obtain ⟨cs, h9⟩ := h.chs_blk
    exact blk_ne h9 hga (by decide) hk.symm
  · exact row_ne h.out hga (by decide) hk
/-- The encoder, and the row of what was taken. -/
structure BE (W w : World) (n cg cgc : Nat) (cvo dv : Value) (e : Enc) (L : List ActV) : Prop where
  enc : EncAt w cg cgc n cvo e
  row : w.ownsRow W.heap.size 43 5 dv L.length (cellsOf L)
  grow : Grow W w
  hcg : W.heap.size ≤ cg
  hcgc : W.heap.size ≤ cgc
  hcvo : ∀ k, cvo.ownBlock = some k → W.heap.size ≤ k
namespace BE
variable {W w w' : World} {n cg cgc : Nat} {cvo dv dv' : Value} {e e' : Enc} {L L' : List ActV}
theorem grown (h : BE W w n cg cgc cvo dv e L) (k : Grow w w') : BE W w' n cg cgc cvo dv e L :=
  ⟨h.enc.keep k (fun h => h) (fun h => h) (fun _ _ h => h), owns_keep h.row k (fun _ _ h => h), Grow.trans _ _ _ h.grow k, h.hcg, h.hcgc, h.hcvo⟩
theorem toC (h : BE W w n cg cgc cvo dv e L) (t : EncTo2 w cg cgc n cvo e' w') : ∃ cvo', BE W w' n cg cgc cvo' dv e' L := by
  obtain ⟨cvo', h1, h2, h3⟩ := t
  refine ⟨cvo', h1, owns_keep h.row h2 ?_, ?_, h.hcg, h.hcgc, h3.far h.grow.size h.hcvo⟩
  · rintro i hi (h9 | h9 | h9)
    · subst h9; exact row_ne h.row h.enc.blk (by decide) hi
    · subst h9
      obtain ⟨cs, h8⟩ := h.enc.chs_blk
      exact row_ne h.row h8 (by decide) hi
    · exact rows_apart2 h.row h.enc.out (by decide) i hi h9
  · refine Keeps.trans h.grow h2 fun i hi h9 => ?_
    rcases h9 with h9 | h9 | h9
    · have := h.hcg; omega
    · have := h.hcgc; omega
    · have := h.hcvo i h9; omega
theorem app (h : BE W w n cg cgc cvo dv e L) (k : Keeps (fun k => dv.ownBlock = some k) w w') (ho : w'.ownsRow W.heap.size 43 5 dv' L'.length (cellsOf L')) : BE W w' n cg cgc cvo dv' e L' := by
  refine ⟨h.enc.keep k ?_ ?_ ?_, ho, ?_, h.hcg, h.hcgc, h.hcvo⟩
  · exact row_ne h.row h.enc.blk (by decide)
  · obtain ⟨cs, h8⟩ := h.enc.chs_blk
    exact row_ne h.row h8 (by decide)
  · intro i hi h9
    exact rows_apart2 h.row h.enc.out (by decide) i h9 hi
  · refine Keeps.trans h.grow k fun i hi h9 => ?_
    have := own_ge h.row i h9
    omega
end BE
set_option maxRecDepth 8000 in
set_option maxHeartbeats 8000000 in
theorem walkRangerBack (W : World) (x0 : Int) (_h0 : (Lit.int .i64 x0).wf = true) (a1 : Option Addr) (c1 : Nat) (x1 : List ((Int) × (Int) × (Int) × (Int) × (List (Int)) × Unit)) (_h1 : Sh.Rd W (.sl 56 (.pair (.int .i64) (.pair (.int .i64) (.pair (.int .i64) (.pair (.int .i64) (.pair (.sl 8 (.int .i64)) .nil)))))) [.slice a1 x1.length c1] x1) :
    Calls Try.prog 6 #[.int .i64 x0, .slice a1 x1.length c1] W fun e w' => e = .returned (.bool true) ∧ Below W.heap.size W w' := by
  have HL5 := Lib.hid (acts5_len _h1)
  have HC := Lib.hid (fun i hi => acts5_cells _h1 i hi)
  have hlen : (x1.length : Int) ≤ 2513169434844 := by have := HL5.out; omega
  clear _h1 _h0
  by_cases hx : x0 < 0 ∨ 65536 < x0
  · have HA := Lib.hid (new_bad W x0 hx)
    by_cases h1 : x0 < 0
    · clear hx
      go_enter Try.func6, Try.ntmps6
      go_wp2_with fail
      refine HA.out.mono ?_
      rintro e w1 ⟨rfl, rfl⟩
      go_wp2_with fail
      go_ret
      exact ⟨rfl, Below.refl _ _⟩
    · have h2 : 65536 < x0 := by omega
      clear hx
      go_enter Try.func6, Try.ntmps6
      go_wp2_with fail
      refine HA.out.mono ?_
      rintro e w1 ⟨rfl, rfl⟩
      go_wp2_with fail
      go_ret
      exact ⟨rfl, Below.refl _ _⟩
  obtain ⟨n, rfl⟩ : ∃ n : Nat, x0 = (n : Int) := ⟨x0.toNat, by omega⟩
  have hn : n ≤ 65536 := by omega
  have HA := Lib.hid (new_is W n hn)
  have HN := Lib.hid hn
  clear hx hn
  go_enter Try.func6, Try.ntmps6
  go_wp2_with fail
  refine HA.out.mono ?_
  rintro e w1 ⟨cg, cgc, rfl, h1, h2, h3, h4⟩
  have HE0 : Hid (BE W w1 n cg cgc (.slice none 0 0) (.slice none 0 0) (Enc.new n) []) :=
    ⟨h3, ⟨rfl, .inl ⟨rfl, rfl⟩⟩, h4, h1, h2, fun _ h => by simp [Value.ownBlock] at h⟩
  clear h1 h2 h3 h4 HA
  go_wp2_with fail
  go_loopw [7, 8] (fun vd vi wr => ∃ (i : Nat) (L : List ActV) (cvo : Value) (e : Enc), i ≤ x1.length ∧ vi = .int .i64 i ∧ Hid (BE W wr n cg cgc cvo vd e L) ∧ Hid (e.Okc ∧ e.ch.length = n ∧ Run n (Enc.new n) L e ∧ e.out.length + e.waiting ≤ 1 + 31 * i ∧ L.length ≤ i)) (fun _ vi _ => x1.length - (intOf vi).toNat)
  case atStart => exact ⟨0, [], _, Enc.new n, by omega, rfl, HE0.out, new_okc n, by simp [Enc.new], rfl, by simp [Enc.new], Nat.le_refl _⟩
  case round =>
    clear HE0
    obtain ⟨i, L, cvo, e, hi, rfl, HE, HX⟩ := hrel
    obtain ⟨Ad, cd, hdv⟩ := rowf HE.out.row
    subst hdv
    obtain ⟨LL, hLL⟩ : ∃ LL, LL = L.length := ⟨_, rfl⟩
    have HLL := Lib.hid hLL
    rw [← hLL] at HE ⊢
    clear hLL
    by_cases hil : i < x1.length
    · have hil' : (i : Int) < x1.length := by omega
      obtain ⟨b, off, A', c', x, rfl, hx, k0, k1, k2, k3, k4, v0, v1, v2, v3, hbb⟩ := HC.out i hil
      have hgW := HE.out.grow
      have d0 := ckp k0 hgW (fun h => h)
      have d1 := ckp k1 hgW (fun h => h)
      have d2 := ckp k2 hgW (fun h => h)
      have d3 := ckp k3 hgW (fun h => h)
      have d4 := ckp k4 hgW (fun h => h)
      have HI1 := Lib.hid (inKind_wf v1)
      have HI3 := Lib.hid (inKind_wf v3)
      clear k0 k1 k2 k3 k4 v0 v1 v2 v3 hbb hgW hx
      obtain ⟨kd, bs, v, m, l, u⟩ := x
      simp only at d0 d1 d2 d3 d4 HI1 HI3
      generalize l.length = ln at *
      have HBND : Hid (e.out.length + e.waiting ≤ 99999999999900) := by have h1 := HX.out.2.2.2.1; have h2 := HL5.out; show _ ≤ _; omega
      go_upto_region 10 with fail
      have hga := heap_alloc_new wr (.cells #[.int .i64 kd, .int .i64 bs, .int .i64 v, .int .i64 m, .slice A' ln c'] 43)
      have HE6 := Lib.hid (HE.out.grown ((Keeps.refl (fun _ => False) wr).alloc (.cells #[.int .i64 kd, .int .i64 bs, .int .i64 v, .int .i64 m, .slice A' ln c'] 43)))
      have HGA := Lib.hid hga
      clear d0 d1 d2 d3 d4 hga HE
      generalize wr.alloc (.cells #[.int .i64 kd, .int .i64 bs, .int .i64 v, .int .i64 m, .slice A' ln c'] 43) = wb at *
      have e0 := blk_cell HGA.out 0
      have e1 := blk_cell HGA.out 1
      have e2 := blk_cell HGA.out 2
      have e3 := blk_cell HGA.out 3
      have e4 := blk_cell HGA.out 4
      simp at e0 e1 e2 e3 e4
      obtain ⟨ga, hgae⟩ : ∃ ga, ga = wr.heap.size := ⟨_, rfl⟩
      rw [← hgae] at e0 e1 e2 e3 e4 HGA ⊢
      clear hgae
      by_cases hk0 : kd = 0
      · subst hk0
        rcases (eact_bit bs v m n e HX.out.1.ok HX.out.2.1 HN.out HBND.out) with ⟨eN, hacc, hc⟩ | hc
        · have HAC := Lib.hid hacc
          have HCL := Lib.hid (hc wb cg cgc cvo HE6.out.enc)
          clear hacc hc
          go_wp2_with fail
          refine HCL.out.mono ?_
          rintro x w3 ⟨rfl, t⟩
          have hga3 := block_keep HGA.out (EncTo2.rel2 HE6.out.enc HGA.out t) (fun h => h rfl)
          obtain ⟨cvo', hE3⟩ := HE6.out.toC t
          have HE3 := Lib.hid hE3
          have HGA3 := Lib.hid hga3
          clear t hga3 hE3 HCL e0 e1 e2 e3 e4 HE6 HGA
          have e0 := blk_cell HGA3.out 0
          have e1 := blk_cell HGA3.out 1
          have e2 := blk_cell HGA3.out 2
          have e3 := blk_cell HGA3.out 3
          have e4 := blk_cell HGA3.out 4
          simp at e0 e1 e2 e3 e4
          have HS5 := Lib.hid (src_new (w := w3) [.int .i64 0, .int .i64 bs, .int .i64 v, .int .i64 m, .slice A' ln c'] 43 rfl (by intro u hu; simp at hu; rcases hu with rfl | rfl | rfl | rfl | rfl <;> rfl))
          have HE4 := Lib.hid (HE3.out.grown ((Keeps.refl (fun _ => False) w3).alloc (.cells #[.int .i64 0, .int .i64 bs, .int .i64 v, .int .i64 m, .slice A' ln c'] 43)))
          have HRW := HE4.out.row
          rw [← HLL.out] at HRW
          have HRWH := Lib.hid HRW
          clear HRW HE3 HGA3
          go_wp2_with (at_builtin; refine wpList_appS rfl (.tmp 82) (.tmp 84) 32 43 rfl Try.underlying32 Try.infoAct rfl (by decide) W.heap.size _ LL _ rfl HRWH.out HE4.out.grow.size (some ⟨w3.heap.size, 0, none⟩) 1 1 _ rfl HS5.out (by have h1 := HX.out.2.2.2.2; have h2 := HLL.out; have h3 := HL5.out; unfold maxLen; omega) (by have h1 := HX.out.2.2.2.2; have h2 := HLL.out; have h3 := HL5.out; omega) ?_)
          intro A8 c8 w5 ho5 hk5 _
          have HO5 : Hid (w5.ownsRow W.heap.size 43 5 (.slice A8 (LL + 1) c8) (L ++ [((0, bs, v, m, A', ln, c') : ActV)]).length (cellsOf (L ++ [((0, bs, v, m, A', ln, c') : ActV)]))) := by
            show World.ownsRow _ _ _ _ _ _ _
            rw [cellsOf_snoc, List.length_append, ← HLL.out]
            exact ho5
          have HE5 := Lib.hid (HE4.out.app hk5 HO5.out)
          have HOK := Lib.hid (HAC.out.okc HX.out.1 HX.out.2.1)
          clear ho5 hk5 e0 e1 e2 e3 e4 HE4 HS5 HRWH
          go_wp2_with fail
          go_roundw
          case rel => exact ⟨i + 1, L ++ [((0, bs, v, m, A', ln, c') : ActV)], cvo', eN, by omega, by go_num, HE5.out, HOK.out.1, HOK.out.2.1, HX.out.2.2.1.snoc HAC.out, by have h1 := HOK.out.2.2.2; have h2 := HX.out.2.2.2.1; omega, by have h1 := HX.out.2.2.2.2; simp; omega⟩
          case measure => simp [intOf]; omega
        · have HCL := Lib.hid (hc wb cg cgc cvo HE6.out.enc)
          clear hc
          go_wp2_with fail
          refine HCL.out.mono ?_
          rintro x w3 ⟨rfl, t⟩
          obtain ⟨cvo', hE3⟩ := HE6.out.toC t
          have HE3 := Lib.hid hE3
          clear t hE3 HCL e0 e1 e2 e3 e4 HE6 HGA
          go_wp2_with fail
          go_roundw
          case rel => exact ⟨i + 1, L, cvo', e, by omega, by go_num, HE3.out, HX.out.1, HX.out.2.1, HX.out.2.2.1, by have h2 := HX.out.2.2.2.1; omega, by have h1 := HX.out.2.2.2.2; omega⟩
          case measure => simp [intOf]; omega
      by_cases hk1 : kd = 1
      · subst hk1
        rcases (eact_direct bs v m n e HX.out.1.ok HX.out.2.1 HN.out HBND.out) with ⟨eN, hacc, hc⟩ | hc
        · have HAC := Lib.hid hacc
          have HCL := Lib.hid (hc wb cg cgc cvo HE6.out.enc)
          clear hacc hc
          go_wp2_with fail
          refine HCL.out.mono ?_
          rintro x w3 ⟨rfl, t⟩
          have hga3 := block_keep HGA.out (EncTo2.rel2 HE6.out.enc HGA.out t) (fun h => h rfl)
          obtain ⟨cvo', hE3⟩ := HE6.out.toC t
          have HE3 := Lib.hid hE3
          have HGA3 := Lib.hid hga3
          clear t hga3 hE3 HCL e0 e1 e2 e3 e4 HE6 HGA
          have e0 := blk_cell HGA3.out 0
          have e1 := blk_cell HGA3.out 1
          have e2 := blk_cell HGA3.out 2
          have e3 := blk_cell HGA3.out 3
          have e4 := blk_cell HGA3.out 4
          simp at e0 e1 e2 e3 e4
          have HS5 := Lib.hid (src_new (w := w3) [.int .i64 1, .int .i64 bs, .int .i64 v, .int .i64 m, .slice A' ln c'] 43 rfl (by intro u hu; simp at hu; rcases hu with rfl | rfl | rfl | rfl | rfl <;> rfl))
          have HE4 := Lib.hid (HE3.out.grown ((Keeps.refl (fun _ => False) w3).alloc (.cells #[.int .i64 1, .int .i64 bs, .int .i64 v, .int .i64 m, .slice A' ln c'] 43)))
          have HRW := HE4.out.row
          rw [← HLL.out] at HRW
          have HRWH := Lib.hid HRW
          clear HRW HE3 HGA3
          go_wp2_with (at_builtin; refine wpList_appS rfl (.tmp 82) (.tmp 84) 32 43 rfl Try.underlying32 Try.infoAct rfl (by decide) W.heap.size _ LL _ rfl HRWH.out HE4.out.grow.size (some ⟨w3.heap.size, 0, none⟩) 1 1 _ rfl HS5.out (by have h1 := HX.out.2.2.2.2; have h2 := HLL.out; have h3 := HL5.out; unfold maxLen; omega) (by have h1 := HX.out.2.2.2.2; have h2 := HLL.out; have h3 := HL5.out; omega) ?_)
          intro A8 c8 w5 ho5 hk5 _
          have HO5 : Hid (w5.ownsRow W.heap.size 43 5 (.slice A8 (LL + 1) c8) (L ++ [((1, bs, v, m, A', ln, c') : ActV)]).length (cellsOf (L ++ [((1, bs, v, m, A', ln, c') : ActV)]))) := by
            show World.ownsRow _ _ _ _ _ _ _
            rw [cellsOf_snoc, List.length_append, ← HLL.out]
            exact ho5
          have HE5 := Lib.hid (HE4.out.app hk5 HO5.out)
          have HOK := Lib.hid (HAC.out.okc HX.out.1 HX.out.2.1)
          clear ho5 hk5 e0 e1 e2 e3 e4 HE4 HS5 HRWH
          go_wp2_with fail
          go_roundw
          case rel => exact ⟨i + 1, L ++ [((1, bs, v, m, A', ln, c') : ActV)], cvo', eN, by omega, by go_num, HE5.out, HOK.out.1, HOK.out.2.1, HX.out.2.2.1.snoc HAC.out, by have h1 := HOK.out.2.2.2; have h2 := HX.out.2.2.2.1; omega, by have h1 := HX.out.2.2.2.2; simp; omega⟩
          case measure => simp [intOf]; omega
        · have HCL := Lib.hid (hc wb cg cgc cvo HE6.out.enc)
          clear hc
          go_wp2_with fail
          refine HCL.out.mono ?_
          rintro x w3 ⟨rfl, t⟩
          obtain ⟨cvo', hE3⟩ := HE6.out.toC t
          have HE3 := Lib.hid hE3
          clear t hE3 HCL e0 e1 e2 e3 e4 HE6 HGA
          go_wp2_with fail
          go_roundw
          case rel => exact ⟨i + 1, L, cvo', e, by omega, by go_num, HE3.out, HX.out.1, HX.out.2.1, HX.out.2.2.1, by have h2 := HX.out.2.2.2.1; omega, by have h1 := HX.out.2.2.2.2; omega⟩
          case measure => simp [intOf]; omega
      by_cases hk2 : kd = 2
      · subst hk2
        rcases (eact_tree bs v m n e HX.out.1.ok HX.out.2.1 HN.out HBND.out HI1.out HI3.out) with ⟨eN, hacc, hc⟩ | hc
        · have HAC := Lib.hid hacc
          have HCL := Lib.hid (hc wb cg cgc cvo HE6.out.enc)
          clear hacc hc
          go_wp2_with fail
          refine HCL.out.mono ?_
          rintro x w3 ⟨rfl, t⟩
          have hga3 := block_keep HGA.out (EncTo2.rel2 HE6.out.enc HGA.out t) (fun h => h rfl)
          obtain ⟨cvo', hE3⟩ := HE6.out.toC t
          have HE3 := Lib.hid hE3
          have HGA3 := Lib.hid hga3
          clear t hga3 hE3 HCL e0 e1 e2 e3 e4 HE6 HGA
          have e0 := blk_cell HGA3.out 0
          have e1 := blk_cell HGA3.out 1
          have e2 := blk_cell HGA3.out 2
          have e3 := blk_cell HGA3.out 3
          have e4 := blk_cell HGA3.out 4
          simp at e0 e1 e2 e3 e4
          have HS5 := Lib.hid (src_new (w := w3) [.int .i64 2, .int .i64 bs, .int .i64 v, .int .i64 m, .slice A' ln c'] 43 rfl (by intro u hu; simp at hu; rcases hu with rfl | rfl | rfl | rfl | rfl <;> rfl))
          have HE4 := Lib.hid (HE3.out.grown ((Keeps.refl (fun _ => False) w3).alloc (.cells #[.int .i64 2, .int .i64 bs, .int .i64 v, .int .i64 m, .slice A' ln c'] 43)))
          have HRW := HE4.out.row
          rw [← HLL.out] at HRW
          have HRWH := Lib.hid HRW
          clear HRW HE3 HGA3
          go_wp2_with (at_builtin; refine wpList_appS rfl (.tmp 82) (.tmp 84) 32 43 rfl Try.underlying32 Try.infoAct rfl (by decide) W.heap.size _ LL _ rfl HRWH.out HE4.out.grow.size (some ⟨w3.heap.size, 0, none⟩) 1 1 _ rfl HS5.out (by have h1 := HX.out.2.2.2.2; have h2 := HLL.out; have h3 := HL5.out; unfold maxLen; omega) (by have h1 := HX.out.2.2.2.2; have h2 := HLL.out; have h3 := HL5.out; omega) ?_)
          intro A8 c8 w5 ho5 hk5 _
          have HO5 : Hid (w5.ownsRow W.heap.size 43 5 (.slice A8 (LL + 1) c8) (L ++ [((2, bs, v, m, A', ln, c') : ActV)]).length (cellsOf (L ++ [((2, bs, v, m, A', ln, c') : ActV)]))) := by
            show World.ownsRow _ _ _ _ _ _ _
            rw [cellsOf_snoc, List.length_append, ← HLL.out]
            exact ho5
          have HE5 := Lib.hid (HE4.out.app hk5 HO5.out)
          have HOK := Lib.hid (HAC.out.okc HX.out.1 HX.out.2.1)
          clear ho5 hk5 e0 e1 e2 e3 e4 HE4 HS5 HRWH
          go_wp2_with fail
          go_roundw
          case rel => exact ⟨i + 1, L ++ [((2, bs, v, m, A', ln, c') : ActV)], cvo', eN, by omega, by go_num, HE5.out, HOK.out.1, HOK.out.2.1, HX.out.2.2.1.snoc HAC.out, by have h1 := HOK.out.2.2.2; have h2 := HX.out.2.2.2.1; omega, by have h1 := HX.out.2.2.2.2; simp; omega⟩
          case measure => simp [intOf]; omega
        · have HCL := Lib.hid (hc wb cg cgc cvo HE6.out.enc)
          clear hc
          go_wp2_with fail
          refine HCL.out.mono ?_
          rintro x w3 ⟨rfl, t⟩
          obtain ⟨cvo', hE3⟩ := HE6.out.toC t
          have HE3 := Lib.hid hE3
          clear t hE3 HCL e0 e1 e2 e3 e4 HE6 HGA
          go_wp2_with fail
          go_roundw
          case rel => exact ⟨i + 1, L, cvo', e, by omega, by go_num, HE3.out, HX.out.1, HX.out.2.1, HX.out.2.2.1, by have h2 := HX.out.2.2.2.1; omega, by have h1 := HX.out.2.2.2.2; omega⟩
          case measure => simp [intOf]; omega
      by_cases hk3 : kd = 3
      · subst hk3
        rcases (eact_rev bs v m n e HX.out.1.ok HX.out.2.1 HN.out HBND.out HI1.out HI3.out) with ⟨eN, hacc, hc⟩ | hc
        · have HAC := Lib.hid hacc
          have HCL := Lib.hid (hc wb cg cgc cvo HE6.out.enc)
          clear hacc hc
          go_wp2_with fail
          refine HCL.out.mono ?_
          rintro x w3 ⟨rfl, t⟩
          have hga3 := block_keep HGA.out (EncTo2.rel2 HE6.out.enc HGA.out t) (fun h => h rfl)
          obtain ⟨cvo', hE3⟩ := HE6.out.toC t
          have HE3 := Lib.hid hE3
          have HGA3 := Lib.hid hga3
          clear t hga3 hE3 HCL e0 e1 e2 e3 e4 HE6 HGA
          have e0 := blk_cell HGA3.out 0
          have e1 := blk_cell HGA3.out 1
          have e2 := blk_cell HGA3.out 2
          have e3 := blk_cell HGA3.out 3
          have e4 := blk_cell HGA3.out 4
          simp at e0 e1 e2 e3 e4
          have HS5 := Lib.hid (src_new (w := w3) [.int .i64 3, .int .i64 bs, .int .i64 v, .int .i64 m, .slice A' ln c'] 43 rfl (by intro u hu; simp at hu; rcases hu with rfl | rfl | rfl | rfl | rfl <;> rfl))
          have HE4 := Lib.hid (HE3.out.grown ((Keeps.refl (fun _ => False) w3).alloc (.cells #[.int .i64 3, .int .i64 bs, .int .i64 v, .int .i64 m, .slice A' ln c'] 43)))
          have HRW := HE4.out.row
          rw [← HLL.out] at HRW
          have HRWH := Lib.hid HRW
          clear HRW HE3 HGA3
          go_wp2_with (at_builtin; refine wpList_appS rfl (.tmp 82) (.tmp 84) 32 43 rfl Try.underlying32 Try.infoAct rfl (by decide) W.heap.size _ LL _ rfl HRWH.out HE4.out.grow.size (some ⟨w3.heap.size, 0, none⟩) 1 1 _ rfl HS5.out (by have h1 := HX.out.2.2.2.2; have h2 := HLL.out; have h3 := HL5.out; unfold maxLen; omega) (by have h1 := HX.out.2.2.2.2; have h2 := HLL.out; have h3 := HL5.out; omega) ?_)
          intro A8 c8 w5 ho5 hk5 _
          have HO5 : Hid (w5.ownsRow W.heap.size 43 5 (.slice A8 (LL + 1) c8) (L ++ [((3, bs, v, m, A', ln, c') : ActV)]).length (cellsOf (L ++ [((3, bs, v, m, A', ln, c') : ActV)]))) := by
            show World.ownsRow _ _ _ _ _ _ _
            rw [cellsOf_snoc, List.length_append, ← HLL.out]
            exact ho5
          have HE5 := Lib.hid (HE4.out.app hk5 HO5.out)
          have HOK := Lib.hid (HAC.out.okc HX.out.1 HX.out.2.1)
          clear ho5 hk5 e0 e1 e2 e3 e4 HE4 HS5 HRWH
          go_wp2_with fail
          go_roundw
          case rel => exact ⟨i + 1, L ++ [((3, bs, v, m, A', ln, c') : ActV)], cvo', eN, by omega, by go_num, HE5.out, HOK.out.1, HOK.out.2.1, HX.out.2.2.1.snoc HAC.out, by have h1 := HOK.out.2.2.2; have h2 := HX.out.2.2.2.1; omega, by have h1 := HX.out.2.2.2.2; simp; omega⟩
          case measure => simp [intOf]; omega
        · have HCL := Lib.hid (hc wb cg cgc cvo HE6.out.enc)
          clear hc
          go_wp2_with fail
          refine HCL.out.mono ?_
          rintro x w3 ⟨rfl, t⟩
          obtain ⟨cvo', hE3⟩ := HE6.out.toC t
          have HE3 := Lib.hid hE3
          clear t hE3 HCL e0 e1 e2 e3 e4 HE6 HGA
          go_wp2_with fail
          go_roundw
          case rel => exact ⟨i + 1, L, cvo', e, by omega, by go_num, HE3.out, HX.out.1, HX.out.2.1, HX.out.2.2.1, by have h2 := HX.out.2.2.2.1; omega, by have h1 := HX.out.2.2.2.2; omega⟩
          case measure => simp [intOf]; omega
      go_wp2_with fail
      go_roundw
      case rel => exact ⟨i + 1, L, cvo, e, by omega, by go_num, HE6.out, HX.out.1, HX.out.2.1, HX.out.2.2.1, by have h2 := HX.out.2.2.2.1; omega, by have h1 := HX.out.2.2.2.2; omega⟩
      case measure => simp [intOf]; omega
    · obtain rfl : i = x1.length := by omega
      clear hil hi HC
      have HBND : Hid (e.out.length + e.waiting ≤ 99999999999900) := by have h1 := HX.out.2.2.2.1; have h2 := HL5.out; show _ ≤ _; omega
      have HBY := Lib.hid (bytes_is wr cg cgc n cvo e HE.out.enc HX.out.1.ok HBND.out)
      obtain ⟨R1, R2, R3⟩ := HX.out.2.2.1.nest (new_okc n) (by simp [Enc.new])
      obtain ⟨B0, B5, BR⟩ := rel_new HX.out.1 R1
      have HR0 := Lib.hid BR
      have HFB := Lib.hid (fin_bytes e HX.out.1)
      have HBL : Hid (e.bytes.length ≤ 140737488355328) := by
        have h1 := HFB.out.len
        have h2 := HBND.out
        have h3 : e.P = e.out.length + e.waiting + 4 := rfl
        show _ ≤ _
        omega
      have HB05 := Lib.hid (And.intro B0 B5)
      obtain ⟨bl, hbl⟩ : ∃ bl, bl = e.bytes.length := ⟨_, rfl⟩
      have HBLE := Lib.hid hbl
      rw [← hbl] at HBY
      clear R1 R2 R3 B0 B5 BR hbl HBND
      go_wp2_with fail
      refine HBY.out.mono ?_
      rintro x w4 ⟨Ab, cb, rfl, ho4, hg4⟩
      have HE4 := Lib.hid (HE.out.grown hg4)
      have HN4 : Hid (Nums .u8 w4 Ab bl cb (toI e.bytes)) := Nums.of_own (by rw [← u8s_toI]; exact ho4) (fun x hx => by
        obtain ⟨y, hy, rfl⟩ := List.mem_map.1 hx
        have := HFB.out.lt y hy
        exact mk_u8 (by omega) (by omega))
      have HD := Lib.hid (dNew_is w4 Ab bl cb (toI e.bytes) HN4.out n HN.out (by rw [HBLE.out]; exact HB05.out.2) (by rw [HBLE.out]; exact HBL.out) (by have := HB05.out.1; simp [toI, List.getD_eq_getElem?_getD] at this ⊢; cases hq : e.bytes[0]? with | none => simp | some y => rw [hq] at this; simp at this ⊢; omega))
      have HOKD := Lib.hid (new_dec_ok (toI e.bytes) HN4.out.byte n)
      clear ho4 hg4 HBY HE HN4
      go_wp2_with fail
      refine HD.out.mono ?_
      rintro x w5 ⟨dg, dgc, RB, Ar, cr, rfl, hdg, hdgc, hRB, hDec, hg5⟩
      have HD5 := Lib.hid hDec
      have HE5 := Lib.hid (HE4.out.grown hg5)
      have HRB := Lib.hid (fun k hk => (hRB k hk).2)
      have HNE : Hid ((cg ≠ dg ∧ cg ≠ dgc) ∧ (cgc ≠ dg ∧ cgc ≠ dgc) ∧ (∀ k, cvo.ownBlock = some k → k ≠ dg ∧ k ≠ dgc) ∧ ∀ k, (Value.slice Ad LL cd).ownBlock = some k → k ≠ dg ∧ k ≠ dgc) := by
        obtain ⟨cs, h8⟩ := HE4.out.enc.chs_blk
        have l1 := blk_lt HE4.out.enc.blk
        have l2 := blk_lt h8
        refine ⟨⟨by omega, by omega⟩, ⟨by omega, by omega⟩, fun k hk => ?_, fun k hk => ?_⟩
        · have := (HE4.out.enc.out.lt k hk).2
          exact ⟨by omega, by omega⟩
        · have := (HE4.out.row.lt k hk).2
          exact ⟨by omega, by omega⟩
      have HDW : Hid (W.heap.size ≤ dg ∧ W.heap.size ≤ dgc) := by have := HE4.out.grow.size; exact ⟨by omega, by omega⟩
      clear hdg hdgc hRB hDec hg5 HD HE4
      go_wp2_with fail
      have hLLb : (LL : Int) ≤ x1.length := by have h1 := HX.out.2.2.2.2; have h2 := HLL.out; omega
      go_loopw [12] (fun vi wr => ∃ (i : Nat) (d : Dec) (ei : Enc), i ≤ LL ∧ vi = .int .i64 i ∧ Hid (∃ A c, DecAt wr dg dgc n RB A c d) ∧ Hid (Keeps (fun k => k = dg ∨ k = dgc) w5 wr) ∧ Hid (Rel e.bytes d ei ∧ ei.Okc ∧ ei.ch.length = n ∧ d.Ok ∧ d.ch.length = n ∧ Run n ei (L.drop i) e)) (fun vi _ => LL - (intOf vi).toNat)
      case atStart => exact ⟨0, _, Enc.new n, by omega, rfl, ⟨Ar, cr, HD5.out⟩, Keeps.refl _ _, HR0.out, new_okc n, by simp [Enc.new], HOKD.out, by simp, HX.out.2.2.1⟩
      case round =>
        clear HD5 HOKD HR0
        obtain ⟨i, d, ei, hi, rfl, HD, HK, HY⟩ := hrel
        by_cases hil : i < LL
        · have hilI : (i : Int) < (LL : Int) := by omega
          have hget : ∃ a, L[i]? = some a := ⟨L[i]'(by rw [← HLL.out]; exact hil), List.getElem?_eq_getElem _⟩
          obtain ⟨a, hget⟩ := hget
          have hdr : L.drop i = a :: L.drop (i + 1) := by
            have hlt : i < L.length := by rw [← HLL.out]; exact hil
            rw [List.drop_eq_getElem_cons hlt]
            rw [List.getElem?_eq_getElem hlt] at hget
            injection hget with hget
            rw [hget]
          have hrun := HY.out.2.2.2.2.2
          rw [hdr] at hrun
          obtain ⟨e1N, hacc, hrun2⟩ := hrun
          have HRN := Lib.hid hrun2
          have HACC := Lib.hid hacc
          have HAO := Lib.hid (hacc.okc HY.out.2.1 HY.out.2.2.1)
          have HNS := Lib.hid (hrun2.nest HAO.out.1 HAO.out.2.1).1
          have hrow := HE5.out.row
          rw [← HLL.out] at hrow
          have hrow2 := owns_keep hrow HK.out (fun k hk => by have h := HNE.out.2.2.2 k hk; rintro (h9 | h9); exact h.1 h9; exact h.2 h9)
          obtain ⟨bg, rfl, hcell⟩ : ∃ bg, Ad = some ⟨bg, 0, none⟩ ∧ ∀ j, j < 5 → wr.cell? ⟨bg, i * 5 + j, none⟩ = (cells1 a)[j]? := by
            rcases hrow2.2 with ⟨hv, h0⟩ | ⟨g, cap, cur, hv, _⟩
            · omega
            · injection hv with hv
              subst hv
              refine ⟨g, rfl, fun j hj => ?_⟩
              rw [hrow2.cellAt (i * 5 + j) (by omega)]
              exact cells_at L i a hget j hj
          have d0 := hcell 0 (by omega)
          have d1 := hcell 1 (by omega)
          have d2 := hcell 2 (by omega)
          have d3 := hcell 3 (by omega)
          have d4 := hcell 4 (by omega)
          obtain ⟨kd, bs, v, m, A', ln, c'⟩ := a
          simp [cells1] at d0 d1 d2 d3 d4
          have HKN := hacc.kinds
          simp only at HKN
          clear hrun2 hacc hrow hrow2 hcell hdr hget
          go_upto_region 29 with fail
          have hga := heap_alloc_new wr (.cells #[.int .i64 kd, .int .i64 bs, .int .i64 v, .int .i64 m, .slice A' ln c'] 43)
          have HK6 : Hid (Keeps (fun k => k = dg ∨ k = dgc) w5 (wr.alloc (.cells #[.int .i64 kd, .int .i64 bs, .int .i64 v, .int .i64 m, .slice A' ln c'] 43))) := HK.out.alloc _
          have HD6 : Hid (∃ A c, DecAt (wr.alloc (.cells #[.int .i64 kd, .int .i64 bs, .int .i64 v, .int .i64 m, .slice A' ln c'] 43)) dg dgc n RB A c d) := by
            obtain ⟨A9, c9, h9⟩ := HD.out
            exact ⟨A9, c9, h9.keep ((Keeps.refl (fun _ => False) wr).alloc (.cells #[.int .i64 kd, .int .i64 bs, .int .i64 v, .int .i64 m, .slice A' ln c'] 43)) (fun h => h) (fun h => h) (fun _ _ h => h)⟩
          have HGA := Lib.hid hga
          clear d0 d1 d2 d3 d4 hga HD HK
          generalize wr.alloc (.cells #[.int .i64 kd, .int .i64 bs, .int .i64 v, .int .i64 m, .slice A' ln c'] 43) = wb at *
          have e0 := blk_cell HGA.out 0
          have e1 := blk_cell HGA.out 1
          have e2 := blk_cell HGA.out 2
          have e3 := blk_cell HGA.out 3
          have e4 := blk_cell HGA.out 4
          simp at e0 e1 e2 e3 e4
          obtain ⟨ga, hgae⟩ : ∃ ga, ga = wr.heap.size := ⟨_, rfl⟩
          rw [← hgae] at e0 e1 e2 e3 e4 HGA ⊢
          clear hgae
          rcases HKN with hk0 | hk1 | hk2 | hk3
          · subst hk0
            have HACT := Lib.hid (dact_bit HFB.out HACC.out HY.out.1 HY.out.2.1 HY.out.2.2.1 HY.out.2.2.2.1 HN.out HNS.out)
            obtain ⟨dN, rN, okN, lenN, hc⟩ := HACT.out
            have HCC := Lib.hid hc
            have HX2 := Lib.hid (And.intro rN (And.intro okN lenN))
            clear hc rN okN lenN HACT
            obtain ⟨A9, c9, hdec⟩ := HD6.out
            have HCL := Lib.hid (HCC.out wb dg dgc RB A9 c9 hdec (fun k hk => Nat.lt_of_lt_of_le (HRB.out k hk) HK6.out.size))
            have HDEC := Lib.hid hdec
            clear hdec
            go_wp2_with fail
            refine HCL.out.mono ?_
            rintro x w3 ⟨rfl, t⟩
            have hga3 := block_keep HGA.out (t.rel HDEC.out HGA.out) (fun h => h rfl)
            obtain ⟨A8, c8, hd8, hk8⟩ := t
            have HD8 : Hid (∃ A c, DecAt w3 dg dgc n RB A c dN) := ⟨A8, c8, hd8⟩
            have HK8 : Hid (Keeps (fun k => k = dg ∨ k = dgc) w5 w3) := Keeps.trans HK6.out hk8 fun _ _ h => h
            have HGA3 := Lib.hid hga3
            clear hga3 hd8 hk8 HCL HDEC HCC e0 e1 e2 e3 e4 HD6 HK6 HGA
            have e2 := blk_cell HGA3.out 2
            simp at e2
            go_wp2_with fail
            go_roundw
            case rel => exact ⟨i + 1, dN, e1N, by omega, by go_num, HD8.out, HK8.out, HX2.out.1, HAO.out.1, HAO.out.2.1, HX2.out.2.1, HX2.out.2.2, HRN.out⟩
            case measure => simp [intOf]; omega
          · subst hk1
            have HACT := Lib.hid (dact_direct HFB.out HACC.out HY.out.1 HY.out.2.1 HY.out.2.2.1 HY.out.2.2.2.1 HN.out HNS.out)
            obtain ⟨dN, rN, okN, lenN, hc⟩ := HACT.out
            have HCC := Lib.hid hc
            have HX2 := Lib.hid (And.intro rN (And.intro okN lenN))
            clear hc rN okN lenN HACT
            obtain ⟨A9, c9, hdec⟩ := HD6.out
            have HCL := Lib.hid (HCC.out wb dg dgc RB A9 c9 hdec (fun k hk => Nat.lt_of_lt_of_le (HRB.out k hk) HK6.out.size))
            have HDEC := Lib.hid hdec
            clear hdec
            go_wp2_with fail
            refine HCL.out.mono ?_
            rintro x w3 ⟨rfl, t⟩
            have hga3 := block_keep HGA.out (t.rel HDEC.out HGA.out) (fun h => h rfl)
            obtain ⟨A8, c8, hd8, hk8⟩ := t
            have HD8 : Hid (∃ A c, DecAt w3 dg dgc n RB A c dN) := ⟨A8, c8, hd8⟩
            have HK8 : Hid (Keeps (fun k => k = dg ∨ k = dgc) w5 w3) := Keeps.trans HK6.out hk8 fun _ _ h => h
            have HGA3 := Lib.hid hga3
            clear hga3 hd8 hk8 HCL HDEC HCC e0 e1 e2 e3 e4 HD6 HK6 HGA
            have e2 := blk_cell HGA3.out 2
            simp at e2
            go_wp2_with fail
            go_roundw
            case rel => exact ⟨i + 1, dN, e1N, by omega, by go_num, HD8.out, HK8.out, HX2.out.1, HAO.out.1, HAO.out.2.1, HX2.out.2.1, HX2.out.2.2, HRN.out⟩
            case measure => simp [intOf]; omega
          · subst hk2
            have HACT := Lib.hid (dact_high HFB.out HACC.out HY.out.1 HY.out.2.1 HY.out.2.2.1 HY.out.2.2.2.1 HN.out HNS.out)
            obtain ⟨dN, rN, okN, lenN, hc⟩ := HACT.out
            have HCC := Lib.hid hc
            have HX2 := Lib.hid (And.intro rN (And.intro okN lenN))
            clear hc rN okN lenN HACT
            obtain ⟨A9, c9, hdec⟩ := HD6.out
            have HCL := Lib.hid (HCC.out wb dg dgc RB A9 c9 hdec (fun k hk => Nat.lt_of_lt_of_le (HRB.out k hk) HK6.out.size))
            have HDEC := Lib.hid hdec
            clear hdec
            go_wp2_with fail
            refine HCL.out.mono ?_
            rintro x w3 ⟨rfl, t⟩
            have hga3 := block_keep HGA.out (t.rel HDEC.out HGA.out) (fun h => h rfl)
            obtain ⟨A8, c8, hd8, hk8⟩ := t
            have HD8 : Hid (∃ A c, DecAt w3 dg dgc n RB A c dN) := ⟨A8, c8, hd8⟩
            have HK8 : Hid (Keeps (fun k => k = dg ∨ k = dgc) w5 w3) := Keeps.trans HK6.out hk8 fun _ _ h => h
            have HGA3 := Lib.hid hga3
            clear hga3 hd8 hk8 HCL HDEC HCC e0 e1 e2 e3 e4 HD6 HK6 HGA
            have e2 := blk_cell HGA3.out 2
            simp at e2
            go_wp2_with fail
            go_roundw
            case rel => exact ⟨i + 1, dN, e1N, by omega, by go_num, HD8.out, HK8.out, HX2.out.1, HAO.out.1, HAO.out.2.1, HX2.out.2.1, HX2.out.2.2, HRN.out⟩
            case measure => simp [intOf]; omega
          · subst hk3
            have HACT := Lib.hid (dact_low HFB.out HACC.out HY.out.1 HY.out.2.1 HY.out.2.2.1 HY.out.2.2.2.1 HN.out HNS.out)
            obtain ⟨dN, rN, okN, lenN, hc⟩ := HACT.out
            have HCC := Lib.hid hc
            have HX2 := Lib.hid (And.intro rN (And.intro okN lenN))
            clear hc rN okN lenN HACT
            obtain ⟨A9, c9, hdec⟩ := HD6.out
            have HCL := Lib.hid (HCC.out wb dg dgc RB A9 c9 hdec (fun k hk => Nat.lt_of_lt_of_le (HRB.out k hk) HK6.out.size))
            have HDEC := Lib.hid hdec
            clear hdec
            go_wp2_with fail
            refine HCL.out.mono ?_
            rintro x w3 ⟨rfl, t⟩
            have hga3 := block_keep HGA.out (t.rel HDEC.out HGA.out) (fun h => h rfl)
            obtain ⟨A8, c8, hd8, hk8⟩ := t
            have HD8 : Hid (∃ A c, DecAt w3 dg dgc n RB A c dN) := ⟨A8, c8, hd8⟩
            have HK8 : Hid (Keeps (fun k => k = dg ∨ k = dgc) w5 w3) := Keeps.trans HK6.out hk8 fun _ _ h => h
            have HGA3 := Lib.hid hga3
            clear hga3 hd8 hk8 HCL HDEC HCC e0 e1 e2 e3 e4 HD6 HK6 HGA
            have e2 := blk_cell HGA3.out 2
            simp at e2
            go_wp2_with fail
            go_roundw
            case rel => exact ⟨i + 1, dN, e1N, by omega, by go_num, HD8.out, HK8.out, HX2.out.1, HAO.out.1, HAO.out.2.1, HX2.out.2.1, HX2.out.2.2, HRN.out⟩
            case measure => simp [intOf]; omega
        · obtain rfl : LL = i := by omega
          have hd0 : L.drop LL = [] := by rw [HLL.out]; exact List.drop_length
          have hee : ei = e := by
            have h1 := HY.out.2.2.2.2.2
            rw [hd0] at h1
            exact h1
          subst hee
          have HDN := Lib.hid (rel_end HFB.out HY.out.1)
          have HEC : Hid (EncAt wr cg cgc n cvo ei) := HE5.out.enc.keep HK.out (by have h := HNE.out.1; rintro (h9 | h9); exact h.1 h9; exact h.2 h9) (by have h := HNE.out.2.1; rintro (h9 | h9); exact h.1 h9; exact h.2 h9) (by intro k hk; have h := HNE.out.2.2.1 k hk; rintro (h9 | h9); exact h.1 h9; exact h.2 h9)
          have HGW : Hid (Grow W wr) := Keeps.trans HE5.out.grow HK.out fun k hk h9 => by have h := HDW.out; rcases h9 with h9 | h9 <;> omega
          obtain ⟨A9, c9, hdec⟩ := HD.out
          have HDEC := Lib.hid hdec
          have HDO := Lib.hid (dDone_is wr dg dgc n RB A9 c9 d hdec)
          rw [HDN.out] at HDO
          clear hdec hd0
          go_wp2_with fail
          refine HDO.out.mono ?_
          rintro x w6 ⟨rfl, rfl⟩
          have HCA := Lib.hid (chances_is wr cg cgc n cvo ei HEC.out HX.out.1.ok.ch (by rw [HX.out.2.1]; exact HN.out))
          rw [HX.out.2.1] at HCA
          go_wp2_with fail
          refine HCA.out.mono ?_
          rintro x w7 ⟨A7, c7, rfl, ho7, hg7⟩
          have HO7 := Lib.hid ho7
          have HG7 : Hid (Grow W w7) := Grow.trans _ _ _ HGW.out hg7
          have hdec7 := HDEC.out.keep hg7 (fun h => h) (fun h => h) (fun _ _ h => h)
          have HDA := Lib.hid (dChances_is w7 dg dgc n RB A9 c9 d hdec7 HY.out.2.2.2.1.ch (by rw [HY.out.2.2.2.2.1]; exact HN.out))
          rw [HY.out.2.2.2.2.1, HY.out.1.ch] at HDA
          have hz7 := hg7.size
          have HZ7 := Lib.hid hz7
          clear ho7 hg7 hdec7 hz7 HCA HDO
          go_wp2_with fail
          refine HDA.out.mono ?_
          rintro x w8 ⟨A8, c8, rfl, ho8, hg8⟩
          have HG8 : Hid (Grow W w8) := Grow.trans _ _ _ HG7.out hg8
          have HSA := Lib.hid (same13_is w8 _ _ A7 A8 n c7 c8 (toI ei.ch) (owns_keep HO7.out hg8 fun _ _ h => h) ho8 (fun b hb h9 => by
            have h1 := own_ge ho8 b hb
            have h2 := (HO7.out.lt b h9).2
            omega))
          have HO7W : Hid (∀ k, (Value.slice A7 n c7).ownBlock = some k → W.heap.size ≤ k) := fun k hk => Nat.le_trans HGW.out.size (own_ge HO7.out k hk)
          clear ho8 hg8 HDA HO7
          go_wp2_with fail
          refine HSA.out.mono ?_
          rintro x w9 ⟨rfl, hk9⟩
          have HG9 : Hid (Grow W w9) := Keeps.trans HG8.out hk9 fun k hk h9 => by have h := HO7W.out k h9; omega
          have hBelow := Lib.hid (HG9.out.below (fun _ _ h => h) (Nat.le_refl _))
          clear hk9 HSA
          go_wp2_with fail
          go_ret
          exact ⟨rfl, hBelow.out⟩
end Go.Proofs.Ytiikbpcaeoodjaa
