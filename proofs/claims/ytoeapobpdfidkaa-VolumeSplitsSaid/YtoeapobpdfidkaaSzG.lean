/- lzma2: the chunks' sizes, the document's. -/
import Derived.Test.YtoeapobpdfidkaaSzF
namespace Go.Proofs.Ytoeapobpdfidkaa
open Go.RowKit
set_option linter.unusedVariables false
set_option linter.unusedSimpArgs false

set_option maxRecDepth 8000 in
set_option maxHeartbeats 4000000 in
theorem rSizes_is (w : World) (n c : Nat) (A : Option Addr) (xs : List Int) (h : Nums .u8 w A n c xs) (hn : n ≤ 1048576) :
    Calls Try.prog 32 #[.slice A n c] w fun e w' => SzPost w (goP xs n (n + 1) 0 true false []) e w' := by
  obtain ⟨R, hR⟩ : ∃ R, R = goP xs n (n + 1) 0 true false [] := ⟨_, rfl⟩
  have HRR := Lib.hid hR
  rw [← hR]
  obtain ⟨POST, hPOST⟩ : ∃ POST : Ending → World → Prop, POST = fun e w' => SzPost w R e w' := ⟨_, rfl⟩
  have HPO := Lib.hid hPOST
  show Calls _ _ _ _ fun e w' => (fun e w' => SzPost w R e w') e w'
  rw [← hPOST]
  have HN0 := Lib.hid h
  have HNB := Lib.hid (fun j => (bytN_is h j).2)
  have HLE := Lib.hid hn
  have hni : (n : Int) ≤ 1048576 := by omega
  clear hR hPOST h hn
  go_enter Try.func32, Try.ntmps32
  go_wp2_with fail
  go_loopg [4, 5, 6, 7] (n + 1) (fun t vl va vp vf wr => ∃ (a : Nat) (f p : Bool) (l : List Nat), va = .int .i64 (a : Nat) ∧ vp = .bool p ∧ vf = .bool f ∧ Hid (wr.ownsRow w.heap.size 3 1 vl l.length (vals l)) ∧ Hid (Grow w wr) ∧ Hid (n - a < t ∧ l.length ≤ a ∧ a ≤ n ∧ goP xs n t a f p l = R ∧ ∀ x ∈ l, x ≤ 2097152))
  case atStart => exact ⟨0, true, false, [], rfl, rfl, rfl, own_nil _ _ _, Keeps.refl _ _, ⟨by omega, by decide, by omega, HRR.out.symm, by simp⟩⟩
  case round =>
    obtain ⟨a, f, p, l, rfl, rfl, rfl, HO, HG, HT⟩ := hrel
    obtain ⟨t, rfl⟩ : ∃ t, gk = t + 1 := by
      cases gk with
      | zero => have := HT.out.1; omega
      | succ t => exact ⟨t, rfl⟩
    obtain ⟨r, hr⟩ : ∃ r, r = chunkP xs n a f p := ⟨_, rfl⟩
    have HC := chunk_nx xs n a f p HLE.out HT.out.2.2.1 HNB.out
    rw [← hr] at HC
    have HX := Lib.hid HC
    have HE := Lib.hid hr
    have HNX := Lib.hid (rChunk_is wr n c a A xs f p (HN0.out.keep HG.out (fun _ _ _ h => h)) HT.out.2.2.1 HLE.out)
    rw [← hr] at HNX
    clear HC hr
    go_wp2_with fail
    refine HNX.out.mono ?_
    rintro x w2 ⟨k', N', nx', x1, y1, z1, Ab, nb, cb, rfl, hk2, hok⟩
    have HOK := Lib.hid hok
    have HK2 := Lib.hid hk2
    clear hok hk2 HNX
    obtain ⟨er, her⟩ : ∃ er, er = r.er := ⟨_, rfl⟩
    rw [← her]
    have HER := Lib.hid her
    clear her
    by_cases he : er = 0
    · have he0 : r.er = 0 := by rw [← HER.out]; exact he
      obtain ⟨rfl, rfl, rfl⟩ := HOK.out he0
      subst he
      have HNX := HX.out.2.2.2 he0
      have hkb := HX.out.2.1
      have hNb := HX.out.2.2.1
      obtain ⟨kk, hkk⟩ : ∃ kk, kk = r.k := ⟨_, rfl⟩
      obtain ⟨N, hNN⟩ : ∃ N, N = r.N := ⟨_, rfl⟩
      obtain ⟨nx, hnx⟩ : ∃ nx, nx = r.nx := ⟨_, rfl⟩
      rw [← hnx] at HNX ⊢
      rw [← hkk] at hkb ⊢
      rw [← hNN] at hNb ⊢
      have HKK := Lib.hid (And.intro hkk (And.intro hNN hnx))
      have HNXH := Lib.hid HNX
      have HNB2 := Lib.hid hNb
      have HE0 := Lib.hid he0
      clear hkk hNN hnx HNX he0 HOK hkb hNb
      have ho2 := owns_keep HO.out HK2.out (fun k hk h9 => h9)
      have HO2 := Lib.hid ho2
      have HG2 : Hid (Grow w w2) := Grow.trans _ _ _ HG.out HK2.out
      clear ho2 HO HG HK2
      go_upto_region 7 with fail
      have hgc := heap_alloc_new w2 (.cells #[.int .i64 (kk : Nat), .int .i64 (N : Nat), .int .i64 (x1 : Nat), .int .i64 (y1 : Nat), .int .i64 (z1 : Nat), .slice Ab nb cb] 92)
      have hk3 : Grow w2 (w2.alloc (.cells #[.int .i64 (kk : Nat), .int .i64 (N : Nat), .int .i64 (x1 : Nat), .int .i64 (y1 : Nat), .int .i64 (z1 : Nat), .slice Ab nb cb] 92)) := (Keeps.refl _ w2).alloc _
      generalize w2.alloc (.cells #[.int .i64 (kk : Nat), .int .i64 (N : Nat), .int .i64 (x1 : Nat), .int .i64 (y1 : Nat), .int .i64 (z1 : Nat), .slice Ab nb cb] 92) = w3 at *
      obtain ⟨gc, hgcE⟩ : ∃ gc, gc = w2.heap.size := ⟨_, rfl⟩
      rw [← hgcE] at hgc ⊢
      have HO3 := Lib.hid (owns_keep HO2.out hk3 (fun _ _ h9 => h9))
      have HG3 : Hid (Grow w w3) := Grow.trans _ _ _ HG2.out hk3
      have d0 := blk_cell hgc 0
      have d1 := blk_cell hgc 1
      simp at d0 d1
      clear hgcE hk3 HO2 HG2 hgc
      obtain ⟨A5, c5, rfl⟩ := rowf_ci HO3.out
      have h0 : ((0 : Int) == 0) = true := rfl
      have hkb : kk < 256 := by have := HX.out.2.1; have := HKK.out.1; omega
      by_cases hk0 : kk = 0
      · have q1 : decide ((kk : Int) = 0) = true := decide_eq_true (by omega)
        have q2 : ((kk : Int) == 0) = true := by simp; omega
        have hrk : r.k = 0 := by rw [← HKK.out.1]; exact hk0
        by_cases htl : nx < n
        · have q3 : decide ((nx : Int) < (n : Int)) = true := decide_eq_true (by omega)
          have q4 : decide (nx < n) = true := decide_eq_true htl
          have hr : R = ([], 15) := by rw [← HT.out.2.2.2.1, goP_tail HE.out HE0.out hrk (by rw [← HKK.out.2.2]; exact htl)]
          have HR := Lib.hid hr
          clear hr htl hk0 hrk hkb
          go_wp2_with fail
          try go_ret2
          show POST (.returned (.tuple #[.slice none 0 0, .int .i64 (15 : Nat)])) _
          rw [HPO.out, HR.out]
          exact ⟨none, 0, rfl, szNil _, HG3.out⟩
        · have q3 : decide ((nx : Int) < (n : Int)) = false := decide_eq_false (by omega)
          have q4 : decide (nx < n) = false := decide_eq_false htl
          have hr : R = (l, 0) := by rw [← HT.out.2.2.2.1, goP_end HE.out HE0.out hrk (by rw [← HKK.out.2.2]; exact htl)]
          have HR := Lib.hid hr
          clear hr htl hk0 hrk hkb
          go_wp2_with fail
          try go_ret2
          show POST (.returned (.tuple #[.slice A5 l.length c5, .int .i64 (0 : Nat)])) _
          rw [HPO.out, HR.out]
          exact ⟨A5, c5, rfl, sz_nums HO3.out HT.out.2.2.2.2, HG3.out⟩
      · have q1 : decide ((kk : Int) = 0) = false := decide_eq_false (by omega)
        have q2 : ((kk : Int) == 0) = false := by simp; omega
        have hlen : l.length ≤ 1048576 := by have := HT.out.2.1; have := HT.out.2.2.1; have := HLE.out; have := HNXH.out; omega
        have hrk : ¬ r.k = 0 := by rw [← HKK.out.1]; exact hk0
        have HRK := Lib.hid hrk
        have HLB := Lib.hid hlen
        have HK0 := Lib.hid hk0
        clear hk0 hrk hlen
        by_cases hk1 : kk = 1
        · have HK1 := Lib.hid hk1
          have q3 : decide ((kk : Int) = 1) = true := decide_eq_true (by omega)
          have q4 : ((kk : Int) == 1) = true := by simp; omega
          have q5 : decide ((192 : Int) ≤ (kk : Int)) = false := decide_eq_false (by omega)
          have q6 : decide (192 ≤ kk) = false := decide_eq_false (by omega)
          clear hk1 hkb
          go_wp2_with (at_builtin; refine wpList_app1 rfl (.tmp 33) (.tmp 36) 39 3 rfl Try.underlying39 Try.info_ci rfl w.heap.size _ l.length _ rfl HO3.out HG3.out.size rfl rfl (by have := HLB.out; unfold maxLen; omega) (by have := HLB.out; omega) ?_)
          intro g4 cap w4 ho4 hk4 _
          have HO4 : Hid (w4.ownsRow w.heap.size 3 1 (.slice (some ⟨g4, 0, none⟩) (l ++ [N]).length cap) (l ++ [N]).length (vals (l ++ [N]))) := by
            show World.ownsRow _ _ _ _ _ _ _
            rw [vals_snoc, List.length_append]
            exact ho4
          have HG4 : Hid (Grow w w4) := grow_own HG3.out HO3.out (Nat.le_refl _) hk4
          have hpp : propsP r p = false := by
            unfold propsP
            rw [if_neg HRK.out, ← HKK.out.1]
            rw [HK1.out]; simp
          have hff : firstP r f = false := if_neg HRK.out
          have HT4 : Hid (n - nx < t ∧ (l ++ [N]).length ≤ nx ∧ nx ≤ n ∧ goP xs n t nx false false (l ++ [N]) = R ∧ ∀ x ∈ l ++ [N], x ≤ 2097152) := by
            have h1 := HT.out
            have h2 := HNXH.out
            refine ⟨by omega, by rw [List.length_append, List.length_singleton]; omega, by omega, ?_, ?_⟩
            · rw [← h1.2.2.2.1, goP_more HE.out HE0.out HRK.out, ← HKK.out.2.1, ← HKK.out.2.2, hpp, hff]
            · intro x hx
              rcases List.mem_append.1 hx with hx | hx
              · exact h1.2.2.2.2 x hx
              · rw [List.mem_singleton.1 hx]; exact HNB2.out
          have hLE : (l ++ [N]).length = l.length + 1 := by simp
          rw [hLE] at HO4
          have HLE2 := Lib.hid hLE
          clear ho4 hk4 hLE hpp hff
          go_wp2_with fail
          go_roundg t
          case measure => omega
          case rel => exact ⟨nx, false, false, l ++ [N], rfl, rfl, rfl, by rw [HLE2.out]; exact HO4.out, HG4.out, HT4.out⟩
        · have q3 : decide ((kk : Int) = 1) = false := decide_eq_false (by omega)
          have q4 : ((kk : Int) == 1) = false := by simp; omega
          have HK1 := Lib.hid hk1
          clear hk1
          by_cases hk2 : 192 ≤ kk
          · have q5 : decide ((192 : Int) ≤ (kk : Int)) = true := decide_eq_true (by omega)
            have q6 : decide (192 ≤ kk) = true := decide_eq_true (by omega)
            have HK2 := Lib.hid hk2
            clear hk2 hkb
            go_wp2_with (at_builtin; refine wpList_app1 rfl (.tmp 33) (.tmp 36) 39 3 rfl Try.underlying39 Try.info_ci rfl w.heap.size _ l.length _ rfl HO3.out HG3.out.size rfl rfl (by have := HLB.out; unfold maxLen; omega) (by have := HLB.out; omega) ?_)
            intro g4 cap w4 ho4 hk4 _
            have HO4 : Hid (w4.ownsRow w.heap.size 3 1 (.slice (some ⟨g4, 0, none⟩) (l ++ [N]).length cap) (l ++ [N]).length (vals (l ++ [N]))) := by
              show World.ownsRow _ _ _ _ _ _ _
              rw [vals_snoc, List.length_append]
              exact ho4
            have HG4 : Hid (Grow w w4) := grow_own HG3.out HO3.out (Nat.le_refl _) hk4
            have hpp : propsP r p = true := by
              unfold propsP
              rw [if_neg HRK.out, ← HKK.out.1]
              rw [decide_eq_true HK2.out]; rfl
            have hff : firstP r f = false := if_neg HRK.out
            have HT4 : Hid (n - nx < t ∧ (l ++ [N]).length ≤ nx ∧ nx ≤ n ∧ goP xs n t nx false true (l ++ [N]) = R ∧ ∀ x ∈ l ++ [N], x ≤ 2097152) := by
              have h1 := HT.out
              have h2 := HNXH.out
              refine ⟨by omega, by rw [List.length_append, List.length_singleton]; omega, by omega, ?_, ?_⟩
              · rw [← h1.2.2.2.1, goP_more HE.out HE0.out HRK.out, ← HKK.out.2.1, ← HKK.out.2.2, hpp, hff]
              · intro x hx
                rcases List.mem_append.1 hx with hx | hx
                · exact h1.2.2.2.2 x hx
                · rw [List.mem_singleton.1 hx]; exact HNB2.out
            have hLE : (l ++ [N]).length = l.length + 1 := by simp
            rw [hLE] at HO4
            have HLE2 := Lib.hid hLE
            clear ho4 hk4 hLE hpp hff
            go_wp2_with fail
            go_roundg t
            case measure => omega
            case rel => exact ⟨nx, false, true, l ++ [N], rfl, rfl, rfl, by rw [HLE2.out]; exact HO4.out, HG4.out, HT4.out⟩
          · have q5 : decide ((192 : Int) ≤ (kk : Int)) = false := decide_eq_false (by omega)
            have q6 : decide (192 ≤ kk) = false := decide_eq_false (by omega)
            have HK2 := Lib.hid hk2
            clear hk2 hkb
            go_wp2_with (at_builtin; refine wpList_app1 rfl (.tmp 33) (.tmp 36) 39 3 rfl Try.underlying39 Try.info_ci rfl w.heap.size _ l.length _ rfl HO3.out HG3.out.size rfl rfl (by have := HLB.out; unfold maxLen; omega) (by have := HLB.out; omega) ?_)
            intro g4 cap w4 ho4 hk4 _
            have HO4 : Hid (w4.ownsRow w.heap.size 3 1 (.slice (some ⟨g4, 0, none⟩) (l ++ [N]).length cap) (l ++ [N]).length (vals (l ++ [N]))) := by
              show World.ownsRow _ _ _ _ _ _ _
              rw [vals_snoc, List.length_append]
              exact ho4
            have HG4 : Hid (Grow w w4) := grow_own HG3.out HO3.out (Nat.le_refl _) hk4
            have hpp : propsP r p = p := by
              unfold propsP
              rw [if_neg HRK.out, ← HKK.out.1]
              rw [decide_eq_false HK2.out, decide_eq_false HK1.out]; simp
            have hff : firstP r f = false := if_neg HRK.out
            have HT4 : Hid (n - nx < t ∧ (l ++ [N]).length ≤ nx ∧ nx ≤ n ∧ goP xs n t nx false p (l ++ [N]) = R ∧ ∀ x ∈ l ++ [N], x ≤ 2097152) := by
              have h1 := HT.out
              have h2 := HNXH.out
              refine ⟨by omega, by rw [List.length_append, List.length_singleton]; omega, by omega, ?_, ?_⟩
              · rw [← h1.2.2.2.1, goP_more HE.out HE0.out HRK.out, ← HKK.out.2.1, ← HKK.out.2.2, hpp, hff]
              · intro x hx
                rcases List.mem_append.1 hx with hx | hx
                · exact h1.2.2.2.2 x hx
                · rw [List.mem_singleton.1 hx]; exact HNB2.out
            have hLE : (l ++ [N]).length = l.length + 1 := by simp
            rw [hLE] at HO4
            have HLE2 := Lib.hid hLE
            clear ho4 hk4 hLE hpp hff
            go_wp2_with fail
            go_roundg t
            case measure => omega
            case rel => exact ⟨nx, false, p, l ++ [N], rfl, rfl, rfl, by rw [HLE2.out]; exact HO4.out, HG4.out, HT4.out⟩
    · have hr : R = ([], er) := by rw [← HT.out.2.2.2.1, goP_bad HE.out (by rw [← HER.out]; exact he), HER.out]
      have HR := Lib.hid hr
      have HG2 : Hid (Grow w w2) := Grow.trans _ _ _ HG.out HK2.out
      have heb : (er : Int) ≤ 11 := by have := HX.out.1; have := HER.out; omega
      have h0 : decide ((er : Int) = 0) = false := decide_eq_false (by omega)
      have h1 : ((er : Int) == 0) = false := by simp; omega
      clear hr he
      go_wp2_with fail
      try go_ret2
      show POST (.returned (.tuple #[.slice none 0 0, .int .i64 (er : Nat)])) _
      rw [HPO.out, HR.out]
      exact ⟨none, 0, rfl, szNil _, HG2.out.alloc _⟩
end Go.Proofs.Ytoeapobpdfidkaa
