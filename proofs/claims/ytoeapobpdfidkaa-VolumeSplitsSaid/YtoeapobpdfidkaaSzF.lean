/- lzma2: the chunks' sizes, the program's and the document's. -/
import Derived.Test.YtoeapobpdfidkaaSzE
import Derived.Test.YtoeapobpdfidkaaConI
import Derived.Deep.LoopGhost
namespace Go.Proofs.Ytoeapobpdfidkaa
open Go.RowKit
set_option linter.unusedVariables false
set_option linter.unusedSimpArgs false

/-- The chunks' sizes from a place on. -/
def goP (xs : List Int) (n : Nat) : Nat → Nat → Bool → Bool → List Nat → List Nat × Nat
  | 0, _, _, _, _ => ([], 0)
  | t + 1, a, f, p, l =>
    let r := chunkP xs n a f p
    if r.er ≠ 0 then ([], r.er)
    else if r.k = 0 then (if r.nx < n then ([], 15) else (l, 0))
    else goP xs n t r.nx (firstP r f) (propsP r p) (l ++ [r.N])
theorem chunk_nx (xs : List Int) (n a : Nat) (f p : Bool) (hn : n ≤ 1048576) (hat : a ≤ n) (hb : ∀ j, bytN xs j < 256) : (chunkP xs n a f p).er ≤ 11 ∧ (chunkP xs n a f p).k < 256 ∧ (chunkP xs n a f p).N ≤ 2097152 ∧ ((chunkP xs n a f p).er = 0 → a < (chunkP xs n a f p).nx ∧ (chunkP xs n a f p).nx ≤ n) := by
  have h0 := hb a
  have h1 : n2 xs (a + 1) ≤ 65536 := by have := hb (a + 1); have := hb (a + 1 + 1); unfold n2; omega
  have h3 : bytN xs a % 32 ≤ 31 := by omega
  unfold chunkP
  repeat' split
  all_goals simp only
  all_goals omega
theorem goP_bad {xs : List Int} {n t a : Nat} {f p : Bool} {l : List Nat} {r : Chk} (hr : r = chunkP xs n a f p) (h : r.er ≠ 0) : goP xs n (t + 1) a f p l = ([], r.er) := by
  show (if (chunkP xs n a f p).er ≠ 0 then _ else _) = _
  rw [← hr, if_pos h]
theorem goP_tail {xs : List Int} {n t a : Nat} {f p : Bool} {l : List Nat} {r : Chk} (hr : r = chunkP xs n a f p) (h : r.er = 0) (hk : r.k = 0) (hx : r.nx < n) : goP xs n (t + 1) a f p l = ([], 15) := by
  show (if (chunkP xs n a f p).er ≠ 0 then _ else if (chunkP xs n a f p).k = 0 then (if (chunkP xs n a f p).nx < n then _ else _) else _) = _
  rw [← hr, if_neg (by omega), if_pos hk, if_pos hx]
theorem goP_end {xs : List Int} {n t a : Nat} {f p : Bool} {l : List Nat} {r : Chk} (hr : r = chunkP xs n a f p) (h : r.er = 0) (hk : r.k = 0) (hx : ¬ r.nx < n) : goP xs n (t + 1) a f p l = (l, 0) := by
  show (if (chunkP xs n a f p).er ≠ 0 then _ else if (chunkP xs n a f p).k = 0 then (if (chunkP xs n a f p).nx < n then _ else _) else _) = _
  rw [← hr, if_neg (by omega), if_pos hk, if_neg hx]
theorem goP_more {xs : List Int} {n t a : Nat} {f p : Bool} {l : List Nat} {r : Chk} (hr : r = chunkP xs n a f p) (h : r.er = 0) (hk : ¬ r.k = 0) : goP xs n (t + 1) a f p l = goP xs n t r.nx (firstP r f) (propsP r p) (l ++ [r.N]) := by
  show (if (chunkP xs n a f p).er ≠ 0 then _ else if (chunkP xs n a f p).k = 0 then _ else _) = _
  rw [← hr, if_neg (by omega), if_neg hk]
/-- The sizes' row, as it stands. -/
def vals (l : List Nat) : List Value := (l.map Int.ofNat).map (Value.int .i64)
theorem vals_snoc (l : List Nat) (x : Nat) : vals (l ++ [x]) = vals l ++ [Value.int .i64 (x : Nat)] := by simp [vals]
theorem sz_nums {w : World} {b e : Nat} {A : Option Addr} {c : Nat} {l : List Nat} (h : w.ownsRow b e 1 (.slice A l.length c) l.length (vals l)) (hx : ∀ x ∈ l, x ≤ 2097152) : Nums .i64 w A l.length c (l.map Int.ofNat) :=
  Nums.of_own h fun x hm => by
    obtain ⟨y, hy, rfl⟩ := List.mem_map.1 hm
    have := hx y hy
    show inKind .i64 ((y : Nat) : Int)
    show (-9223372036854775808 : Int) ≤ ((y : Nat) : Int) ∧ ((y : Nat) : Int) ≤ 9223372036854775807
    omega
/-- What tells sizes: a row and an error. -/
def SzPost (w : World) (R : List Nat × Nat) (e : Ending) (w' : World) : Prop :=
  ∃ A' c', e = .returned (.tuple #[.slice A' R.1.length c', .int .i64 (R.2 : Nat)]) ∧ Nums .i64 w' A' R.1.length c' (R.1.map Int.ofNat) ∧ Grow w w'
theorem szNil (w : World) : Nums .i64 w none 0 0 [] := ⟨rfl, by simp, Nat.le_refl _, fun _ => rfl, fun h => absurd h (by decide)⟩
set_option maxRecDepth 8000 in
set_option maxHeartbeats 4000000 in
theorem sizes_is (w : World) (n c : Nat) (A : Option Addr) (xs : List Int) (h : Nums .u8 w A n c xs) (hn : n ≤ 1048576) (hlt : ∀ b, A = some b → b.block < w.heap.size) :
    Calls Try.prog 31 #[.slice A n c] w fun e w' => SzPost w (goP xs n (n + 1) 0 true false []) e w' := by
  obtain ⟨R, hR⟩ : ∃ R, R = goP xs n (n + 1) 0 true false [] := ⟨_, rfl⟩
  have HRR := Lib.hid hR
  rw [← hR]
  obtain ⟨POST, hPOST⟩ : ∃ POST : Ending → World → Prop, POST = fun e w' => SzPost w R e w' := ⟨_, rfl⟩
  have HPO := Lib.hid hPOST
  show Calls _ _ _ _ fun e w' => (fun e w' => SzPost w R e w') e w'
  rw [← hPOST]
  have HN0 := Lib.hid h
  have HLT := Lib.hid hlt
  have HNB := Lib.hid (fun j => (bytN_is h j).2)
  have HLE := Lib.hid hn
  have hni : (n : Int) ≤ 1048576 := by omega
  clear hR hPOST h hlt hn
  go_enter Try.func31, Try.ntmps31
  go_wp2_with fail
  have hga := heap_alloc_new w (.cells #[Value.slice A n c, Value.int .i64 0, Value.bool true, Value.bool false] 86)
  have hg1 : Grow w (w.alloc (.cells #[Value.slice A n c, Value.int .i64 0, Value.bool true, Value.bool false] 86)) := (Keeps.refl _ w).alloc _
  generalize w.alloc (.cells #[Value.slice A n c, Value.int .i64 0, Value.bool true, Value.bool false] 86) = w1 at *
  obtain ⟨g, hg⟩ : ∃ g, g = w.heap.size := ⟨_, rfl⟩
  rw [← hg] at hga HLT ⊢
  have HW1 : Hid (WAt w1 g A n c xs 0 true false) := ⟨hga, HN0.out.keep hg1 (fun _ _ _ h => h), HLT.out, Nat.zero_le _, HLE.out⟩
  have HG1 := Lib.hid hg1
  have HGE := Lib.hid hg
  have HB : Hid (g < w1.heap.size) := blk_lt hga
  obtain ⟨B, hB⟩ : ∃ B, B = w1.heap.size := ⟨_, rfl⟩
  have HBE := Lib.hid hB
  rw [← hB] at HB
  clear hga hg1 hg hB HN0
  go_loopg [5] (n + 1) (fun t vl wr => ∃ (a : Nat) (f p : Bool) (l : List Nat), Hid (wr.ownsRow B 3 1 vl l.length (vals l)) ∧ Hid (WAt wr g A n c xs a f p) ∧ Hid (Grow w wr ∧ B ≤ wr.heap.size) ∧ Hid (n - a < t ∧ l.length ≤ a ∧ goP xs n t a f p l = R ∧ ∀ x ∈ l, x ≤ 2097152))
  case atStart => exact ⟨0, true, false, [], own_nil _ _ _, HW1.out, ⟨HG1.out, by rw [HBE.out]; exact Nat.le_refl _⟩, ⟨by omega, by decide, HRR.out.symm, by simp⟩⟩
  case round =>
    obtain ⟨a, f, p, l, HO, HW, HG, HT⟩ := hrel
    clear HW1 HG1
    obtain ⟨t, rfl⟩ : ∃ t, gk = t + 1 := by
      cases gk with
      | zero => have := HT.out.1; omega
      | succ t => exact ⟨t, rfl⟩
    obtain ⟨r, hr⟩ : ∃ r, r = chunkP xs n a f p := ⟨_, rfl⟩
    have HC := chunk_nx xs n a f p HLE.out HW.out.le HNB.out
    rw [← hr] at HC
    have HX := Lib.hid HC
    have HE := Lib.hid hr
    have HNX := Lib.hid (wNext_is wr g n c a A xs f p HW.out)
    rw [← hr] at HNX
    clear HC hr
    go_wp2_with fail
    refine HNX.out.mono ?_
    rintro x w2 ⟨k', N', x1, y1, z1, Ab, nb, cb, rfl, hk2, hok⟩
    have HOK := Lib.hid hok
    have HK2 := Lib.hid hk2
    clear hok hk2 HNX
    obtain ⟨er, her⟩ : ∃ er, er = r.er := ⟨_, rfl⟩
    rw [← her]
    have HER := Lib.hid her
    clear her
    by_cases he : er = 0
    · have he0 : r.er = 0 := by rw [← HER.out]; exact he
      obtain ⟨rfl, rfl, hw2⟩ := HOK.out he0
      subst he
      have HNX := HX.out.2.2.2 he0
      have hkb := HX.out.2.1
      have hNb := HX.out.2.2.1
      obtain ⟨kk, hkk⟩ : ∃ kk, kk = r.k := ⟨_, rfl⟩
      obtain ⟨N, hNN⟩ : ∃ N, N = r.N := ⟨_, rfl⟩
      obtain ⟨nx, hnx⟩ : ∃ nx, nx = r.nx := ⟨_, rfl⟩
      rw [← hnx] at hw2 HNX
      rw [← hkk] at hkb ⊢
      rw [← hNN] at hNb ⊢
      have HKK := Lib.hid (And.intro hkk (And.intro hNN hnx))
      have HNXH := Lib.hid HNX
      have HNB2 := Lib.hid hNb
      have HE0 := Lib.hid he0
      clear hkk hNN hnx HNX he0 HOK hkb hNb
      have ho2 := owns_keep HO.out HK2.out (fun k hk h9 => by have h9 : k = g := h9; have := own_ge HO.out k hk; have := HB.out; omega)
      have HO2 := Lib.hid ho2
      have HW2 := Lib.hid hw2
      have HG2 : Hid (Grow w w2 ∧ B ≤ w2.heap.size) := ⟨Keeps.trans HG.out.1 HK2.out fun i hi h9 => by have h9 : i = g := h9; have := HGE.out; omega, Nat.le_trans HG.out.2 HK2.out.size⟩
      clear ho2 hw2 HO HW HG HK2
      go_upto_region 4 with fail
      have hgc := heap_alloc_new w2 (.cells #[.int .u8 (kk : Nat), .int .i64 (N : Nat), .int .i64 (x1 : Nat), .int .i64 (y1 : Nat), .int .i64 (z1 : Nat), .slice Ab nb cb] 88)
      have hk3 : Grow w2 (w2.alloc (.cells #[.int .u8 (kk : Nat), .int .i64 (N : Nat), .int .i64 (x1 : Nat), .int .i64 (y1 : Nat), .int .i64 (z1 : Nat), .slice Ab nb cb] 88)) := (Keeps.refl _ w2).alloc _
      generalize w2.alloc (.cells #[.int .u8 (kk : Nat), .int .i64 (N : Nat), .int .i64 (x1 : Nat), .int .i64 (y1 : Nat), .int .i64 (z1 : Nat), .slice Ab nb cb] 88) = w3 at *
      obtain ⟨gc, hgcE⟩ : ∃ gc, gc = w2.heap.size := ⟨_, rfl⟩
      rw [← hgcE] at hgc ⊢
      have HGC : Hid (B ≤ gc ∧ gc < w3.heap.size) := ⟨by rw [hgcE]; exact HG2.out.2, blk_lt hgc⟩
      have HO3 := Lib.hid (owns_keep HO2.out hk3 (fun _ _ h9 => h9))
      have HW3 := Lib.hid (HW2.out.grow hk3)
      have HG3 : Hid (Grow w w3 ∧ B ≤ w3.heap.size) := ⟨Grow.trans _ _ _ HG2.out.1 hk3, Nat.le_trans HG2.out.2 hk3.size⟩
      have d0 := blk_cell hgc 0
      have d1 := blk_cell hgc 1
      simp at d0 d1
      clear hgcE hk3 HO2 HW2 HG2 hgc
      obtain ⟨A5, c5, rfl⟩ := rowf_ci HO3.out
      have h0 : ((0 : Int) == 0) = true := rfl
      have hkb : kk < 256 := by have := HX.out.2.1; have := HKK.out.1; omega
      by_cases hk0 : kk = 0
      · have q1 : decide ((kk : Int) = 0) = true := decide_eq_true (by omega)
        have q2 : ((kk : Int) == 0) = true := by simp; omega
        have e1 := blk_cell HW3.out.blk 1
        simp at e1
        have hrk : r.k = 0 := by rw [← HKK.out.1]; exact hk0
        have HRK := Lib.hid hrk
        by_cases htl : nx < n
        · have q3 : decide ((nx : Int) < (n : Int)) = true := decide_eq_true (by omega)
          have q4 : decide (nx < n) = true := decide_eq_true htl
          have hr : R = ([], 15) := by rw [← HT.out.2.2.1, goP_tail HE.out HE0.out hrk (by rw [← HKK.out.2.2]; exact htl)]
          have HR := Lib.hid hr
          clear hr htl hk0 hrk hkb
          go_wp2_with fail
          try go_ret2
          show POST (.returned (.tuple #[.slice none 0 0, .int .i64 (15 : Nat)])) _
          rw [HPO.out, HR.out]
          exact ⟨none, 0, rfl, szNil _, HG3.out.1⟩
        · have q3 : decide ((nx : Int) < (n : Int)) = false := decide_eq_false (by omega)
          have q4 : decide (nx < n) = false := decide_eq_false htl
          have hr : R = (l, 0) := by rw [← HT.out.2.2.1, goP_end HE.out HE0.out hrk (by rw [← HKK.out.2.2]; exact htl)]
          have HR := Lib.hid hr
          clear hr htl hk0 hrk hkb
          go_wp2_with fail
          try go_ret2
          show POST (.returned (.tuple #[.slice A5 l.length c5, .int .i64 (0 : Nat)])) _
          rw [HPO.out, HR.out]
          exact ⟨A5, c5, rfl, sz_nums HO3.out HT.out.2.2.2, HG3.out.1⟩
      · have q1 : decide ((kk : Int) = 0) = false := decide_eq_false (by omega)
        have q2 : ((kk : Int) == 0) = false := by simp; omega
        have hlen : l.length ≤ 1048576 := by have := HT.out.2.1; have := HW3.out.le; have := HLE.out; have := HNXH.out; omega
        have hrk : ¬ r.k = 0 := by rw [← HKK.out.1]; exact hk0
        have HRK := Lib.hid hrk
        have HLB := Lib.hid hlen
        clear hk0 hrk hkb hlen
        go_wp2_with (at_builtin; refine wpList_app1 rfl (.tmp 38) (.tmp 41) 39 3 rfl Try.underlying39 Try.info_ci rfl B _ l.length _ rfl HO3.out HG3.out.2 rfl rfl (by have := HLB.out; unfold maxLen; omega) (by have := HLB.out; omega) ?_)
        intro g4 cap w4 ho4 hk4 _
        have HO4 : Hid (w4.ownsRow B 3 1 (.slice (some ⟨g4, 0, none⟩) (l ++ [N]).length cap) (l ++ [N]).length (vals (l ++ [N]))) := by
          show World.ownsRow _ _ _ _ _ _ _
          rw [vals_snoc, List.length_append]
          exact ho4
        have HW4 := Lib.hid (HW3.out.keep hk4 (fun b hb h9 => by have := own_ge HO3.out b h9; have := HB.out; omega))
        have HG4 : Hid (Grow w w4 ∧ B ≤ w4.heap.size) := ⟨grow_own HG3.out.1 HO3.out (by have := HB.out; have := HGE.out; omega) hk4, Nat.le_trans HG3.out.2 hk4.size⟩
        have HT4 : Hid (n - nx < t ∧ (l ++ [N]).length ≤ nx ∧ goP xs n t nx (firstP r f) (propsP r p) (l ++ [N]) = R ∧ ∀ x ∈ l ++ [N], x ≤ 2097152) := by
          have h1 := HT.out
          have h2 := HNXH.out
          refine ⟨by omega, by rw [List.length_append, List.length_singleton]; omega, ?_, ?_⟩
          · rw [← h1.2.2.1, goP_more HE.out HE0.out HRK.out, ← HKK.out.2.1, ← HKK.out.2.2]
          · intro x hx
            rcases List.mem_append.1 hx with hx | hx
            · exact h1.2.2.2 x hx
            · rw [List.mem_singleton.1 hx]; exact HNB2.out
        have hLE : (l ++ [N]).length = l.length + 1 := by simp
        rw [hLE] at HO4
        have HLE2 := Lib.hid hLE
        clear ho4 hk4 hLE
        go_wp2_with fail
        go_roundg t
        case measure => omega
        case rel => exact ⟨nx, _, _, l ++ [N], by rw [HLE2.out]; exact HO4.out, HW4.out, HG4.out, HT4.out⟩
    · have hr : R = ([], er) := by rw [← HT.out.2.2.1, goP_bad HE.out (by rw [← HER.out]; exact he), HER.out]
      have HR := Lib.hid hr
      have HG2 : Hid (Grow w w2) := Keeps.trans HG.out.1 HK2.out fun i hi h9 => by have h9 : i = g := h9; have := HGE.out; omega
      have heb : (er : Int) ≤ 11 := by have := HX.out.1; have := HER.out; omega
      have h0 : decide ((er : Int) = 0) = false := decide_eq_false (by omega)
      have h1 : ((er : Int) == 0) = false := by simp; omega
      clear hr he
      go_wp2_with fail
      try go_ret2
      show POST (.returned (.tuple #[.slice none 0 0, .int .i64 (er : Nat)])) _
      rw [HPO.out, HR.out]
      exact ⟨none, 0, rfl, szNil _, HG2.out.alloc _⟩
end Go.Proofs.Ytoeapobpdfidkaa
