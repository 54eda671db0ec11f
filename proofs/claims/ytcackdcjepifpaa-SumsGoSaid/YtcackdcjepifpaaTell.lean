/- Bytes that came in: as a source of an append, and as bytes of a sum; sums.Text. -/
import Derived.Test.YtcackdcjepifpaaRd
import Derived.Test.YtcackdcjepifpaaText
import Derived.Test.YtcackdcjepifpaaHigh
import Derived.Test.YtcackdcjepifpaaCrc64
import Derived.Test.YtcackdcjepifpaaAdler
namespace Go.Proofs.Ytcackdcjepifpaa
open Go.RowKit
set_option linter.unusedVariables false
set_option linter.unusedSimpArgs false

theorem Try.infoU8 : (Try.prog.info? 5).map (fun i => (i.zero, i.size, i.bytes)) = some (some (.int .u8 0), 1, 1) := by kernel_rfl
theorem wf_u8 {x : Int} (h : (Lit.int .u8 x).wf = true) : 0 ≤ x ∧ x < 256 := by
  simp [Lit.wf] at h
  have h1 : IntKind.u8.min = 0 := rfl
  have h2 : IntKind.u8.max = 255 := rfl
  omega
/-- The bytes that came in. -/
theorem rd_bytes {W : World} {A : Option Addr} {c : Nat} {x : List Int} (h : Sh.Rd W (.sl 1 (.int .u8)) [.slice A x.length c] x) :
    Src W 1 A x.length c (x.map (Value.int .u8)) ∧ Bs W A x.length (x.map Int.toNat) ∧ x.length ≤ 140737488351232 ∧ (∀ y ∈ x, 0 ≤ y ∧ y < 256) ∧ (x.map Int.toNat).map (fun n : Nat => (n : Int)) = x := by
  obtain ⟨a, cap, e, h1, h2, h3, hn, h4⟩ := h
  injection e with e _
  injection e with e1 _ e3
  subst e1
  subst e3
  have hel : ∀ i y, x[i]? = some y → ∃ b off, A = some ⟨b, off, none⟩ ∧ W.cell? ⟨b, off + i, none⟩ = some (.int .u8 y) ∧ 0 ≤ y ∧ y < 256 := by
    intro i y hi
    have hlt : i < x.length := by
      rcases Nat.lt_or_ge i x.length with h | h
      · exact h
      · rw [List.getElem?_eq_none h] at hi; cases hi
    obtain ⟨b, off, ea, _, hx⟩ := h4 (by omega)
    obtain ⟨cs, hl, hc, hr⟩ := hx i y hi
    obtain ⟨rfl, hw⟩ := hr
    have hc0 := hc 0 (by decide)
    have e0 : off + (i * Sh.size (.int .u8) + 0) = off + i := by show off + (i * 1 + 0) = off + i; omega
    rw [e0] at hc0
    exact ⟨b, off, ea, hc0, wf_u8 hw⟩
  have hr : ∀ y ∈ x, 0 ≤ y ∧ y < 256 := fun y hy => by
    obtain ⟨i, hi⟩ := List.mem_iff_getElem?.1 hy
    obtain ⟨_, _, _, _, h⟩ := hel i y hi
    exact h
  have hmap : (x.map Int.toNat).map (fun n : Nat => (n : Int)) = x := by
    rw [List.map_map]
    conv => rhs; rw [← List.map_id x]
    exact List.map_congr_left fun y hy => by have := hr y hy; simp only [Function.comp, id]; omega
  refine ⟨⟨by simp, fun hA => ?_, fun ad hA j u hj => ?_, fun u hu => by obtain ⟨y, _, rfl⟩ := List.mem_map.1 hu; rfl⟩, ⟨by simp, fun y hy => ?_, fun hpos => ?_⟩, by omega, hr, hmap⟩
  · have := hn hA; omega
  · rw [List.getElem?_map] at hj
    cases hy : x[j]? with
    | none => rw [hy] at hj; cases hj
    | some y =>
      rw [hy] at hj
      injection hj with hj
      subst hj
      obtain ⟨b, off, ea, hc, _⟩ := hel j y hy
      rw [hA] at ea
      injection ea with ea
      subst ea
      rw [Addr.add_mid]
      exact hc
  · obtain ⟨z, hz, rfl⟩ := List.mem_map.1 hy
    have := hr z hz
    omega
  · obtain ⟨b, off, ea, _⟩ := h4 hpos
    refine ⟨b, off, ea, fun j hj => ?_⟩
    have hg : x[j]? = some x[j] := List.getElem?_eq_getElem hj
    obtain ⟨b', off', ea', hc, h0, _⟩ := hel j _ hg
    rw [ea] at ea'
    injection ea' with ea'
    injection ea' with e1 e2
    subst e1; subst e2
    rw [hc, List.getD_eq_getElem?_getD, List.getElem?_map, hg]
    simp only [Option.map_some, Option.getD_some]
    rw [Int.toNat_of_nonneg h0]

theorem text_is (w : World) (a : Nat) (t : ByteArray) (xs : List Nat) (ha : a < 4294967296) (h : xs = t.data.toList.map (·.toNat)) (hn2 : t.size ≤ 140737488355328) :
    Calls Try.prog 15 #[.int .u32 a, .string t] w fun e w' => e = .returned (.int .u32 (not32 (crcAll 3988292384 (not32 a) xs) : Nat)) ∧ Grow w w' := by
  have H := Lib.hid (alongText_is w a t t.size xs ha h rfl hn2)
  clear h ha
  go_enter Try.func15, Try.ntmps15
  go_wp2_with fail
  refine H.out.mono ?_
  rintro e w1 ⟨rfl, k⟩
  go_wp2_with fail
  go_ret
  exact ⟨rfl, k⟩
/-- A slice of bytes as a string. -/
theorem run_str_src {P : Program} {w : World} {src dst e : TypeId} {A : Option Addr} {n c : Nat} {xs : List Int} (hs : P.underlying src = some (.slice e)) (he : P.underlying e = some (.int .u8)) (hd : P.underlying dst = some .string)
    (h : Src w 1 A n c (xs.map (Value.int .u8))) : (convert src dst (.slice A n c)).run P w = .ok (.string (strOfNums xs)) w := by
  have hl : xs.length = n := by have := h.1; simpa using this
  cases A with
  | none =>
    obtain rfl : xs = [] := List.eq_nil_of_length_eq_zero (by rw [hl]; exact (h.2.1 rfl).1)
    exact run_convert_bytes_nil w src e hs he n c dst hd
  | some ad =>
    have h1 : (loadCells ad n).run P w = .ok (xs.map (Value.int .u8)).toArray w := by
      have := run_loadCells_list (P := P) w ad (xs.map (Value.int .u8)) (fun j v hj => h.2.2.1 ad rfl j v hj)
      simpa [hl] using this
    rw [run_convert_bytes_string w src dst e _ n c hs he hd, run_bytesToString w _ n c xs h1, foldl_push_bytes]
    simp [strOfNums, ByteArray.empty, ByteArray.emptyWithCapacity]
    rfl
theorem strOf_nums (x : List Int) : x.map Int.toNat = (strOfNums x).data.toList.map (·.toNat) ∨ ¬ ∀ y ∈ x, 0 ≤ y ∧ y < 256 := by
  by_cases h : ∀ y ∈ x, 0 ≤ y ∧ y < 256
  · refine .inl ?_
    rw [strOfNums_data, List.map_map]
    refine List.map_congr_left fun y hy => ?_
    have := h y hy
    simp only [Function.comp, UInt8.toNat_ofNat']
    omega
  · exact .inr h
theorem str_snoc (x : List Int) : strOfNums x ++ ⟨#[90]⟩ = strOfNums (x ++ [90]) := by
  simp [strOfNums]
  rfl
theorem Src.keep {S : Nat → Prop} {w w' : World} {size n c : Nat} {A : Option Addr} {xs : List Value} (h : Src w size A n c xs) (k : Keeps S w w') (hS : ∀ j, j < w.heap.size → ¬ S j) : Src w' size A n c xs := by
  refine ⟨h.1, h.2.1, fun ad hA j u hj => ?_, h.2.2.2⟩
  have h1 := h.2.2.1 ad hA j u hj
  rw [← h1]
  have hb := World.block_lt_of_cell? w _ h1
  exact World.cell?_of_block (k.block _ hb (hS _ hb))
end Go.Proofs.Ytcackdcjepifpaa
