/- The sum of blocks' sums that the program tells is the document's, for any list of sums: both fold the same step over the list. -/
import Derived.Test.YtoeapobpdfidkaaPBzip2Sumsx1
namespace Go.Proofs.Ytoeapobpdfidkaa.Pure
open Go.RowKit Go.Proofs.Ytoeapobpdfidkaa.PBzip2Sums Go.Proofs.YtoeapobpdfidkaaW.PrintWords Go.Proofs.YtoeapobpdfidkaaW.PrintLast Go.Proofs.YtoeapobpdfidkaaW.PrintMore

theorem one_and : Go.bits .and .u64 (IntKind.u64.wrap 1) 31 = 1 := by decide
theorem rotate_one (x : Int) : bits_RotateLeft32.f x 1 = some (Go.bits .or .u32 (x * 2 % 4294967296) (x / 2147483648)) := by
  unfold bits_RotateLeft32.f
  rw [one_and, if_pos (by decide), if_pos (by decide)]
  have h1 : shl .u32 x 1 = x * 2 % 4294967296 := by
    unfold shl
    rw [IntKind.wrap_u32]
    rfl
  have h2 : shr .u32 x (IntKind.u64.wrap (32 - 1)) = x / 2147483648 := by
    unfold shr
    rfl
  rw [h1, h2]

theorem wrap_next {i : Int} (h0 : 0 ≤ i) (h : i ≤ 140737488351232) : wrap64 (i + 1) = i + 1 := by
  unfold wrap64
  omega

theorem both (l : List Int) (hl : l.length ≤ 140737488351232) (d : Nat) : ∀ (k : Nat) (i s : Int), 0 ≤ i → (l.length : Int) - i = d → d < k →
    ∃ r, bzip2_Sum.l0 k s l (l.length : Int) i = some r ∧ hamperref12_Sum.l0 k l s i = some r := by
  induction d with
  | zero =>
    intro k i s h0 hd hk
    obtain ⟨k, rfl⟩ : ∃ m, k = m + 1 := ⟨k - 1, by omega⟩
    refine ⟨s, ?_, ?_⟩
    · simp only [bzip2_Sum.l0]; rw [if_neg (by omega)]
    · simp only [hamperref12_Sum.l0]; rw [if_neg (by omega)]
  | succ d ih =>
    intro k i s h0 hd hk
    obtain ⟨k, rfl⟩ : ∃ m, k = m + 1 := ⟨k - 1, by omega⟩
    have hlt : i < (l.length : Int) := by omega
    obtain ⟨r, h1, h2⟩ := ih k (i + 1) (Go.bits .xor .u32 (Go.bits .or .u32 (s * 2 % 4294967296) (s / 2147483648)) (rd l i)) (by omega) (by omega) (by omega)
    refine ⟨r, ?_, ?_⟩
    · simp only [bzip2_Sum.l0]; rw [if_pos hlt, if_pos h0, if_pos hlt, rotate_one]; simp only [Option.bind_some]; rw [wrap_next h0 (by omega)]; exact h1
    · simp only [hamperref12_Sum.l0]; rw [if_pos hlt, if_pos h0, wrap_next h0 (by omega)]; exact h2

theorem Bzip2Sums : hamperlaw12_Bzip2Sums.Pure := by
  intro l hl hb _
  obtain ⟨r, h1, h2⟩ := both l (by omega) l.length (l.length + 1) 0 0 (by omega) (by omega) (by omega)
  refine ⟨l.length + 1, ?_⟩
  unfold hamperlaw12_Bzip2Sums.f bzip2_Sum.f hamperref12_Sum.f
  simp only [Option.bind_some, List.nil_append, List.length_nil, Nat.zero_add]
  rw [if_pos (by omega), h1]
  simp only [Option.bind_some]
  rw [h2]
  simp

end Go.Proofs.Ytoeapobpdfidkaa.Pure
