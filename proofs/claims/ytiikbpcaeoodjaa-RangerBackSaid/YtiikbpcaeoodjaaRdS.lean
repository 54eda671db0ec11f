/- The document's decoder: its shape. -/
import Derived.Test.YtiikbpcaeoodjaaDcN
namespace Go.Proofs.Ytiikbpcaeoodjaa
open Go.RowKit
set_option linter.unusedVariables false
set_option linter.unusedSimpArgs false

/-- The document's decoder at block g: its chances' row vc, the bytes xs (in a block of BB), p of them read. -/
structure RDecAt (w : World) (g : Nat) (vc : Value) (BB : Nat → Prop) (A : Option Addr) (m c : Nat) (xs : List Int) (p : Nat) (d : Dec) : Prop where
  blk : w.heap[g]? = some (.cells #[vc, .int .u64 d.width, .int .u64 d.code, .slice A m c, .int .i64 (p : Nat), .bool d.over] 57 (0, 0))
  chs : w.ownsRow 0 3 1 vc d.ch.length ((toI d.ch).map (Value.int .i64))
  bs : Nums .u8 w A m c xs
  len : p + d.rest.length = m
  rest : d.rest = toN (xs.drop p)
  rb : ∀ b o, A = some ⟨b, o, none⟩ → BB b
  ng : ¬ BB g
  nvc : ∀ k, vc.ownBlock = some k → ¬ BB k
namespace RDecAt
variable {w w' : World} {g m c p : Nat} {vc : Value} {BB : Nat → Prop} {A : Option Addr} {xs : List Int} {d d' : Dec}
theorem ne_chs (h : RDecAt w g vc BB A m c xs p d) : vc.ownBlock ≠ some g := row_ne h.chs h.blk (by decide)
theorem keep {S : Nat → Prop} (h : RDecAt w g vc BB A m c xs p d) (k : Keeps S w w') (h1 : ¬ S g) (h2 : ∀ i, vc.ownBlock = some i → ¬ S i) (h3 : ∀ b, BB b → ¬ S b) : RDecAt w' g vc BB A m c xs p d :=
  ⟨block_keep h.blk k h1, owns_keep h.chs k h2, h.bs.keep k (fun b o e => h3 b (h.rb b o e)), h.len, h.rest, h.rb, h.ng, h.nvc⟩
theorem drew (h : RDecAt w g vc BB A m c xs p d) : RDecAt w.drew g vc BB A m c xs p d := h.keep (Keeps.refl (fun _ => False) w).drew (fun h => h) (fun _ _ h => h) (fun _ _ h => h)
/-- Its own cells are written; q more bytes are read. -/
theorem re {q : Nat} (h : RDecAt w g vc BB A m c xs p d) (k : Keeps (fun k => k = g) w w')
    (hb : w'.heap[g]? = some (.cells #[vc, .int .u64 d'.width, .int .u64 d'.code, .slice A m c, .int .i64 (q : Nat), .bool d'.over] 57 (0, 0))) (hc : d'.ch = d.ch) (hl : q + d'.rest.length = m) (hr : d'.rest = toN (xs.drop q)) : RDecAt w' g vc BB A m c xs q d' :=
  ⟨hb, by rw [hc]; exact owns_keep h.chs k (fun i hi h9 => h.ne_chs (by rw [hi, h9])), h.bs.keep k (fun b o e h9 => h.ng (h9 ▸ h.rb b o e)), hl, hr, h.rb, h.ng, h.nvc⟩
end RDecAt
end Go.Proofs.Ytiikbpcaeoodjaa
