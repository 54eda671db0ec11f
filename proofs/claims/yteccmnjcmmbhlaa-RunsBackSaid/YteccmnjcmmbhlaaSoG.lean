/- Bytes sorted: what breakPatterns and Sort call of bits, off the shelf. -/
import Derived.Test.YteccmnjcmmbhlaaSoF
import Derived.Shelf.SlSortCmp.Xorshift
import Derived.Shelf.Lay
import Derived.Shelf.Strconv.Itoa0
import Derived.Ground.SlsfProg
namespace Go.Proofs
open Go.Shelf
set_option maxRecDepth 100000 in
shelf_lay SlLaysF0.n48 Slsf 48 at Try as Try.xsNext
set_option maxRecDepth 100000 in
shelf_lay SlLaysF0.n47 Slsf 47 at Try as Try.npow
set_option maxRecDepth 100000 in
shelf_lay Lays.n125 Nm 125 at Try as Try.lays125
theorem Try.len_is (x : Int) (w : World) (h0 : 0 ≤ x) (h1 : x ≤ 18446744073709551615) :
    Calls Try.prog 52 #[.int .u64 x] w fun e w' => e = .returned (.int .i64 (Lib.bitLen x.toNat)) ∧ w' = w := Any.bits_Len Try.lays125 x w h0 h1
theorem Try.next_is (rb X : Nat) (hX : X < 18446744073709551616) (w : World) (hc : w.cell? ⟨rb, 0, none⟩ = some (.int .u64 X)) (hf : w.frozen? ⟨rb, 0, none⟩ = false) :
    Calls Try.prog 66 #[.pointer (some ⟨rb, 0, none⟩)] w fun e w' => e = .returned (.int .u64 (Go.Sort.xorNextN X : Nat)) ∧ w' = (w.setCell ⟨rb, 0, none⟩ (.int .u64 (Go.Sort.xorNextN X : Nat))).drewN 3 := AnyF.xorshift_Next Try.xsNext rb 0 X hX w hc hf
theorem Try.npow_is (n : Nat) (hn : n < 4611686018427387904) (w : World) :
    Calls Try.prog 65 #[.int .i64 n] w fun e w' => e = .returned (.int .u64 ((1 <<< Go.Sort.bitsLen n : Nat) : Int)) ∧ w' = w := AnyF.nextPowerOfTwo Try.npow n hn w
end Go.Proofs
