/- bits.Len64, off the shelf. -/
import Derived.Test.YtnjdhkaabpmahaaNums
import Derived.Shelf.Lay
import Derived.Shelf.Strconv.Itoa0
namespace Go.Proofs
open Go.Shelf
set_option maxRecDepth 100000 in
shelf_lay Lays.n129 Nm 129 at Try as Try.lays129
theorem Try.len64_is (x : Int) (w : World) (h0 : 0 ≤ x) (h1 : x ≤ 18446744073709551615) :
    Calls Try.prog 58 #[.int .u64 x] w fun e w' => e = .returned (.int .i64 (Lib.bitLen x.toNat)) ∧ w' = w := Any.bits_Len64 Try.lays129 x w h0 h1
end Go.Proofs
