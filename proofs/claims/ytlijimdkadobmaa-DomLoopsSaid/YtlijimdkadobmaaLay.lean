/- Contracts of the library, laid at this program. -/
import Derived.Shelf.SlSorted.Search
import Derived.Test.YtlijimdkadobmaaProg
namespace Go.Proofs.Ytlijimdkadobmaa
open Go.Shelf
def search_ren : Go.Shelf.Ren := ⟨fun | 16 => 59 | n => n, fun | 3 => 3 | 35 => 60 | 4 => 4 | 38 => 77 | n => n, fun | n => n⟩
theorem search : Go.Proofs.SlLaysO.n16 Try.prog search_ren := {
  mixed := by kernel_rfl
  f16 := Try.func59.trans (congrArg some (by kernel_rfl))
  t3 := Try.underlying3
  a3 := Try.isAgg3
  z3 := Try.sizeOf3
  v3 := Try.zeroValue3
  t4 := Try.underlying4
  a4 := Try.isAgg4
  z4 := Try.sizeOf4
  v4 := Try.zeroValue4
  t35 := Try.underlying60
  a35 := Try.isAgg60
  z35 := Try.sizeOf60
  v35 := Try.zeroValue60
  t38 := Try.underlying77
  a38 := Try.isAgg77
  z38 := Try.sizeOf77
  v38 := Try.zeroValue77 }
end Go.Proofs.Ytlijimdkadobmaa
