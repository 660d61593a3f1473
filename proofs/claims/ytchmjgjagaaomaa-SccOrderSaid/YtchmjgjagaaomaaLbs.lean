/- Contracts of the library, laid at this program. -/
import Derived.Shelf.SlicesG.SearchI
import Derived.Test.YtchmjgjagaaomaaProg
namespace Go.Proofs.Ytchmjgjagaaomaa
open Go.Shelf
def bsI_ren : Go.Shelf.Ren := ⟨fun | 49 => 37 | 59 => 53 | 60 => 54 | 68 => 69 | n => n, fun | 22 => 32 | 23 => 3 | 3 => 3 | 4 => 4 | 51 => 71 | 0 => 0 | n => n, fun | n => n⟩
theorem bsI : Go.Proofs.SlLaysN.n49 Try.prog bsI_ren := {
  mixed := by kernel_rfl
  f49 := ⟨Try.f37.name, by decide, Try.func37.trans (congrArg some (by kernel_rfl))⟩
  f59 := ⟨Try.f53.name, by decide, Try.func53.trans (congrArg some (by kernel_rfl))⟩
  f60 := ⟨Try.f54.name, by decide, Try.func54.trans (congrArg some (by kernel_rfl))⟩
  f68 := ⟨Try.f69.name, by decide, Try.func69.trans (congrArg some (by kernel_rfl))⟩
  t0 := Try.underlying0
  a0 := Try.isAgg0
  z0 := Try.sizeOf0
  v0 := Try.zeroValue0
  t3 := Try.underlying3
  a3 := Try.isAgg3
  z3 := Try.sizeOf3
  v3 := Try.zeroValue3
  t4 := Try.underlying4
  a4 := Try.isAgg4
  z4 := Try.sizeOf4
  v4 := Try.zeroValue4
  t22 := Try.underlying32
  a22 := Try.isAgg32
  z22 := Try.sizeOf32
  v22 := Try.zeroValue32
  t23 := Try.underlying3
  a23 := Try.isAgg3
  z23 := Try.sizeOf3
  v23 := Try.zeroValue3
  t51 := Try.underlying71
  a51 := Try.isAgg71
  z51 := Try.sizeOf71
  v51 := Try.zeroValue71 }
end Go.Proofs.Ytchmjgjagaaomaa
