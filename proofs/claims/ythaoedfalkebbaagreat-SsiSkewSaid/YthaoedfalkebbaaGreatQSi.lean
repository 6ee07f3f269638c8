/- The library's sort, compact and clone at this program: the shelf's contracts laid here. -/
import Derived.Shelf.SlGeneric
import Derived.Shelf.SortM.Plain
import Derived.Shelf.SortM.SortNone
import Derived.Shelf.SlicesE.Clone
import Derived.Shelf.SlicesE.Compact
import Derived.Shelf.SlMaps.Clone
import Derived.Ground.SlgnProg
import Derived.Ground.SlgmProg
import Derived.Ground.SlmcProg
import Derived.Test.YthaoedfalkebbaaGreatProg
namespace Go.Proofs
open Go.Shelf
def Tryz.cloneMapL_ren : Go.Shelf.Ren := ⟨fun | 5 => 107 | 7 => 106 | n => n, fun | 23 => 145 | 25 => 23 | 3 => 2 | 4 => 4 | 20 => 20 | n => n, fun | n => n⟩
theorem Tryz.cloneMapL : Go.Proofs.SlLaysW.n5 Tryz.prog Tryz.cloneMapL_ren := {
  mixed := by kernel_rfl
  f5 := ⟨Tryz.f107.name, by decide, Tryz.func107.trans (congrArg some (by kernel_rfl))⟩
  f7 := Tryz.func106.trans (congrArg some (by kernel_rfl))
  t4 := Tryz.underlying4
  a4 := Tryz.isAgg4
  z4 := Tryz.sizeOf4
  v4 := Tryz.zeroValue4
  t20 := Tryz.underlying20
  a20 := Tryz.isAgg20
  z20 := Tryz.sizeOf20
  v20 := Tryz.zeroValue20
  t23 := Tryz.underlying145
  a23 := Tryz.isAgg145
  z23 := Tryz.sizeOf145
  v23 := Tryz.zeroValue145 }
end Go.Proofs
