/-
  The library's sorts of at most twelve lists: the kit's contract of the insertion sort laid at this program, and the walks of what calls it.
-/
import Derived.Test.YthjdmkjncaemgaaRows
import Derived.Shelf.SlSortCmp.Insertion
namespace Go.Proofs.Ythjdmkjncaemgaa
open Go.RowKit Go.Shelf
def sortRen : Go.Shelf.Ren := ⟨fun | 20 => 68 | n => n, fun | 0 => 0 | 3 => 3 | 4 => 4 | 22 => 32 | 24 => 22 | 25 => 45 | n => n, fun n => n⟩
theorem sortLay : SlLaysF.n20 Try.prog sortRen :=
  { mixed := by kernel_rfl
    f20 := ⟨Try.f68.name, by kernel_rfl, Try.func68.trans (congrArg some (by kernel_rfl))⟩
    t0 := Try.underlying0
    a0 := Try.isAgg0
    z0 := Try.sizeOf0
    v0 := Try.zeroValue0
    t3 := Try.underlying3
    a3 := Try.isAgg3
    z3 := Try.sizeOf3
    v3 := Try.zeroValue3
    t4 := Try.underlying4
    a4 := Try.isAgg4
    z4 := Try.sizeOf4
    v4 := Try.zeroValue4
    t22 := Try.underlying32
    a22 := Try.isAgg32
    z22 := Try.sizeOf32
    v22 := Try.zeroValue32
    a24 := Try.isAgg22
    z24 := Try.sizeOf22
    t25 := Try.underlying45
    a25 := Try.isAgg45
    z25 := Try.sizeOf45
    v25 := Try.zeroValue45 }
end Go.Proofs.Ythjdmkjncaemgaa
