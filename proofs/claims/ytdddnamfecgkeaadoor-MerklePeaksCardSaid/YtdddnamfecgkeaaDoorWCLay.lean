/- The library's functions at this program: tables of numbers, each held by the kernel: written by the kit's lay-plain. -/
import Derived.Shelf.Spec.TrailingZeros
import Derived.Test.YtdddnamfecgkeaaDoorWNm
namespace Go.Proofs
open Go.Shelf
def Tryd.lays27_ren : Go.Shelf.Ren := ⟨fun | 27 => 23 | 28 => 34 | 29 => 35 | n => n, fun | 25 => 58 | 3 => 3 | 27 => 69 | 22 => 71 | 4 => 4 | 53 => 22 | 0 => 0 | 5 => 5 | 54 => 79 | n => n, fun | 0 => 0 | 1 => 1 | n => n⟩
theorem Tryd.lays27 : Go.Proofs.Lays7.n27 Tryd.prog Tryd.lays27_ren := {
 mixed := by kernel_rfl
 f27 := Tryd.func23.trans (congrArg some (by kernel_rfl))
 f28 := Tryd.func34.trans (congrArg some (by kernel_rfl))
 f29 := Tryd.func35.trans (congrArg some (by kernel_rfl))
 t0 := Tryd.underlying0
 a0 := Tryd.isAgg0
 z0 := Tryd.sizeOf0
 v0 := Tryd.zeroValue0
 i0 := by kernel_rfl
 t3 := Tryd.underlying3
 a3 := Tryd.isAgg3
 z3 := Tryd.sizeOf3
 v3 := Tryd.zeroValue3
 i3 := by kernel_rfl
 t4 := Tryd.underlying4
 a4 := Tryd.isAgg4
 z4 := Tryd.sizeOf4
 v4 := Tryd.zeroValue4
 i4 := by kernel_rfl
 t5 := Tryd.underlying5
 a5 := Tryd.isAgg5
 z5 := Tryd.sizeOf5
 v5 := Tryd.zeroValue5
 i5 := by kernel_rfl
 t22 := Tryd.underlying71
 a22 := Tryd.isAgg71
 z22 := Tryd.sizeOf71
 v22 := Tryd.zeroValue71
 i22 := by kernel_rfl
 t25 := Tryd.underlying58
 a25 := Tryd.isAgg58
 z25 := Tryd.sizeOf58
 v25 := Tryd.zeroValue58
 i25 := by kernel_rfl
 t27 := Tryd.underlying69
 a27 := Tryd.isAgg69
 z27 := Tryd.sizeOf69
 v27 := Tryd.zeroValue69
 i27 := by kernel_rfl
 t53 := Tryd.underlying22
 a53 := Tryd.isAgg22
 z53 := Tryd.sizeOf22
 v53 := Tryd.zeroValue22
 i53 := by kernel_rfl
 t54 := Tryd.underlying79
 a54 := Tryd.isAgg79
 z54 := Tryd.sizeOf79
 g0 := by kernel_rfl
 g1 := by kernel_rfl }
end Go.Proofs
