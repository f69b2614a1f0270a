/- The shelf's layings at this dump, in plain words: printed by the kit's own command. No condition. -/
import Derived.Shelf.Lays7
import Derived.Test.YtojfiifjjgfpaaaDoorProg
import Derived.KernelRfl
namespace Go.Proofs.YtojfiifjjgfpaaaDoor
open Go.Shelf
def Tryd.laysDec7_ren : Go.Shelf.Ren := ⟨fun | 49 => 54 | n => n, fun | 30 => 23 | 21 => 21 | 3 => 3 | 4 => 4 | 0 => 0 | 5 => 5 | 66 => 64 | 25 => 62 | 69 => 67 | 68 => 66 | n => n, fun | 2 => 0 | 3 => 1 | n => n⟩
theorem Tryd.laysDec7 : Go.Proofs.Lays7.n49 Tryd.prog Tryd.laysDec7_ren := {
  mixed := by kernel_rfl
  f49 := Tryd.func54.trans (congrArg some (by kernel_rfl))
  t0 := Tryd.underlying0
  a0 := Tryd.isAgg0
  z0 := Tryd.sizeOf0
  v0 := Tryd.zeroValue0
  i0 := by kernel_rfl
  t3 := Tryd.underlying3
  a3 := Tryd.isAgg3
  z3 := Tryd.sizeOf3
  v3 := Tryd.zeroValue3
  i3 := by kernel_rfl
  t4 := Tryd.underlying4
  a4 := Tryd.isAgg4
  z4 := Tryd.sizeOf4
  v4 := Tryd.zeroValue4
  i4 := by kernel_rfl
  t5 := Tryd.underlying5
  a5 := Tryd.isAgg5
  z5 := Tryd.sizeOf5
  v5 := Tryd.zeroValue5
  i5 := by kernel_rfl
  t21 := Tryd.underlying21
  a21 := Tryd.isAgg21
  z21 := Tryd.sizeOf21
  v21 := Tryd.zeroValue21
  i21 := by kernel_rfl
  t25 := Tryd.underlying62
  a25 := Tryd.isAgg62
  z25 := Tryd.sizeOf62
  v25 := Tryd.zeroValue62
  i25 := by kernel_rfl
  t30 := Tryd.underlying23
  a30 := Tryd.isAgg23
  z30 := Tryd.sizeOf23
  v30 := Tryd.zeroValue23
  i30 := by kernel_rfl
  t66 := Tryd.underlying64
  a66 := Tryd.isAgg64
  z66 := Tryd.sizeOf64
  t68 := Tryd.underlying66
  a68 := Tryd.isAgg66
  z68 := Tryd.sizeOf66
  v68 := Tryd.zeroValue66
  i68 := by kernel_rfl
  t69 := Tryd.underlying67
  a69 := Tryd.isAgg67
  z69 := Tryd.sizeOf67
  v69 := Tryd.zeroValue67
  i69 := by kernel_rfl
  g2 := by kernel_rfl
  g3 := by kernel_rfl }
end Go.Proofs.YtojfiifjjgfpaaaDoor
