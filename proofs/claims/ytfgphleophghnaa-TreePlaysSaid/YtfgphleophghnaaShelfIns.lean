/- The shelf's contract of slices.Insert, laid at this dump in plain words (tools/lay-plain.mjs wrote it at one seat; the numbers are filled in by name). -/
import Derived.Shelf.Spec.SlicesInsert
import Derived.Shelf.Spec.SlicesInsertGrow
import Derived.Test.YtfgphleophghnaaProg
namespace Go.Proofs
open Go.Shelf
def Try.laysIns_ren : Go.Shelf.Ren := ⟨fun | 21 => 53 | 27 => 61 | 28 => 62 | 35 => 65 | 39 => 67 | n => n, fun | 22 => 73 | 3 => 3 | 4 => 4 | 0 => 0 | n => n, fun | n => n⟩
theorem Try.laysIns : Go.Proofs.Lays2.n21 Try.prog Try.laysIns_ren := {
  mixed := by kernel_rfl
  f21 := Try.func53.trans (congrArg some (by kernel_rfl))
  f27 := Try.func61.trans (congrArg some (by kernel_rfl))
  f28 := Try.func62.trans (congrArg some (by kernel_rfl))
  f35 := Try.func65.trans (congrArg some (by kernel_rfl))
  f39 := Try.func67.trans (congrArg some (by kernel_rfl))
  t0 := Try.underlying0
  a0 := Try.isAgg0
  z0 := Try.sizeOf0
  v0 := Try.zeroValue0
  t3 := Try.underlying3
  a3 := Try.isAgg3
  z3 := Try.sizeOf3
  v3 := Try.zeroValue3
  t4 := Try.underlying4
  a4 := Try.isAgg4
  z4 := Try.sizeOf4
  v4 := Try.zeroValue4
  t22 := Try.underlying73
  a22 := Try.isAgg73
  z22 := Try.sizeOf73
  v22 := Try.zeroValue73
  i3 := by kernel_rfl }
end Go.Proofs
