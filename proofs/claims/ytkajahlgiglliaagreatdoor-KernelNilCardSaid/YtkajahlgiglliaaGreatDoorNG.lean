/- What there is not: how the row's answers are told. -/
import Derived.Test.YtkajahlgiglliaaGreatDoorRows
import Derived.SevenTiedAt
import Derived.KernelRfl
set_option maxRecDepth 100000
namespace Go.Proofs.YtkajahlgiglliaaGreatDoor
open Go

theorem cGoes : false = Rows.kernelNilRow.goesBy Tryz.prog := by kernel_rfl

end Go.Proofs.YtkajahlgiglliaaGreatDoor
