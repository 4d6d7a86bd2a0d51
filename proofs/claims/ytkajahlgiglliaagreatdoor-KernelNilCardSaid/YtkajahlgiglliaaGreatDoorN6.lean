/- What there is not: the row's closed facts; the card. -/
import Derived.Test.YtkajahlgiglliaaGreatDoorN5
import Derived.Test.YtkajahlgiglliaaGreatDoorCards
import Derived.Test.YtkajahlgiglliaaGreatDoorTie
import Derived.SevenTiedAt
set_option maxRecDepth 100000
namespace Go.Proofs.YtkajahlgiglliaaGreatDoor
open Go

theorem k10 : Tryz.prog.inPlace 3 = ["math/bits.Add64"] := by kernel_rfl
theorem k11 : Tryz.prog.unfollowed 3 = true := by kernel_rfl
theorem k12 : Tryz.prog.recurses 3 = true := by unfold Program.recurses; rw [k11]; rfl
theorem k13 : Tryz.prog.varsNamed 3 = ["math/bits.deBruijn64tab", "math/bits.divideError", "math/bits.overflowError"] := by kernel_rfl

theorem closed : joinedFacts Tryz.prog 3 Tryz.f3 Rows.kernelNilSpec Rows.kernelNilRow = true := by
  unfold joinedFacts
  rw [k10, k11, k12, k13]
  kernel_rfl

theorem kernelNil_holds : Rows.KernelNilSaid :=
  OpenClaim.holds_of_wide 3 Tryz.f3 rfl rfl rfl rfl rfl rfl rfl ⟨rfl, rfl, rfl, rfl, rfl⟩ rfl rfl rfl rfl rfl (by kernel_rfl) Tryz.func3 closed
    (of_decide_eq_true (by kernel_rfl)) (by unfold Func.isWrapper; first | (rw [if_pos (by decide +kernel)]; kernel_rfl) | (rw [if_neg (by decide +kernel)]; exact ⟨rfl, rfl⟩))
    (fun os started H enc _ => f_lifted os started H enc)

end Go.Proofs.YtkajahlgiglliaaGreatDoor
