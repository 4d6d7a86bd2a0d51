/- What there is not: the card. -/
import Derived.Test.YtkajahlgiglliaaGreatDoorN6
import Derived.Test.YtkajahlgiglliaaGreatDoorNG
set_option maxRecDepth 100000
namespace Go.Proofs.YtkajahlgiglliaaGreatDoor
open Go

theorem cMain : Tryz.prog.mainIs = some (true, "461cd70ee7642cfbd42f99cd3de2b4add22fb04a6a84b779f5466ed39869ddc0".toList) := by kernel_rfl
theorem cLooks : false = Tryz.prog.looks [] := by kernel_rfl
theorem cWf : Rows.kernelNilRow.wfByText (OpenSpec.ofChange Rows.kernelNilSpec) = true := by kernel_rfl

theorem kernelNilCard_holds : Rows.KernelNilCardSaid :=
  Claim7.holds_tied_plain_at .later [] [.data] true (true, "461cd70ee7642cfbd42f99cd3de2b4add22fb04a6a84b779f5466ed39869ddc0") false
    kernelNil_holds (fun _ h => by cases h) cWf (fun _ h => by cases h) kernelNil_row_tie rfl ⟨rfl, rfl⟩ cMain rfl
    (fun f fn hf hfn => by
      obtain rfl : f = 3 := Option.some.inj ((show Tryz.prog.funcNamed "davit/davitlaw28.KernelNil" = some 3 by kernel_rfl).symm.trans hf) |>.symm
      obtain rfl : fn = Tryz.f3 := (Option.some.inj (Tryz.func3.symm.trans hfn)).symm
      exact ⟨cLooks, fun j t ht => by
        rw [Tryz.params3] at ht
        have hm : t ∈ [24] := by simpa using Array.mem_of_getElem? ht
        have hall : ([24].all fun u => !Tryz.prog.wantsStandIn u) = true := by kernel_rfl
        exact (show Tryz.prog.wantsStandIn t = false by simpa using List.all_eq_true.1 hall t hm)⟩)
    cGoes

end Go.Proofs.YtkajahlgiglliaaGreatDoor
