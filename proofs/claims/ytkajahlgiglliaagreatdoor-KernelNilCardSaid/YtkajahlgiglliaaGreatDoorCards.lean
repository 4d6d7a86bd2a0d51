/-
  DERIVED. GIVEN WITH THE SEED: THE CARDS: each row of YtkajahlgiglliaaGreatDoorRows.lean that lists a variable, with what it lists TIED to the program's text (the seventh form; the later family's looks); each row that meets fmt, with fmt's text TOLD by the authors' own Lean function (tested against real Go, not proved from fmt's source: count such statements apart). THE CARD IS WHAT COUNTS. Prove the row's statement (the work); the ties are given (YtkajahlgiglliaaGreatDoorTie.lean); close each card by the builder's one call (the guide's Derived/Test/ToyasCard.lean, 'card_holds'). Laid BY PROGRAM, IN A SANDBOX (cutbox-door.mjs). By AI agents, Wed Nov 11 2026. No macro, syntax, notation, axiom, sorry.
-/
import Derived.Test.YtkajahlgiglliaaGreatDoorRows
import GoSem.ClaimSeven
namespace Go.Proofs.YtkajahlgiglliaaGreatDoor
namespace Rows

/-- THE TIED CARD OF 'davitlaw28.KernelNil'. -/
def kernelNilCard : Claim7 := { stood := { row := kernelNilRow, standIns := [], harness := (true, "461cd70ee7642cfbd42f99cd3de2b4add22fb04a6a84b779f5466ed39869ddc0"), looks := false }, kinds := [], alts := [], laidByText := true, laidKinds := [.data], laidTests := true, laidLooks := .later }
def KernelNilCardSaid : Prop := Claim7.holds Tryz.pinned (.plain (OpenSpec.ofChange kernelNilSpec)) kernelNilCard

/-- THE TIED CARD OF 'davitlaw36.FairPicks'. -/
def fairPicksCard : Claim7 := { stood := { row := fairPicksRow, standIns := [], harness := (true, "461cd70ee7642cfbd42f99cd3de2b4add22fb04a6a84b779f5466ed39869ddc0"), looks := false }, kinds := [], alts := [], laidByText := true, laidKinds := [.data], laidTests := true, laidLooks := .later }
def FairPicksCardSaid : Prop := Claim7.holds Tryz.pinned (.plain (OpenSpec.ofChange fairPicksSpec)) fairPicksCard

/-- THE SECOND FORM's CARD OF 'davitlaw28.KernelNil'. -/
def kernelNilUptoCard : Claim7 := { stood := { row := kernelNilUptoRow, standIns := [], harness := (true, "461cd70ee7642cfbd42f99cd3de2b4add22fb04a6a84b779f5466ed39869ddc0"), looks := false }, kinds := [], alts := [], laidByText := true, laidKinds := [.data], laidTests := true, laidLooks := .later }
def KernelNilUptoCardSaid : Prop := Claim7.holds Tryz.pinned (.plain (OpenSpec.upto kernelNilSpec)) kernelNilUptoCard

/-- THE SECOND FORM's CARD OF 'davitlaw36.FairPicks'. -/
def fairPicksUptoCard : Claim7 := { stood := { row := fairPicksUptoRow, standIns := [], harness := (true, "461cd70ee7642cfbd42f99cd3de2b4add22fb04a6a84b779f5466ed39869ddc0"), looks := false }, kinds := [], alts := [], laidByText := true, laidKinds := [.data], laidTests := true, laidLooks := .later }
def FairPicksUptoCardSaid : Prop := Claim7.holds Tryz.pinned (.plain (OpenSpec.upto fairPicksSpec)) fairPicksUptoCard
end Rows
end Go.Proofs.YtkajahlgiglliaaGreatDoor
