/-
  DERIVED. GIVEN WITH THE SEED: THE CARDS: each row of YtdkcpdmpdpglbaaGreatDoorRows.lean that lists a variable, with what it lists TIED to the program's text (the seventh form; the later family's looks); each row that meets fmt, with fmt's text TOLD by the authors' own Lean function (tested against real Go, not proved from fmt's source: count such statements apart). THE CARD IS WHAT COUNTS. Prove the row's statement (the work); the ties are given (YtdkcpdmpdpglbaaGreatDoorTie.lean); close each card by the builder's one call (the guide's Derived/Test/ToyasCard.lean, 'card_holds'). Laid BY PROGRAM, IN A SANDBOX (cutbox-door.mjs). By AI agents, Wed Nov 11 2026. No macro, syntax, notation, axiom, sorry.
-/
import Derived.Test.YtdkcpdmpdpglbaaGreatDoorRows
import GoSem.ClaimSeven
namespace Go.Proofs.YtdkcpdmpdpglbaaGreatDoor
namespace Rows

/-- THE TIED CARD OF 'newsstandlaw23.IngestNobody'. -/
def ingestNobodyCard : Claim7 := { stood := { row := ingestNobodyRow, standIns := [], harness := (true, "81944032fea16b919b1f78f679babd5b18a61ac8fe899f7a8f2172113b0559b0"), looks := false }, kinds := [], alts := [], laidByText := true, laidKinds := [.data, .pinned], laidTests := true, laidLooks := .later }
def IngestNobodyCardSaid : Prop := Claim7.holds Tryz.pinned (.plain (OpenSpec.ofChange ingestNobodySpec)) ingestNobodyCard

/-- THE SECOND FORM's CARD OF 'newsstandlaw23.IngestNobody'. -/
def ingestNobodyUptoCard : Claim7 := { stood := { row := ingestNobodyUptoRow, standIns := [], harness := (true, "81944032fea16b919b1f78f679babd5b18a61ac8fe899f7a8f2172113b0559b0"), looks := false }, kinds := [], alts := [], laidByText := true, laidKinds := [.data, .pinned], laidTests := true, laidLooks := .later }
def IngestNobodyUptoCardSaid : Prop := Claim7.holds Tryz.pinned (.plain (OpenSpec.upto ingestNobodySpec)) ingestNobodyUptoCard
end Rows
end Go.Proofs.YtdkcpdmpdpglbaaGreatDoor
