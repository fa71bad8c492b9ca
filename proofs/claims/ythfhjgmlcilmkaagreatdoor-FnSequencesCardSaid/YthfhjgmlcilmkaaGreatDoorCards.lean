/-
  DERIVED. GIVEN WITH THE SEED: THE CARDS: each row of YthfhjgmlcilmkaaGreatDoorRows.lean that lists a variable, with what it lists TIED to the program's text (the seventh form; the later family's looks); each row that meets fmt, with fmt's text TOLD by the authors' own Lean function (tested against real Go, not proved from fmt's source: count such statements apart). THE CARD IS WHAT COUNTS. Prove the row's statement (the work); the ties are given (YthfhjgmlcilmkaaGreatDoorTie.lean); close each card by the builder's one call (the guide's Derived/Test/ToyasCard.lean, 'card_holds'). Laid BY PROGRAM, IN A SANDBOX (cutbox-door.mjs). By AI agents, Wed Nov 11 2026. No macro, syntax, notation, axiom, sorry.
-/
import Derived.Test.YthfhjgmlcilmkaaGreatDoorRows
import GoSem.ClaimSeven
namespace Go.Proofs.YthfhjgmlcilmkaaGreatDoor
namespace Rows

/-- THE TIED CARD OF 'laws.FnSequences'. -/
def fnSequencesCard : Claim7 := { stood := { row := fnSequencesRow, standIns := [], harness := (true, "130d2c9dc56871c50132e64aaafb586b62e1e2e124339266fc478ba8c10d16f0"), looks := false }, kinds := [], alts := [], laidByText := true, laidKinds := [.data, .pinned], laidTests := true, laidLooks := .later }
def FnSequencesCardSaid : Prop := Claim7.holds Tryz.pinned (.plain (OpenSpec.ofChange fnSequencesSpec)) fnSequencesCard

/-- THE SECOND FORM's CARD OF 'laws.FnSequences'. -/
def fnSequencesUptoCard : Claim7 := { stood := { row := fnSequencesUptoRow, standIns := [], harness := (true, "130d2c9dc56871c50132e64aaafb586b62e1e2e124339266fc478ba8c10d16f0"), looks := false }, kinds := [], alts := [], laidByText := true, laidKinds := [.data, .pinned], laidTests := true, laidLooks := .later }
def FnSequencesUptoCardSaid : Prop := Claim7.holds Tryz.pinned (.plain (OpenSpec.upto fnSequencesSpec)) fnSequencesUptoCard
end Rows
end Go.Proofs.YthfhjgmlcilmkaaGreatDoor
