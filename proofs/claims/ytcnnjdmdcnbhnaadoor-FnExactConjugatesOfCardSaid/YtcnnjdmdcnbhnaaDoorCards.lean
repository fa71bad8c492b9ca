/-
  DERIVED. GIVEN WITH THE SEED: THE CARDS: each row of YtcnnjdmdcnbhnaaDoorRows.lean that lists a variable, with what it lists TIED to the program's text (the seventh form; the later family's looks); each row that meets fmt, with fmt's text TOLD by the authors' own Lean function (tested against real Go, not proved from fmt's source: count such statements apart). THE CARD IS WHAT COUNTS. Prove the row's statement (the work); the ties are given (YtcnnjdmdcnbhnaaDoorTie.lean); close each card by the builder's one call (the guide's Derived/Test/ToyasCard.lean, 'card_holds'). Laid BY PROGRAM, IN A SANDBOX (cutbox-door.mjs). By AI agents, Wed Nov 11 2026. No macro, syntax, notation, axiom, sorry.
-/
import Derived.Test.YtcnnjdmdcnbhnaaDoorRows
import GoSem.ClaimSeven
namespace Go.Proofs.YtcnnjdmdcnbhnaaDoor
namespace Rows

/-- THE TIED CARD OF 'laws.FnExactConjugatesOf'. -/
def fnExactConjugatesOfCard : Claim7 := { stood := { row := fnExactConjugatesOfRow, standIns := [], harness := (true, "da23e271ecfcda36a84af89e05396c8d643b2dd466ae3c64b5352bbfc5e7d5f1"), looks := false }, kinds := [], alts := [], laidByText := true, laidKinds := [.data, .pinned], laidTests := true, laidLooks := .later }
def FnExactConjugatesOfCardSaid : Prop := Claim7.holds Tryd.pinned (.plain (OpenSpec.ofChange fnExactConjugatesOfSpec)) fnExactConjugatesOfCard

/-- THE SECOND FORM's CARD OF 'laws.FnExactConjugatesOf'. -/
def fnExactConjugatesOfUptoCard : Claim7 := { stood := { row := fnExactConjugatesOfUptoRow, standIns := [], harness := (true, "da23e271ecfcda36a84af89e05396c8d643b2dd466ae3c64b5352bbfc5e7d5f1"), looks := false }, kinds := [], alts := [], laidByText := true, laidKinds := [.data, .pinned], laidTests := true, laidLooks := .later }
def FnExactConjugatesOfUptoCardSaid : Prop := Claim7.holds Tryd.pinned (.plain (OpenSpec.upto fnExactConjugatesOfSpec)) fnExactConjugatesOfUptoCard
end Rows
end Go.Proofs.YtcnnjdmdcnbhnaaDoor
