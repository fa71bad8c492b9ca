/-
  DERIVED. GIVEN WITH THE SEED: THE CARDS: each row of YtikpiigamnpafaaDoorRows.lean that lists a variable, with what it lists TIED to the program's text (the seventh form; the later family's looks); each row that meets fmt, with fmt's text TOLD by the authors' own Lean function (tested against real Go, not proved from fmt's source: count such statements apart). THE CARD IS WHAT COUNTS. Prove the row's statement (the work); the ties are given (YtikpiigamnpafaaDoorTie.lean); close each card by the builder's one call (the guide's Derived/Test/ToyasCard.lean, 'card_holds'). Laid BY PROGRAM, IN A SANDBOX (cutbox-door.mjs). By AI agents, Wed Nov 11 2026. No macro, syntax, notation, axiom, sorry.
-/
import Derived.Test.YtikpiigamnpafaaDoorRows
import GoSem.ClaimSeven
namespace Go.Proofs.YtikpiigamnpafaaDoor
namespace Rows

/-- THE TIED CARD OF 'laws.FnExactLinearText'. -/
def fnExactLinearTextCard : Claim7 := { stood := { row := fnExactLinearTextRow, standIns := [], harness := (true, "dfada99610514575daf5ae00c7488cb3a2d6cdd211b4beca914f5a1596dc71e8"), looks := false }, kinds := [], alts := [], laidByText := true, laidKinds := [.data, .data, .data], laidTests := true, laidLooks := .later }
def FnExactLinearTextCardSaid : Prop := Claim7.holds Tryd.pinned (.plain (OpenSpec.ofChange fnExactLinearTextSpec)) fnExactLinearTextCard

/-- THE TIED CARD OF 'laws.FnExactTripleText'. -/
def fnExactTripleTextCard : Claim7 := { stood := { row := fnExactTripleTextRow, standIns := [], harness := (true, "dfada99610514575daf5ae00c7488cb3a2d6cdd211b4beca914f5a1596dc71e8"), looks := false }, kinds := [], alts := [], laidByText := true, laidKinds := [.data, .data, .data], laidTests := true, laidLooks := .later }
def FnExactTripleTextCardSaid : Prop := Claim7.holds Tryd.pinned (.plain (OpenSpec.ofChange fnExactTripleTextSpec)) fnExactTripleTextCard

/-- THE TIED CARD OF 'laws.FnLinear'. -/
def fnLinearCard : Claim7 := { stood := { row := fnLinearRow, standIns := [], harness := (true, "dfada99610514575daf5ae00c7488cb3a2d6cdd211b4beca914f5a1596dc71e8"), looks := false }, kinds := [], alts := [], laidByText := true, laidKinds := [.data, .data, .data], laidTests := true, laidLooks := .later }
def FnLinearCardSaid : Prop := Claim7.holds Tryd.pinned (.plain (OpenSpec.ofChange fnLinearSpec)) fnLinearCard

/-- THE TIED CARD OF 'laws.FnMarkov'. -/
def fnMarkovCard : Claim7 := { stood := { row := fnMarkovRow, standIns := [], harness := (true, "dfada99610514575daf5ae00c7488cb3a2d6cdd211b4beca914f5a1596dc71e8"), looks := false }, kinds := [], alts := [], laidByText := true, laidKinds := [.data, .data, .data], laidTests := true, laidLooks := .later }
def FnMarkovCardSaid : Prop := Claim7.holds Tryd.pinned (.plain (OpenSpec.ofChange fnMarkovSpec)) fnMarkovCard

/-- THE SECOND FORM's CARD OF 'laws.FnExactLinearText'. -/
def fnExactLinearTextUptoCard : Claim7 := { stood := { row := fnExactLinearTextUptoRow, standIns := [], harness := (true, "dfada99610514575daf5ae00c7488cb3a2d6cdd211b4beca914f5a1596dc71e8"), looks := false }, kinds := [], alts := [], laidByText := true, laidKinds := [.data, .data, .data], laidTests := true, laidLooks := .later }
def FnExactLinearTextUptoCardSaid : Prop := Claim7.holds Tryd.pinned (.plain (OpenSpec.upto fnExactLinearTextSpec)) fnExactLinearTextUptoCard

/-- THE SECOND FORM's CARD OF 'laws.FnExactTripleText'. -/
def fnExactTripleTextUptoCard : Claim7 := { stood := { row := fnExactTripleTextUptoRow, standIns := [], harness := (true, "dfada99610514575daf5ae00c7488cb3a2d6cdd211b4beca914f5a1596dc71e8"), looks := false }, kinds := [], alts := [], laidByText := true, laidKinds := [.data, .data, .data], laidTests := true, laidLooks := .later }
def FnExactTripleTextUptoCardSaid : Prop := Claim7.holds Tryd.pinned (.plain (OpenSpec.upto fnExactTripleTextSpec)) fnExactTripleTextUptoCard

/-- THE SECOND FORM's CARD OF 'laws.FnLinear'. -/
def fnLinearUptoCard : Claim7 := { stood := { row := fnLinearUptoRow, standIns := [], harness := (true, "dfada99610514575daf5ae00c7488cb3a2d6cdd211b4beca914f5a1596dc71e8"), looks := false }, kinds := [], alts := [], laidByText := true, laidKinds := [.data, .data, .data], laidTests := true, laidLooks := .later }
def FnLinearUptoCardSaid : Prop := Claim7.holds Tryd.pinned (.plain (OpenSpec.upto fnLinearSpec)) fnLinearUptoCard

/-- THE SECOND FORM's CARD OF 'laws.FnMarkov'. -/
def fnMarkovUptoCard : Claim7 := { stood := { row := fnMarkovUptoRow, standIns := [], harness := (true, "dfada99610514575daf5ae00c7488cb3a2d6cdd211b4beca914f5a1596dc71e8"), looks := false }, kinds := [], alts := [], laidByText := true, laidKinds := [.data, .data, .data], laidTests := true, laidLooks := .later }
def FnMarkovUptoCardSaid : Prop := Claim7.holds Tryd.pinned (.plain (OpenSpec.upto fnMarkovSpec)) fnMarkovUptoCard
end Rows
end Go.Proofs.YtikpiigamnpafaaDoor
