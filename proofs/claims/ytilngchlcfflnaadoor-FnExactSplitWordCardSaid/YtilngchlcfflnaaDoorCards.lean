/-
  DERIVED. GIVEN WITH THE SEED: THE CARDS: each row of YtilngchlcfflnaaDoorRows.lean that lists a variable, with what it lists TIED to the program's text (the seventh form; the later family's looks); each row that meets fmt, with fmt's text TOLD by the authors' own Lean function (tested against real Go, not proved from fmt's source: count such statements apart). THE CARD IS WHAT COUNTS. Prove the row's statement (the work); the ties are given (YtilngchlcfflnaaDoorTie.lean); close each card by the builder's one call (the guide's Derived/Test/ToyasCard.lean, 'card_holds'). Laid BY PROGRAM, IN A SANDBOX (cutbox-door.mjs). By AI agents, Wed Nov 11 2026. No macro, syntax, notation, axiom, sorry.
-/
import Derived.Test.YtilngchlcfflnaaDoorRows
import GoSem.ClaimSeven
namespace Go.Proofs.YtilngchlcfflnaaDoor
namespace Rows

/-- THE TIED CARD OF 'laws.FnExactIsBalanced'. -/
def fnExactIsBalancedCard : Claim7 := { stood := { row := fnExactIsBalancedRow, standIns := [], harness := (true, "01f225857bbb87139cc3362189516b401b99a134c6d680a61019d5d6b4704619"), looks := false }, kinds := [], alts := [], laidByText := true, laidKinds := [.data, .pinned], laidTests := true, laidLooks := .later }
def FnExactIsBalancedCardSaid : Prop := Claim7.holds Tryd.pinned (.plain (OpenSpec.ofChange fnExactIsBalancedSpec)) fnExactIsBalancedCard

/-- THE TIED CARD OF 'laws.FnExactSlopeOfWord'. -/
def fnExactSlopeOfWordCard : Claim7 := { stood := { row := fnExactSlopeOfWordRow, standIns := [], harness := (true, "01f225857bbb87139cc3362189516b401b99a134c6d680a61019d5d6b4704619"), looks := false }, kinds := [], alts := [], laidByText := true, laidKinds := [.data, .pinned], laidTests := true, laidLooks := .later }
def FnExactSlopeOfWordCardSaid : Prop := Claim7.holds Tryd.pinned (.plain (OpenSpec.ofChange fnExactSlopeOfWordSpec)) fnExactSlopeOfWordCard

/-- THE TIED CARD OF 'laws.FnExactIsChristoffel'. -/
def fnExactIsChristoffelCard : Claim7 := { stood := { row := fnExactIsChristoffelRow, standIns := [], harness := (true, "01f225857bbb87139cc3362189516b401b99a134c6d680a61019d5d6b4704619"), looks := false }, kinds := [], alts := [], laidByText := true, laidKinds := [.data, .pinned], laidTests := true, laidLooks := .later }
def FnExactIsChristoffelCardSaid : Prop := Claim7.holds Tryd.pinned (.plain (OpenSpec.ofChange fnExactIsChristoffelSpec)) fnExactIsChristoffelCard

/-- THE TIED CARD OF 'laws.FnExactCentralPart'. -/
def fnExactCentralPartCard : Claim7 := { stood := { row := fnExactCentralPartRow, standIns := [], harness := (true, "01f225857bbb87139cc3362189516b401b99a134c6d680a61019d5d6b4704619"), looks := false }, kinds := [], alts := [], laidByText := true, laidKinds := [.data, .pinned], laidTests := true, laidLooks := .later }
def FnExactCentralPartCardSaid : Prop := Claim7.holds Tryd.pinned (.plain (OpenSpec.ofChange fnExactCentralPartSpec)) fnExactCentralPartCard

/-- THE TIED CARD OF 'laws.FnExactTermsOfWord'. -/
def fnExactTermsOfWordCard : Claim7 := { stood := { row := fnExactTermsOfWordRow, standIns := [], harness := (true, "01f225857bbb87139cc3362189516b401b99a134c6d680a61019d5d6b4704619"), looks := false }, kinds := [], alts := [], laidByText := true, laidKinds := [.data, .pinned], laidTests := true, laidLooks := .later }
def FnExactTermsOfWordCardSaid : Prop := Claim7.holds Tryd.pinned (.plain (OpenSpec.ofChange fnExactTermsOfWordSpec)) fnExactTermsOfWordCard

/-- THE TIED CARD OF 'laws.FnExactSplitWord'. -/
def fnExactSplitWordCard : Claim7 := { stood := { row := fnExactSplitWordRow, standIns := [], harness := (true, "01f225857bbb87139cc3362189516b401b99a134c6d680a61019d5d6b4704619"), looks := false }, kinds := [], alts := [], laidByText := true, laidKinds := [.data, .pinned], laidTests := true, laidLooks := .later }
def FnExactSplitWordCardSaid : Prop := Claim7.holds Tryd.pinned (.plain (OpenSpec.ofChange fnExactSplitWordSpec)) fnExactSplitWordCard

/-- THE TIED CARD OF 'laws.FnExactConjugatesOf'. -/
def fnExactConjugatesOfCard : Claim7 := { stood := { row := fnExactConjugatesOfRow, standIns := [], harness := (true, "01f225857bbb87139cc3362189516b401b99a134c6d680a61019d5d6b4704619"), looks := false }, kinds := [], alts := [], laidByText := true, laidKinds := [.data, .pinned], laidTests := true, laidLooks := .later }
def FnExactConjugatesOfCardSaid : Prop := Claim7.holds Tryd.pinned (.plain (OpenSpec.ofChange fnExactConjugatesOfSpec)) fnExactConjugatesOfCard

/-- THE TIED CARD OF 'laws.FnWords'. -/
def fnWordsCard : Claim7 := { stood := { row := fnWordsRow, standIns := [], harness := (true, "01f225857bbb87139cc3362189516b401b99a134c6d680a61019d5d6b4704619"), looks := false }, kinds := [], alts := [], laidByText := true, laidKinds := [.data, .pinned], laidTests := true, laidLooks := .later }
def FnWordsCardSaid : Prop := Claim7.holds Tryd.pinned (.plain (OpenSpec.ofChange fnWordsSpec)) fnWordsCard

/-- THE SECOND FORM's CARD OF 'laws.FnExactIsBalanced'. -/
def fnExactIsBalancedUptoCard : Claim7 := { stood := { row := fnExactIsBalancedUptoRow, standIns := [], harness := (true, "01f225857bbb87139cc3362189516b401b99a134c6d680a61019d5d6b4704619"), looks := false }, kinds := [], alts := [], laidByText := true, laidKinds := [.data, .pinned], laidTests := true, laidLooks := .later }
def FnExactIsBalancedUptoCardSaid : Prop := Claim7.holds Tryd.pinned (.plain (OpenSpec.upto fnExactIsBalancedSpec)) fnExactIsBalancedUptoCard

/-- THE SECOND FORM's CARD OF 'laws.FnExactSlopeOfWord'. -/
def fnExactSlopeOfWordUptoCard : Claim7 := { stood := { row := fnExactSlopeOfWordUptoRow, standIns := [], harness := (true, "01f225857bbb87139cc3362189516b401b99a134c6d680a61019d5d6b4704619"), looks := false }, kinds := [], alts := [], laidByText := true, laidKinds := [.data, .pinned], laidTests := true, laidLooks := .later }
def FnExactSlopeOfWordUptoCardSaid : Prop := Claim7.holds Tryd.pinned (.plain (OpenSpec.upto fnExactSlopeOfWordSpec)) fnExactSlopeOfWordUptoCard

/-- THE SECOND FORM's CARD OF 'laws.FnExactIsChristoffel'. -/
def fnExactIsChristoffelUptoCard : Claim7 := { stood := { row := fnExactIsChristoffelUptoRow, standIns := [], harness := (true, "01f225857bbb87139cc3362189516b401b99a134c6d680a61019d5d6b4704619"), looks := false }, kinds := [], alts := [], laidByText := true, laidKinds := [.data, .pinned], laidTests := true, laidLooks := .later }
def FnExactIsChristoffelUptoCardSaid : Prop := Claim7.holds Tryd.pinned (.plain (OpenSpec.upto fnExactIsChristoffelSpec)) fnExactIsChristoffelUptoCard

/-- THE SECOND FORM's CARD OF 'laws.FnExactCentralPart'. -/
def fnExactCentralPartUptoCard : Claim7 := { stood := { row := fnExactCentralPartUptoRow, standIns := [], harness := (true, "01f225857bbb87139cc3362189516b401b99a134c6d680a61019d5d6b4704619"), looks := false }, kinds := [], alts := [], laidByText := true, laidKinds := [.data, .pinned], laidTests := true, laidLooks := .later }
def FnExactCentralPartUptoCardSaid : Prop := Claim7.holds Tryd.pinned (.plain (OpenSpec.upto fnExactCentralPartSpec)) fnExactCentralPartUptoCard

/-- THE SECOND FORM's CARD OF 'laws.FnExactTermsOfWord'. -/
def fnExactTermsOfWordUptoCard : Claim7 := { stood := { row := fnExactTermsOfWordUptoRow, standIns := [], harness := (true, "01f225857bbb87139cc3362189516b401b99a134c6d680a61019d5d6b4704619"), looks := false }, kinds := [], alts := [], laidByText := true, laidKinds := [.data, .pinned], laidTests := true, laidLooks := .later }
def FnExactTermsOfWordUptoCardSaid : Prop := Claim7.holds Tryd.pinned (.plain (OpenSpec.upto fnExactTermsOfWordSpec)) fnExactTermsOfWordUptoCard

/-- THE SECOND FORM's CARD OF 'laws.FnExactSplitWord'. -/
def fnExactSplitWordUptoCard : Claim7 := { stood := { row := fnExactSplitWordUptoRow, standIns := [], harness := (true, "01f225857bbb87139cc3362189516b401b99a134c6d680a61019d5d6b4704619"), looks := false }, kinds := [], alts := [], laidByText := true, laidKinds := [.data, .pinned], laidTests := true, laidLooks := .later }
def FnExactSplitWordUptoCardSaid : Prop := Claim7.holds Tryd.pinned (.plain (OpenSpec.upto fnExactSplitWordSpec)) fnExactSplitWordUptoCard

/-- THE SECOND FORM's CARD OF 'laws.FnExactConjugatesOf'. -/
def fnExactConjugatesOfUptoCard : Claim7 := { stood := { row := fnExactConjugatesOfUptoRow, standIns := [], harness := (true, "01f225857bbb87139cc3362189516b401b99a134c6d680a61019d5d6b4704619"), looks := false }, kinds := [], alts := [], laidByText := true, laidKinds := [.data, .pinned], laidTests := true, laidLooks := .later }
def FnExactConjugatesOfUptoCardSaid : Prop := Claim7.holds Tryd.pinned (.plain (OpenSpec.upto fnExactConjugatesOfSpec)) fnExactConjugatesOfUptoCard

/-- THE SECOND FORM's CARD OF 'laws.FnWords'. -/
def fnWordsUptoCard : Claim7 := { stood := { row := fnWordsUptoRow, standIns := [], harness := (true, "01f225857bbb87139cc3362189516b401b99a134c6d680a61019d5d6b4704619"), looks := false }, kinds := [], alts := [], laidByText := true, laidKinds := [.data, .pinned], laidTests := true, laidLooks := .later }
def FnWordsUptoCardSaid : Prop := Claim7.holds Tryd.pinned (.plain (OpenSpec.upto fnWordsSpec)) fnWordsUptoCard
end Rows
end Go.Proofs.YtilngchlcfflnaaDoor
