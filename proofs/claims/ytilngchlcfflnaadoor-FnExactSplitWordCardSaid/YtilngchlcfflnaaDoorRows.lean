/-
  NARROWER THAN 'FOR EVERY INPUT', by the rows' own cells (each row's printed sentence says how): FnExactIsBalanced: laid · FnExactSlopeOfWord: laid · FnExactIsChristoffel: laid · FnExactCentralPart: laid · FnExactTermsOfWord: laid · FnExactSplitWord: laid · FnExactConjugatesOf: laid · FnWords: laid.
  DERIVED. THE GIVEN ROWS OF THIS SEAT. 8 by the template 'for every input the law returns true; each argument reads behind the call as it read before'; 0 by the template 'total and deterministic' (their statements: YtilngchlcfflnaaDoorTotals.lean).
  GIVEN WITH THE SEED: the statements are not yours to turn. If you find one false, say at which input.
  Laid BY PROGRAM, IN A SANDBOX (cutbox-rows.mjs): the forced cells as the released guide's own fill.sh prints them over the translation 59a313acc87b0442… (all of the seat's roots in one cut). By AI agents, Wed Nov 11 2026. No macro, syntax, notation, axiom, sorry.
-/
import Derived.Test.YtilngchlcfflnaaDoorChecked
import GoSem.PinnedTables
import GoSem.Claim
import GoSem.ClaimJoined
import GoSem.ClaimMapViews
import Derived.JoinedTies
import Derived.KernelRfl
namespace Go.Proofs.YtilngchlcfflnaaDoor
/- THE CELL 'sum', in the pinned program and in every row, IS THE sha256 OF THE DUMP (.gsa) THAT YtilngchlcfflnaaDoorProg.lean LOADS. Nothing in Lean hashes anything: it is a label: what it is worth is what the hold of that sum in a sandbox is worth. -/
noncomputable def Tryd.pinned : Pinned := { name := "ytilngchlcfflnaadoor", sum := "59a313acc87b0442bdc76960f195e3ad5280a59f3450232d119d63cf09a15628", checked := Tryd.checked }
namespace Rows
def none {H : Type} : Left H := { results := [], args := [] }

/- WHAT THE LISTED PACKAGE-LEVEL VARIABLES READ AS WHEN THE CALL BEGINS. Each datum BY PROGRAM (the guide's laid-datum.mjs) off the statement by which the dump's own 'gosem.cut.vars' lays the variable. In a bare row this is a premise. The card (YtilngchlcfflnaaDoorCards.lean) ties it to the program's text. -/
def laid_unicode_utf8_acceptRanges {H : Type} : DataW H := .agg [.agg [.lit (.int .u8 128), .lit (.int .u8 191)], .agg [.lit (.int .u8 160), .lit (.int .u8 191)], .agg [.lit (.int .u8 128), .lit (.int .u8 159)], .agg [.lit (.int .u8 144), .lit (.int .u8 191)], .agg [.lit (.int .u8 128), .lit (.int .u8 143)], .agg [.lit (.int .u8 0), .lit (.int .u8 0)], .agg [.lit (.int .u8 0), .lit (.int .u8 0)], .agg [.lit (.int .u8 0), .lit (.int .u8 0)], .agg [.lit (.int .u8 0), .lit (.int .u8 0)], .agg [.lit (.int .u8 0), .lit (.int .u8 0)], .agg [.lit (.int .u8 0), .lit (.int .u8 0)], .agg [.lit (.int .u8 0), .lit (.int .u8 0)], .agg [.lit (.int .u8 0), .lit (.int .u8 0)], .agg [.lit (.int .u8 0), .lit (.int .u8 0)], .agg [.lit (.int .u8 0), .lit (.int .u8 0)], .agg [.lit (.int .u8 0), .lit (.int .u8 0)]]
/-- One of Go's own tables, pinned by name: the form's constant. -/
def laid_unicode_utf8_first : DataW Unit := Go.Pinned.utf8First

/-- 'laws.FnExactIsBalanced': WHATEVER THE INPUT: true; the input reads as it did. -/
def fnExactIsBalancedSpec : ChangeSpec := { name := "fnExactIsBalanced", fn := fun _ => fun
  | [d] => { results := [.lit (.bool true)], args := [d] }
  | _ => none }
def fnExactIsBalancedRow : OpenClaim := { program := "ytilngchlcfflnaadoor", sum := "59a313acc87b0442bdc76960f195e3ad5280a59f3450232d119d63cf09a15628", func := "loop.example/g01007/laws.FnExactIsBalanced", spec := "fnExactIsBalanced", inPlace := ["internal/bytealg.IndexByteString", "internal/bytealg.IndexString"], named := ["unicode/utf8.first", "unicode/utf8.acceptRanges", "internal/bytealg.MaxLen"], apart := false, laid := [("unicode/utf8.acceptRanges", laid_unicode_utf8_acceptRanges), ("unicode/utf8.first", laid_unicode_utf8_first)] }
def FnExactIsBalancedSaid : Prop := fnExactIsBalancedRow.holds Tryd.pinned (OpenSpec.ofChange fnExactIsBalancedSpec)

/-- ITS FALSE NEIGHBOUR: 'it returns false'. Refute it at one input. -/
def fnExactIsBalancedWrong : ChangeSpec := { name := "fnExactIsBalanced", fn := fun _ => fun
  | [d] => { results := [.lit (.bool false)], args := [d] }
  | _ => none }
def FnExactIsBalancedWrongFalsely : Prop := fnExactIsBalancedRow.holds Tryd.pinned (OpenSpec.ofChange fnExactIsBalancedWrong)

/-- 'laws.FnExactSlopeOfWord': WHATEVER THE INPUT: true; the input reads as it did. -/
def fnExactSlopeOfWordSpec : ChangeSpec := { name := "fnExactSlopeOfWord", fn := fun _ => fun
  | [d] => { results := [.lit (.bool true)], args := [d] }
  | _ => none }
def fnExactSlopeOfWordRow : OpenClaim := { program := "ytilngchlcfflnaadoor", sum := "59a313acc87b0442bdc76960f195e3ad5280a59f3450232d119d63cf09a15628", func := "loop.example/g01007/laws.FnExactSlopeOfWord", spec := "fnExactSlopeOfWord", inPlace := ["internal/bytealg.IndexByteString", "internal/bytealg.IndexString"], named := ["unicode/utf8.first", "unicode/utf8.acceptRanges", "internal/bytealg.MaxLen"], apart := false, laid := [("unicode/utf8.acceptRanges", laid_unicode_utf8_acceptRanges), ("unicode/utf8.first", laid_unicode_utf8_first)] }
def FnExactSlopeOfWordSaid : Prop := fnExactSlopeOfWordRow.holds Tryd.pinned (OpenSpec.ofChange fnExactSlopeOfWordSpec)

/-- ITS FALSE NEIGHBOUR: 'it returns false'. Refute it at one input. -/
def fnExactSlopeOfWordWrong : ChangeSpec := { name := "fnExactSlopeOfWord", fn := fun _ => fun
  | [d] => { results := [.lit (.bool false)], args := [d] }
  | _ => none }
def FnExactSlopeOfWordWrongFalsely : Prop := fnExactSlopeOfWordRow.holds Tryd.pinned (OpenSpec.ofChange fnExactSlopeOfWordWrong)

/-- 'laws.FnExactIsChristoffel': WHATEVER THE INPUT: true; the input reads as it did. -/
def fnExactIsChristoffelSpec : ChangeSpec := { name := "fnExactIsChristoffel", fn := fun _ => fun
  | [d] => { results := [.lit (.bool true)], args := [d] }
  | _ => none }
def fnExactIsChristoffelRow : OpenClaim := { program := "ytilngchlcfflnaadoor", sum := "59a313acc87b0442bdc76960f195e3ad5280a59f3450232d119d63cf09a15628", func := "loop.example/g01007/laws.FnExactIsChristoffel", spec := "fnExactIsChristoffel", inPlace := ["internal/bytealg.IndexByteString", "internal/bytealg.IndexString"], named := ["unicode/utf8.first", "unicode/utf8.acceptRanges", "internal/bytealg.MaxLen"], apart := false, laid := [("unicode/utf8.acceptRanges", laid_unicode_utf8_acceptRanges), ("unicode/utf8.first", laid_unicode_utf8_first)] }
def FnExactIsChristoffelSaid : Prop := fnExactIsChristoffelRow.holds Tryd.pinned (OpenSpec.ofChange fnExactIsChristoffelSpec)

/-- ITS FALSE NEIGHBOUR: 'it returns false'. Refute it at one input. -/
def fnExactIsChristoffelWrong : ChangeSpec := { name := "fnExactIsChristoffel", fn := fun _ => fun
  | [d] => { results := [.lit (.bool false)], args := [d] }
  | _ => none }
def FnExactIsChristoffelWrongFalsely : Prop := fnExactIsChristoffelRow.holds Tryd.pinned (OpenSpec.ofChange fnExactIsChristoffelWrong)

/-- 'laws.FnExactCentralPart': WHATEVER THE INPUT: true; the input reads as it did. -/
def fnExactCentralPartSpec : ChangeSpec := { name := "fnExactCentralPart", fn := fun _ => fun
  | [d] => { results := [.lit (.bool true)], args := [d] }
  | _ => none }
def fnExactCentralPartRow : OpenClaim := { program := "ytilngchlcfflnaadoor", sum := "59a313acc87b0442bdc76960f195e3ad5280a59f3450232d119d63cf09a15628", func := "loop.example/g01007/laws.FnExactCentralPart", spec := "fnExactCentralPart", inPlace := ["internal/bytealg.IndexByteString", "internal/bytealg.IndexString"], named := ["unicode/utf8.first", "unicode/utf8.acceptRanges", "internal/bytealg.MaxLen"], apart := false, laid := [("unicode/utf8.acceptRanges", laid_unicode_utf8_acceptRanges), ("unicode/utf8.first", laid_unicode_utf8_first)] }
def FnExactCentralPartSaid : Prop := fnExactCentralPartRow.holds Tryd.pinned (OpenSpec.ofChange fnExactCentralPartSpec)

/-- ITS FALSE NEIGHBOUR: 'it returns false'. Refute it at one input. -/
def fnExactCentralPartWrong : ChangeSpec := { name := "fnExactCentralPart", fn := fun _ => fun
  | [d] => { results := [.lit (.bool false)], args := [d] }
  | _ => none }
def FnExactCentralPartWrongFalsely : Prop := fnExactCentralPartRow.holds Tryd.pinned (OpenSpec.ofChange fnExactCentralPartWrong)

/-- 'laws.FnExactTermsOfWord': WHATEVER THE INPUT: true; the input reads as it did. -/
def fnExactTermsOfWordSpec : ChangeSpec := { name := "fnExactTermsOfWord", fn := fun _ => fun
  | [d] => { results := [.lit (.bool true)], args := [d] }
  | _ => none }
def fnExactTermsOfWordRow : OpenClaim := { program := "ytilngchlcfflnaadoor", sum := "59a313acc87b0442bdc76960f195e3ad5280a59f3450232d119d63cf09a15628", func := "loop.example/g01007/laws.FnExactTermsOfWord", spec := "fnExactTermsOfWord", inPlace := ["internal/bytealg.IndexByteString", "internal/bytealg.IndexString"], named := ["unicode/utf8.first", "unicode/utf8.acceptRanges", "internal/bytealg.MaxLen"], apart := false, laid := [("unicode/utf8.acceptRanges", laid_unicode_utf8_acceptRanges), ("unicode/utf8.first", laid_unicode_utf8_first)] }
def FnExactTermsOfWordSaid : Prop := fnExactTermsOfWordRow.holds Tryd.pinned (OpenSpec.ofChange fnExactTermsOfWordSpec)

/-- ITS FALSE NEIGHBOUR: 'it returns false'. Refute it at one input. -/
def fnExactTermsOfWordWrong : ChangeSpec := { name := "fnExactTermsOfWord", fn := fun _ => fun
  | [d] => { results := [.lit (.bool false)], args := [d] }
  | _ => none }
def FnExactTermsOfWordWrongFalsely : Prop := fnExactTermsOfWordRow.holds Tryd.pinned (OpenSpec.ofChange fnExactTermsOfWordWrong)

/-- 'laws.FnExactSplitWord': WHATEVER THE INPUT: true; the input reads as it did. -/
def fnExactSplitWordSpec : ChangeSpec := { name := "fnExactSplitWord", fn := fun _ => fun
  | [d] => { results := [.lit (.bool true)], args := [d] }
  | _ => none }
def fnExactSplitWordRow : OpenClaim := { program := "ytilngchlcfflnaadoor", sum := "59a313acc87b0442bdc76960f195e3ad5280a59f3450232d119d63cf09a15628", func := "loop.example/g01007/laws.FnExactSplitWord", spec := "fnExactSplitWord", inPlace := ["internal/bytealg.IndexByteString", "internal/bytealg.IndexString"], named := ["unicode/utf8.first", "unicode/utf8.acceptRanges", "internal/bytealg.MaxLen"], apart := false, laid := [("unicode/utf8.acceptRanges", laid_unicode_utf8_acceptRanges), ("unicode/utf8.first", laid_unicode_utf8_first)] }
def FnExactSplitWordSaid : Prop := fnExactSplitWordRow.holds Tryd.pinned (OpenSpec.ofChange fnExactSplitWordSpec)

/-- ITS FALSE NEIGHBOUR: 'it returns false'. Refute it at one input. -/
def fnExactSplitWordWrong : ChangeSpec := { name := "fnExactSplitWord", fn := fun _ => fun
  | [d] => { results := [.lit (.bool false)], args := [d] }
  | _ => none }
def FnExactSplitWordWrongFalsely : Prop := fnExactSplitWordRow.holds Tryd.pinned (OpenSpec.ofChange fnExactSplitWordWrong)

/-- 'laws.FnExactConjugatesOf': WHATEVER THE INPUT: true; the input reads as it did. -/
def fnExactConjugatesOfSpec : ChangeSpec := { name := "fnExactConjugatesOf", fn := fun _ => fun
  | [d] => { results := [.lit (.bool true)], args := [d] }
  | _ => none }
def fnExactConjugatesOfRow : OpenClaim := { program := "ytilngchlcfflnaadoor", sum := "59a313acc87b0442bdc76960f195e3ad5280a59f3450232d119d63cf09a15628", func := "loop.example/g01007/laws.FnExactConjugatesOf", spec := "fnExactConjugatesOf", inPlace := ["internal/bytealg.IndexByteString", "internal/bytealg.IndexString"], recurses := true, named := ["unicode/utf8.first", "unicode/utf8.acceptRanges", "internal/bytealg.MaxLen"], apart := false, laid := [("unicode/utf8.acceptRanges", laid_unicode_utf8_acceptRanges), ("unicode/utf8.first", laid_unicode_utf8_first)] }
def FnExactConjugatesOfSaid : Prop := fnExactConjugatesOfRow.holds Tryd.pinned (OpenSpec.ofChange fnExactConjugatesOfSpec)

/-- ITS FALSE NEIGHBOUR: 'it returns false'. Refute it at one input. -/
def fnExactConjugatesOfWrong : ChangeSpec := { name := "fnExactConjugatesOf", fn := fun _ => fun
  | [d] => { results := [.lit (.bool false)], args := [d] }
  | _ => none }
def FnExactConjugatesOfWrongFalsely : Prop := fnExactConjugatesOfRow.holds Tryd.pinned (OpenSpec.ofChange fnExactConjugatesOfWrong)

/-- 'laws.FnWords': WHATEVER THE INPUT: true; the input reads as it did. -/
def fnWordsSpec : ChangeSpec := { name := "fnWords", fn := fun _ => fun
  | [d] => { results := [.lit (.bool true)], args := [d] }
  | _ => none }
def fnWordsRow : OpenClaim := { program := "ytilngchlcfflnaadoor", sum := "59a313acc87b0442bdc76960f195e3ad5280a59f3450232d119d63cf09a15628", func := "loop.example/g01007/laws.FnWords", spec := "fnWords", inPlace := ["internal/bytealg.IndexByteString", "internal/bytealg.IndexString"], named := ["unicode/utf8.first", "unicode/utf8.acceptRanges", "internal/bytealg.MaxLen"], apart := false, laid := [("unicode/utf8.acceptRanges", laid_unicode_utf8_acceptRanges), ("unicode/utf8.first", laid_unicode_utf8_first)] }
def FnWordsSaid : Prop := fnWordsRow.holds Tryd.pinned (OpenSpec.ofChange fnWordsSpec)

/-- ITS FALSE NEIGHBOUR: 'it returns false'. Refute it at one input. -/
def fnWordsWrong : ChangeSpec := { name := "fnWords", fn := fun _ => fun
  | [d] => { results := [.lit (.bool false)], args := [d] }
  | _ => none }
def FnWordsWrongFalsely : Prop := fnWordsRow.holds Tryd.pinned (OpenSpec.ofChange fnWordsWrong)

/- THE SECOND FORM. 'bulk': how many values and letters a reading holds, each counted each time it is reached (what is shared counts as often as it is met; a slice's spare places count too). A statement '..UptoSaid' is the law's where the arguments, and the package variables that the reading takes, are together of bulk at most 1048576: NARROWER than '..Said'. Prove '..Said' where nothing that the law and all that it calls make is longer than what came in: it says more and counts as full. Else prove '..UptoSaid'. A law counts once. -/
mutual
def uptoBulk {H : Type} : DataW H → Nat
  | .lit (.string bytes) => bytes.length + 1
  | .lit _ => 1
  | .nil => 1
  | .ptr d => uptoBulk d + 1
  | .slice elems spare => uptoBulkAll elems + uptoBulkAll spare + 1
  | .agg parts => uptoBulkAll parts + 1
  | .iface _ d => uptoBulk d + 1
  | .map entries => uptoBulkEntries entries + 1
  | .held _ => 1
def uptoBulkAll {H : Type} : List (DataW H) → Nat
  | [] => 0
  | d :: r => uptoBulk d + uptoBulkAll r
def uptoBulkEntries {H : Type} : List (Lit × DataW H) → Nat
  | [] => 0
  | x :: r => uptoBulkEntry x + uptoBulkEntries r
def uptoBulkEntry {H : Type} : Lit × DataW H → Nat
  | (.string bytes, d) => bytes.length + uptoBulk d + 1
  | (_, d) => uptoBulk d + 1
 end
def uptoSmall : (H : Type) → List (DataW H) → Bool := fun _ ds => decide (uptoBulkAll ds ≤ 1048576)
def OpenSpec.upto (s : _root_.Go.ChangeSpec) : _root_.Go.OpenSpec := { _root_.Go.OpenSpec.ofChange s with cond := some uptoSmall }

/-- 'laws.FnExactIsBalanced', WHERE WHAT IT READS IS OF BULK AT MOST 1048576: true; the input reads as it did. -/
def fnExactIsBalancedUptoRow : OpenClaim := { program := "ytilngchlcfflnaadoor", sum := "59a313acc87b0442bdc76960f195e3ad5280a59f3450232d119d63cf09a15628", func := "loop.example/g01007/laws.FnExactIsBalanced", spec := "fnExactIsBalanced", inPlace := ["internal/bytealg.IndexByteString", "internal/bytealg.IndexString"], named := ["unicode/utf8.first", "unicode/utf8.acceptRanges", "internal/bytealg.MaxLen"], apart := false, laid := [("unicode/utf8.acceptRanges", laid_unicode_utf8_acceptRanges), ("unicode/utf8.first", laid_unicode_utf8_first)], narrowed := true }
def FnExactIsBalancedUptoSaid : Prop := fnExactIsBalancedUptoRow.holds Tryd.pinned (OpenSpec.upto fnExactIsBalancedSpec)

/-- 'laws.FnExactSlopeOfWord', WHERE WHAT IT READS IS OF BULK AT MOST 1048576: true; the input reads as it did. -/
def fnExactSlopeOfWordUptoRow : OpenClaim := { program := "ytilngchlcfflnaadoor", sum := "59a313acc87b0442bdc76960f195e3ad5280a59f3450232d119d63cf09a15628", func := "loop.example/g01007/laws.FnExactSlopeOfWord", spec := "fnExactSlopeOfWord", inPlace := ["internal/bytealg.IndexByteString", "internal/bytealg.IndexString"], named := ["unicode/utf8.first", "unicode/utf8.acceptRanges", "internal/bytealg.MaxLen"], apart := false, laid := [("unicode/utf8.acceptRanges", laid_unicode_utf8_acceptRanges), ("unicode/utf8.first", laid_unicode_utf8_first)], narrowed := true }
def FnExactSlopeOfWordUptoSaid : Prop := fnExactSlopeOfWordUptoRow.holds Tryd.pinned (OpenSpec.upto fnExactSlopeOfWordSpec)

/-- 'laws.FnExactIsChristoffel', WHERE WHAT IT READS IS OF BULK AT MOST 1048576: true; the input reads as it did. -/
def fnExactIsChristoffelUptoRow : OpenClaim := { program := "ytilngchlcfflnaadoor", sum := "59a313acc87b0442bdc76960f195e3ad5280a59f3450232d119d63cf09a15628", func := "loop.example/g01007/laws.FnExactIsChristoffel", spec := "fnExactIsChristoffel", inPlace := ["internal/bytealg.IndexByteString", "internal/bytealg.IndexString"], named := ["unicode/utf8.first", "unicode/utf8.acceptRanges", "internal/bytealg.MaxLen"], apart := false, laid := [("unicode/utf8.acceptRanges", laid_unicode_utf8_acceptRanges), ("unicode/utf8.first", laid_unicode_utf8_first)], narrowed := true }
def FnExactIsChristoffelUptoSaid : Prop := fnExactIsChristoffelUptoRow.holds Tryd.pinned (OpenSpec.upto fnExactIsChristoffelSpec)

/-- 'laws.FnExactCentralPart', WHERE WHAT IT READS IS OF BULK AT MOST 1048576: true; the input reads as it did. -/
def fnExactCentralPartUptoRow : OpenClaim := { program := "ytilngchlcfflnaadoor", sum := "59a313acc87b0442bdc76960f195e3ad5280a59f3450232d119d63cf09a15628", func := "loop.example/g01007/laws.FnExactCentralPart", spec := "fnExactCentralPart", inPlace := ["internal/bytealg.IndexByteString", "internal/bytealg.IndexString"], named := ["unicode/utf8.first", "unicode/utf8.acceptRanges", "internal/bytealg.MaxLen"], apart := false, laid := [("unicode/utf8.acceptRanges", laid_unicode_utf8_acceptRanges), ("unicode/utf8.first", laid_unicode_utf8_first)], narrowed := true }
def FnExactCentralPartUptoSaid : Prop := fnExactCentralPartUptoRow.holds Tryd.pinned (OpenSpec.upto fnExactCentralPartSpec)

/-- 'laws.FnExactTermsOfWord', WHERE WHAT IT READS IS OF BULK AT MOST 1048576: true; the input reads as it did. -/
def fnExactTermsOfWordUptoRow : OpenClaim := { program := "ytilngchlcfflnaadoor", sum := "59a313acc87b0442bdc76960f195e3ad5280a59f3450232d119d63cf09a15628", func := "loop.example/g01007/laws.FnExactTermsOfWord", spec := "fnExactTermsOfWord", inPlace := ["internal/bytealg.IndexByteString", "internal/bytealg.IndexString"], named := ["unicode/utf8.first", "unicode/utf8.acceptRanges", "internal/bytealg.MaxLen"], apart := false, laid := [("unicode/utf8.acceptRanges", laid_unicode_utf8_acceptRanges), ("unicode/utf8.first", laid_unicode_utf8_first)], narrowed := true }
def FnExactTermsOfWordUptoSaid : Prop := fnExactTermsOfWordUptoRow.holds Tryd.pinned (OpenSpec.upto fnExactTermsOfWordSpec)

/-- 'laws.FnExactSplitWord', WHERE WHAT IT READS IS OF BULK AT MOST 1048576: true; the input reads as it did. -/
def fnExactSplitWordUptoRow : OpenClaim := { program := "ytilngchlcfflnaadoor", sum := "59a313acc87b0442bdc76960f195e3ad5280a59f3450232d119d63cf09a15628", func := "loop.example/g01007/laws.FnExactSplitWord", spec := "fnExactSplitWord", inPlace := ["internal/bytealg.IndexByteString", "internal/bytealg.IndexString"], named := ["unicode/utf8.first", "unicode/utf8.acceptRanges", "internal/bytealg.MaxLen"], apart := false, laid := [("unicode/utf8.acceptRanges", laid_unicode_utf8_acceptRanges), ("unicode/utf8.first", laid_unicode_utf8_first)], narrowed := true }
def FnExactSplitWordUptoSaid : Prop := fnExactSplitWordUptoRow.holds Tryd.pinned (OpenSpec.upto fnExactSplitWordSpec)

/-- 'laws.FnExactConjugatesOf', WHERE WHAT IT READS IS OF BULK AT MOST 1048576: true; the input reads as it did. -/
def fnExactConjugatesOfUptoRow : OpenClaim := { program := "ytilngchlcfflnaadoor", sum := "59a313acc87b0442bdc76960f195e3ad5280a59f3450232d119d63cf09a15628", func := "loop.example/g01007/laws.FnExactConjugatesOf", spec := "fnExactConjugatesOf", inPlace := ["internal/bytealg.IndexByteString", "internal/bytealg.IndexString"], recurses := true, named := ["unicode/utf8.first", "unicode/utf8.acceptRanges", "internal/bytealg.MaxLen"], apart := false, laid := [("unicode/utf8.acceptRanges", laid_unicode_utf8_acceptRanges), ("unicode/utf8.first", laid_unicode_utf8_first)], narrowed := true }
def FnExactConjugatesOfUptoSaid : Prop := fnExactConjugatesOfUptoRow.holds Tryd.pinned (OpenSpec.upto fnExactConjugatesOfSpec)

/-- 'laws.FnWords', WHERE WHAT IT READS IS OF BULK AT MOST 1048576: true; the input reads as it did. -/
def fnWordsUptoRow : OpenClaim := { program := "ytilngchlcfflnaadoor", sum := "59a313acc87b0442bdc76960f195e3ad5280a59f3450232d119d63cf09a15628", func := "loop.example/g01007/laws.FnWords", spec := "fnWords", inPlace := ["internal/bytealg.IndexByteString", "internal/bytealg.IndexString"], named := ["unicode/utf8.first", "unicode/utf8.acceptRanges", "internal/bytealg.MaxLen"], apart := false, laid := [("unicode/utf8.acceptRanges", laid_unicode_utf8_acceptRanges), ("unicode/utf8.first", laid_unicode_utf8_first)], narrowed := true }
def FnWordsUptoSaid : Prop := fnWordsUptoRow.holds Tryd.pinned (OpenSpec.upto fnWordsSpec)

end Rows
end Go.Proofs.YtilngchlcfflnaaDoor
