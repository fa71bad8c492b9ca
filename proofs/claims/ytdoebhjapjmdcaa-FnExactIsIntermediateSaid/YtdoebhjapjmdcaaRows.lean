/-
  No cell of these rows narrows 'for every input' (looked for: loops, veiled, ifaces, maps, wideKeys, modest, calm, conditions, laid).
  DERIVED. THE GIVEN ROWS OF THIS SEAT. 6 by the template 'for every input the law returns true; each argument reads behind the call as it read before'; 0 by the template 'total and deterministic' (their statements: YtdoebhjapjmdcaaTotals.lean).
  GIVEN WITH THE SEED: the statements are not yours to turn. If you find one false, say at which input.
  Laid BY PROGRAM, IN A SANDBOX (cutbox-rows.mjs): the forced cells as the released guide's own fill.sh prints them over the translation ee06df1a19b3b9b7… (all of the seat's roots in one cut). By AI agents, Wed Nov 11 2026. No macro, syntax, notation, axiom, sorry.
-/
import Derived.Test.YtdoebhjapjmdcaaChecked
import GoSem.Claim
import GoSem.ClaimJoined
import GoSem.ClaimMapViews
import Derived.JoinedTies
import Derived.KernelRfl
namespace Go.Proofs.Ytdoebhjapjmdcaa
/- THE CELL 'sum', in the pinned program and in every row, IS THE sha256 OF THE DUMP (.gsa) THAT YtdoebhjapjmdcaaProg.lean LOADS. Nothing in Lean hashes anything: it is a label: what it is worth is what the hold of that sum in a sandbox is worth. -/
noncomputable def Try.pinned : Pinned := { name := "ytdoebhjapjmdcaa", sum := "ee06df1a19b3b9b7d1e8037618ae64ba6394a970a5a99b0a647c631c05a7ba5d", checked := Try.checked }
namespace Rows
def none {H : Type} : Left H := { results := [], args := [] }

/-- 'laws.FnExactBestBelow': WHATEVER THE INPUT: true; the input reads as it did. -/
def fnExactBestBelowSpec : ChangeSpec := { name := "fnExactBestBelow", fn := fun _ => fun
  | [d1, d2] => { results := [.lit (.bool true)], args := [d1, d2] }
  | _ => none }
def fnExactBestBelowRow : OpenClaim := { program := "ytdoebhjapjmdcaa", sum := "ee06df1a19b3b9b7d1e8037618ae64ba6394a970a5a99b0a647c631c05a7ba5d", func := "loop.example/g01007/laws.FnExactBestBelow", spec := "fnExactBestBelow", apart := false }
def FnExactBestBelowSaid : Prop := fnExactBestBelowRow.holds Try.pinned (OpenSpec.ofChange fnExactBestBelowSpec)

/-- ITS FALSE NEIGHBOUR: 'it returns false'. Refute it at one input. -/
def fnExactBestBelowWrong : ChangeSpec := { name := "fnExactBestBelow", fn := fun _ => fun
  | [d1, d2] => { results := [.lit (.bool false)], args := [d1, d2] }
  | _ => none }
def FnExactBestBelowWrongFalsely : Prop := fnExactBestBelowRow.holds Try.pinned (OpenSpec.ofChange fnExactBestBelowWrong)

/-- 'laws.FnExactIsIntermediate': WHATEVER THE INPUT: true; the input reads as it did. -/
def fnExactIsIntermediateSpec : ChangeSpec := { name := "fnExactIsIntermediate", fn := fun _ => fun
  | [d1, d2] => { results := [.lit (.bool true)], args := [d1, d2] }
  | _ => none }
def fnExactIsIntermediateRow : OpenClaim := { program := "ytdoebhjapjmdcaa", sum := "ee06df1a19b3b9b7d1e8037618ae64ba6394a970a5a99b0a647c631c05a7ba5d", func := "loop.example/g01007/laws.FnExactIsIntermediate", spec := "fnExactIsIntermediate", unfollowed := true, recurses := true, apart := false }
def FnExactIsIntermediateSaid : Prop := fnExactIsIntermediateRow.holds Try.pinned (OpenSpec.ofChange fnExactIsIntermediateSpec)

/-- ITS FALSE NEIGHBOUR: 'it returns false'. Refute it at one input. -/
def fnExactIsIntermediateWrong : ChangeSpec := { name := "fnExactIsIntermediate", fn := fun _ => fun
  | [d1, d2] => { results := [.lit (.bool false)], args := [d1, d2] }
  | _ => none }
def FnExactIsIntermediateWrongFalsely : Prop := fnExactIsIntermediateRow.holds Try.pinned (OpenSpec.ofChange fnExactIsIntermediateWrong)

/-- 'laws.FnExactStepsBetween': WHATEVER THE INPUT: true; the input reads as it did. -/
def fnExactStepsBetweenSpec : ChangeSpec := { name := "fnExactStepsBetween", fn := fun _ => fun
  | [d1, d2] => { results := [.lit (.bool true)], args := [d1, d2] }
  | _ => none }
def fnExactStepsBetweenRow : OpenClaim := { program := "ytdoebhjapjmdcaa", sum := "ee06df1a19b3b9b7d1e8037618ae64ba6394a970a5a99b0a647c631c05a7ba5d", func := "loop.example/g01007/laws.FnExactStepsBetween", spec := "fnExactStepsBetween", unfollowed := true, recurses := true, apart := false }
def FnExactStepsBetweenSaid : Prop := fnExactStepsBetweenRow.holds Try.pinned (OpenSpec.ofChange fnExactStepsBetweenSpec)

/-- ITS FALSE NEIGHBOUR: 'it returns false'. Refute it at one input. -/
def fnExactStepsBetweenWrong : ChangeSpec := { name := "fnExactStepsBetween", fn := fun _ => fun
  | [d1, d2] => { results := [.lit (.bool false)], args := [d1, d2] }
  | _ => none }
def FnExactStepsBetweenWrongFalsely : Prop := fnExactStepsBetweenRow.holds Try.pinned (OpenSpec.ofChange fnExactStepsBetweenWrong)

/-- 'laws.FnExactIntermediatesOf': WHATEVER THE INPUT: true; the input reads as it did. -/
def fnExactIntermediatesOfSpec : ChangeSpec := { name := "fnExactIntermediatesOf", fn := fun _ => fun
  | [d] => { results := [.lit (.bool true)], args := [d] }
  | _ => none }
def fnExactIntermediatesOfRow : OpenClaim := { program := "ytdoebhjapjmdcaa", sum := "ee06df1a19b3b9b7d1e8037618ae64ba6394a970a5a99b0a647c631c05a7ba5d", func := "loop.example/g01007/laws.FnExactIntermediatesOf", spec := "fnExactIntermediatesOf", unfollowed := true, recurses := true, apart := false }
def FnExactIntermediatesOfSaid : Prop := fnExactIntermediatesOfRow.holds Try.pinned (OpenSpec.ofChange fnExactIntermediatesOfSpec)

/-- ITS FALSE NEIGHBOUR: 'it returns false'. Refute it at one input. -/
def fnExactIntermediatesOfWrong : ChangeSpec := { name := "fnExactIntermediatesOf", fn := fun _ => fun
  | [d] => { results := [.lit (.bool false)], args := [d] }
  | _ => none }
def FnExactIntermediatesOfWrongFalsely : Prop := fnExactIntermediatesOfRow.holds Try.pinned (OpenSpec.ofChange fnExactIntermediatesOfWrong)

/-- 'laws.FnOneSided': WHATEVER THE INPUT: true; the input reads as it did. -/
def fnOneSidedSpec : ChangeSpec := { name := "fnOneSided", fn := fun _ => fun
  | [d] => { results := [.lit (.bool true)], args := [d] }
  | _ => none }
def fnOneSidedRow : OpenClaim := { program := "ytdoebhjapjmdcaa", sum := "ee06df1a19b3b9b7d1e8037618ae64ba6394a970a5a99b0a647c631c05a7ba5d", func := "loop.example/g01007/laws.FnOneSided", spec := "fnOneSided", apart := false }
def FnOneSidedSaid : Prop := fnOneSidedRow.holds Try.pinned (OpenSpec.ofChange fnOneSidedSpec)

/-- ITS FALSE NEIGHBOUR: 'it returns false'. Refute it at one input. -/
def fnOneSidedWrong : ChangeSpec := { name := "fnOneSided", fn := fun _ => fun
  | [d] => { results := [.lit (.bool false)], args := [d] }
  | _ => none }
def FnOneSidedWrongFalsely : Prop := fnOneSidedRow.holds Try.pinned (OpenSpec.ofChange fnOneSidedWrong)

/-- 'laws.FnIntermediates': WHATEVER THE INPUT: true; the input reads as it did. -/
def fnIntermediatesSpec : ChangeSpec := { name := "fnIntermediates", fn := fun _ => fun
  | [d] => { results := [.lit (.bool true)], args := [d] }
  | _ => none }
def fnIntermediatesRow : OpenClaim := { program := "ytdoebhjapjmdcaa", sum := "ee06df1a19b3b9b7d1e8037618ae64ba6394a970a5a99b0a647c631c05a7ba5d", func := "loop.example/g01007/laws.FnIntermediates", spec := "fnIntermediates", unfollowed := true, recurses := true, apart := false }
def FnIntermediatesSaid : Prop := fnIntermediatesRow.holds Try.pinned (OpenSpec.ofChange fnIntermediatesSpec)

/-- ITS FALSE NEIGHBOUR: 'it returns false'. Refute it at one input. -/
def fnIntermediatesWrong : ChangeSpec := { name := "fnIntermediates", fn := fun _ => fun
  | [d] => { results := [.lit (.bool false)], args := [d] }
  | _ => none }
def FnIntermediatesWrongFalsely : Prop := fnIntermediatesRow.holds Try.pinned (OpenSpec.ofChange fnIntermediatesWrong)

/- THE SECOND FORM. 'bulk': how many values and letters a reading holds, each counted each time it is reached (what is shared counts as often as it is met; a slice's spare places count too). A statement '..UptoSaid' is the law's where the arguments, and the package variables that the reading takes, are together of bulk at most 1048576: NARROWER than '..Said'. Prove '..Said' where nothing that the law and all that it calls make is longer than what came in: it says more and counts as full. Else prove '..UptoSaid'. A law counts once. -/
mutual
def uptoBulk {H : Type} : DataW H → Nat
  | .lit (.string bytes) => bytes.length + 1
  | .lit _ => 1
  | .nil => 1
  | .ptr d => uptoBulk d + 1
  | .slice elems spare => uptoBulkAll elems + uptoBulkAll spare + 1
  | .agg parts => uptoBulkAll parts + 1
  | .iface _ d => uptoBulk d + 1
  | .map entries => uptoBulkEntries entries + 1
  | .held _ => 1
def uptoBulkAll {H : Type} : List (DataW H) → Nat
  | [] => 0
  | d :: r => uptoBulk d + uptoBulkAll r
def uptoBulkEntries {H : Type} : List (Lit × DataW H) → Nat
  | [] => 0
  | x :: r => uptoBulkEntry x + uptoBulkEntries r
def uptoBulkEntry {H : Type} : Lit × DataW H → Nat
  | (.string bytes, d) => bytes.length + uptoBulk d + 1
  | (_, d) => uptoBulk d + 1
 end
def uptoSmall : (H : Type) → List (DataW H) → Bool := fun _ ds => decide (uptoBulkAll ds ≤ 1048576)
def OpenSpec.upto (s : _root_.Go.ChangeSpec) : _root_.Go.OpenSpec := { _root_.Go.OpenSpec.ofChange s with cond := some uptoSmall }

/-- 'laws.FnExactBestBelow', WHERE WHAT IT READS IS OF BULK AT MOST 1048576: true; the input reads as it did. -/
def fnExactBestBelowUptoRow : OpenClaim := { program := "ytdoebhjapjmdcaa", sum := "ee06df1a19b3b9b7d1e8037618ae64ba6394a970a5a99b0a647c631c05a7ba5d", func := "loop.example/g01007/laws.FnExactBestBelow", spec := "fnExactBestBelow", apart := false, narrowed := true }
def FnExactBestBelowUptoSaid : Prop := fnExactBestBelowUptoRow.holds Try.pinned (OpenSpec.upto fnExactBestBelowSpec)

/-- 'laws.FnExactIsIntermediate', WHERE WHAT IT READS IS OF BULK AT MOST 1048576: true; the input reads as it did. -/
def fnExactIsIntermediateUptoRow : OpenClaim := { program := "ytdoebhjapjmdcaa", sum := "ee06df1a19b3b9b7d1e8037618ae64ba6394a970a5a99b0a647c631c05a7ba5d", func := "loop.example/g01007/laws.FnExactIsIntermediate", spec := "fnExactIsIntermediate", unfollowed := true, recurses := true, apart := false, narrowed := true }
def FnExactIsIntermediateUptoSaid : Prop := fnExactIsIntermediateUptoRow.holds Try.pinned (OpenSpec.upto fnExactIsIntermediateSpec)

/-- 'laws.FnExactStepsBetween', WHERE WHAT IT READS IS OF BULK AT MOST 1048576: true; the input reads as it did. -/
def fnExactStepsBetweenUptoRow : OpenClaim := { program := "ytdoebhjapjmdcaa", sum := "ee06df1a19b3b9b7d1e8037618ae64ba6394a970a5a99b0a647c631c05a7ba5d", func := "loop.example/g01007/laws.FnExactStepsBetween", spec := "fnExactStepsBetween", unfollowed := true, recurses := true, apart := false, narrowed := true }
def FnExactStepsBetweenUptoSaid : Prop := fnExactStepsBetweenUptoRow.holds Try.pinned (OpenSpec.upto fnExactStepsBetweenSpec)

/-- 'laws.FnExactIntermediatesOf', WHERE WHAT IT READS IS OF BULK AT MOST 1048576: true; the input reads as it did. -/
def fnExactIntermediatesOfUptoRow : OpenClaim := { program := "ytdoebhjapjmdcaa", sum := "ee06df1a19b3b9b7d1e8037618ae64ba6394a970a5a99b0a647c631c05a7ba5d", func := "loop.example/g01007/laws.FnExactIntermediatesOf", spec := "fnExactIntermediatesOf", unfollowed := true, recurses := true, apart := false, narrowed := true }
def FnExactIntermediatesOfUptoSaid : Prop := fnExactIntermediatesOfUptoRow.holds Try.pinned (OpenSpec.upto fnExactIntermediatesOfSpec)

/-- 'laws.FnOneSided', WHERE WHAT IT READS IS OF BULK AT MOST 1048576: true; the input reads as it did. -/
def fnOneSidedUptoRow : OpenClaim := { program := "ytdoebhjapjmdcaa", sum := "ee06df1a19b3b9b7d1e8037618ae64ba6394a970a5a99b0a647c631c05a7ba5d", func := "loop.example/g01007/laws.FnOneSided", spec := "fnOneSided", apart := false, narrowed := true }
def FnOneSidedUptoSaid : Prop := fnOneSidedUptoRow.holds Try.pinned (OpenSpec.upto fnOneSidedSpec)

/-- 'laws.FnIntermediates', WHERE WHAT IT READS IS OF BULK AT MOST 1048576: true; the input reads as it did. -/
def fnIntermediatesUptoRow : OpenClaim := { program := "ytdoebhjapjmdcaa", sum := "ee06df1a19b3b9b7d1e8037618ae64ba6394a970a5a99b0a647c631c05a7ba5d", func := "loop.example/g01007/laws.FnIntermediates", spec := "fnIntermediates", unfollowed := true, recurses := true, apart := false, narrowed := true }
def FnIntermediatesUptoSaid : Prop := fnIntermediatesUptoRow.holds Try.pinned (OpenSpec.upto fnIntermediatesSpec)

end Rows
end Go.Proofs.Ytdoebhjapjmdcaa
