/-
  No cell of these rows narrows 'for every input' (looked for: loops, veiled, ifaces, maps, wideKeys, modest, calm, conditions, laid).
  DERIVED. THE GIVEN ROWS OF THIS SEAT. 10 by the template 'for every input the law returns true; each argument reads behind the call as it read before'; 0 by the template 'total and deterministic' (their statements: YtpganaeomiondaaTotals.lean).
  GIVEN WITH THE SEED: the statements are not yours to turn. If you find one false, say at which input.
  Laid BY PROGRAM, IN A SANDBOX (cutbox-rows.mjs): the forced cells as the released guide's own fill.sh prints them over the translation 8eb2d0ffa1cbd08c… (all of the seat's roots in one cut). By AI agents, Wed Nov 11 2026. No macro, syntax, notation, axiom, sorry.
-/
import Derived.Test.YtpganaeomiondaaChecked
import GoSem.Claim
import GoSem.ClaimJoined
import GoSem.ClaimMapViews
import Derived.JoinedTies
import Derived.KernelRfl
namespace Go.Proofs.Ytpganaeomiondaa
/- THE CELL 'sum', in the pinned program and in every row, IS THE sha256 OF THE DUMP (.gsa) THAT YtpganaeomiondaaProg.lean LOADS. Nothing in Lean hashes anything: it is a label: what it is worth is what the hold of that sum in a sandbox is worth. -/
noncomputable def Try.pinned : Pinned := { name := "ytpganaeomiondaa", sum := "8eb2d0ffa1cbd08c23526e9bff1ec1325f278ffcda6f7e023d1d84c6e175eb5b", checked := Try.checked }
namespace Rows
def none {H : Type} : Left H := { results := [], args := [] }

/-- 'laws.FnExactCountMissing': WHATEVER THE INPUT: true; the input reads as it did. -/
def fnExactCountMissingSpec : ChangeSpec := { name := "fnExactCountMissing", fn := fun _ => fun
  | [d1, d2] => { results := [.lit (.bool true)], args := [d1, d2] }
  | _ => none }
def fnExactCountMissingRow : OpenClaim := { program := "ytpganaeomiondaa", sum := "8eb2d0ffa1cbd08c23526e9bff1ec1325f278ffcda6f7e023d1d84c6e175eb5b", func := "loop.example/g01007/laws.FnExactCountMissing", spec := "fnExactCountMissing", apart := false }
def FnExactCountMissingSaid : Prop := fnExactCountMissingRow.holds Try.pinned (OpenSpec.ofChange fnExactCountMissingSpec)

/-- ITS FALSE NEIGHBOUR: 'it returns false'. Refute it at one input. -/
def fnExactCountMissingWrong : ChangeSpec := { name := "fnExactCountMissing", fn := fun _ => fun
  | [d1, d2] => { results := [.lit (.bool false)], args := [d1, d2] }
  | _ => none }
def FnExactCountMissingWrongFalsely : Prop := fnExactCountMissingRow.holds Try.pinned (OpenSpec.ofChange fnExactCountMissingWrong)

/-- 'laws.FnExactGreatestMissing': WHATEVER THE INPUT: true; the input reads as it did. -/
def fnExactGreatestMissingSpec : ChangeSpec := { name := "fnExactGreatestMissing", fn := fun _ => fun
  | [d1, d2] => { results := [.lit (.bool true)], args := [d1, d2] }
  | _ => none }
def fnExactGreatestMissingRow : OpenClaim := { program := "ytpganaeomiondaa", sum := "8eb2d0ffa1cbd08c23526e9bff1ec1325f278ffcda6f7e023d1d84c6e175eb5b", func := "loop.example/g01007/laws.FnExactGreatestMissing", spec := "fnExactGreatestMissing", apart := false }
def FnExactGreatestMissingSaid : Prop := fnExactGreatestMissingRow.holds Try.pinned (OpenSpec.ofChange fnExactGreatestMissingSpec)

/-- ITS FALSE NEIGHBOUR: 'it returns false'. Refute it at one input. -/
def fnExactGreatestMissingWrong : ChangeSpec := { name := "fnExactGreatestMissing", fn := fun _ => fun
  | [d1, d2] => { results := [.lit (.bool false)], args := [d1, d2] }
  | _ => none }
def FnExactGreatestMissingWrongFalsely : Prop := fnExactGreatestMissingRow.holds Try.pinned (OpenSpec.ofChange fnExactGreatestMissingWrong)

/-- 'laws.FnExactBezoutOf': WHATEVER THE INPUT: true; the input reads as it did. -/
def fnExactBezoutOfSpec : ChangeSpec := { name := "fnExactBezoutOf", fn := fun _ => fun
  | [d1, d2] => { results := [.lit (.bool true)], args := [d1, d2] }
  | _ => none }
def fnExactBezoutOfRow : OpenClaim := { program := "ytpganaeomiondaa", sum := "8eb2d0ffa1cbd08c23526e9bff1ec1325f278ffcda6f7e023d1d84c6e175eb5b", func := "loop.example/g01007/laws.FnExactBezoutOf", spec := "fnExactBezoutOf", apart := false }
def FnExactBezoutOfSaid : Prop := fnExactBezoutOfRow.holds Try.pinned (OpenSpec.ofChange fnExactBezoutOfSpec)

/-- ITS FALSE NEIGHBOUR: 'it returns false'. Refute it at one input. -/
def fnExactBezoutOfWrong : ChangeSpec := { name := "fnExactBezoutOf", fn := fun _ => fun
  | [d1, d2] => { results := [.lit (.bool false)], args := [d1, d2] }
  | _ => none }
def FnExactBezoutOfWrongFalsely : Prop := fnExactBezoutOfRow.holds Try.pinned (OpenSpec.ofChange fnExactBezoutOfWrong)

/-- 'laws.FnExactSolveLinear': WHATEVER THE INPUT: true; the input reads as it did. -/
def fnExactSolveLinearSpec : ChangeSpec := { name := "fnExactSolveLinear", fn := fun _ => fun
  | [d1, d2, d3] => { results := [.lit (.bool true)], args := [d1, d2, d3] }
  | _ => none }
def fnExactSolveLinearRow : OpenClaim := { program := "ytpganaeomiondaa", sum := "8eb2d0ffa1cbd08c23526e9bff1ec1325f278ffcda6f7e023d1d84c6e175eb5b", func := "loop.example/g01007/laws.FnExactSolveLinear", spec := "fnExactSolveLinear", apart := false }
def FnExactSolveLinearSaid : Prop := fnExactSolveLinearRow.holds Try.pinned (OpenSpec.ofChange fnExactSolveLinearSpec)

/-- ITS FALSE NEIGHBOUR: 'it returns false'. Refute it at one input. -/
def fnExactSolveLinearWrong : ChangeSpec := { name := "fnExactSolveLinear", fn := fun _ => fun
  | [d1, d2, d3] => { results := [.lit (.bool false)], args := [d1, d2, d3] }
  | _ => none }
def FnExactSolveLinearWrongFalsely : Prop := fnExactSolveLinearRow.holds Try.pinned (OpenSpec.ofChange fnExactSolveLinearWrong)

/-- 'laws.FnExactCountNatural': WHATEVER THE INPUT: true; the input reads as it did. -/
def fnExactCountNaturalSpec : ChangeSpec := { name := "fnExactCountNatural", fn := fun _ => fun
  | [d1, d2, d3] => { results := [.lit (.bool true)], args := [d1, d2, d3] }
  | _ => none }
def fnExactCountNaturalRow : OpenClaim := { program := "ytpganaeomiondaa", sum := "8eb2d0ffa1cbd08c23526e9bff1ec1325f278ffcda6f7e023d1d84c6e175eb5b", func := "loop.example/g01007/laws.FnExactCountNatural", spec := "fnExactCountNatural", apart := false }
def FnExactCountNaturalSaid : Prop := fnExactCountNaturalRow.holds Try.pinned (OpenSpec.ofChange fnExactCountNaturalSpec)

/-- ITS FALSE NEIGHBOUR: 'it returns false'. Refute it at one input. -/
def fnExactCountNaturalWrong : ChangeSpec := { name := "fnExactCountNatural", fn := fun _ => fun
  | [d1, d2, d3] => { results := [.lit (.bool false)], args := [d1, d2, d3] }
  | _ => none }
def FnExactCountNaturalWrongFalsely : Prop := fnExactCountNaturalRow.holds Try.pinned (OpenSpec.ofChange fnExactCountNaturalWrong)

/-- 'laws.FnExactSolveModulo': WHATEVER THE INPUT: true; the input reads as it did. -/
def fnExactSolveModuloSpec : ChangeSpec := { name := "fnExactSolveModulo", fn := fun _ => fun
  | [d1, d2, d3] => { results := [.lit (.bool true)], args := [d1, d2, d3] }
  | _ => none }
def fnExactSolveModuloRow : OpenClaim := { program := "ytpganaeomiondaa", sum := "8eb2d0ffa1cbd08c23526e9bff1ec1325f278ffcda6f7e023d1d84c6e175eb5b", func := "loop.example/g01007/laws.FnExactSolveModulo", spec := "fnExactSolveModulo", apart := false }
def FnExactSolveModuloSaid : Prop := fnExactSolveModuloRow.holds Try.pinned (OpenSpec.ofChange fnExactSolveModuloSpec)

/-- ITS FALSE NEIGHBOUR: 'it returns false'. Refute it at one input. -/
def fnExactSolveModuloWrong : ChangeSpec := { name := "fnExactSolveModulo", fn := fun _ => fun
  | [d1, d2, d3] => { results := [.lit (.bool false)], args := [d1, d2, d3] }
  | _ => none }
def FnExactSolveModuloWrongFalsely : Prop := fnExactSolveModuloRow.holds Try.pinned (OpenSpec.ofChange fnExactSolveModuloWrong)

/-- 'laws.FnExactInverseModulo': WHATEVER THE INPUT: true; the input reads as it did. -/
def fnExactInverseModuloSpec : ChangeSpec := { name := "fnExactInverseModulo", fn := fun _ => fun
  | [d1, d2] => { results := [.lit (.bool true)], args := [d1, d2] }
  | _ => none }
def fnExactInverseModuloRow : OpenClaim := { program := "ytpganaeomiondaa", sum := "8eb2d0ffa1cbd08c23526e9bff1ec1325f278ffcda6f7e023d1d84c6e175eb5b", func := "loop.example/g01007/laws.FnExactInverseModulo", spec := "fnExactInverseModulo", apart := false }
def FnExactInverseModuloSaid : Prop := fnExactInverseModuloRow.holds Try.pinned (OpenSpec.ofChange fnExactInverseModuloSpec)

/-- ITS FALSE NEIGHBOUR: 'it returns false'. Refute it at one input. -/
def fnExactInverseModuloWrong : ChangeSpec := { name := "fnExactInverseModulo", fn := fun _ => fun
  | [d1, d2] => { results := [.lit (.bool false)], args := [d1, d2] }
  | _ => none }
def FnExactInverseModuloWrongFalsely : Prop := fnExactInverseModuloRow.holds Try.pinned (OpenSpec.ofChange fnExactInverseModuloWrong)

/-- 'laws.FnExactJoinRests': WHATEVER THE INPUT: true; the input reads as it did. -/
def fnExactJoinRestsSpec : ChangeSpec := { name := "fnExactJoinRests", fn := fun _ => fun
  | [d1, d2, d3, d4] => { results := [.lit (.bool true)], args := [d1, d2, d3, d4] }
  | _ => none }
def fnExactJoinRestsRow : OpenClaim := { program := "ytpganaeomiondaa", sum := "8eb2d0ffa1cbd08c23526e9bff1ec1325f278ffcda6f7e023d1d84c6e175eb5b", func := "loop.example/g01007/laws.FnExactJoinRests", spec := "fnExactJoinRests", apart := false }
def FnExactJoinRestsSaid : Prop := fnExactJoinRestsRow.holds Try.pinned (OpenSpec.ofChange fnExactJoinRestsSpec)

/-- ITS FALSE NEIGHBOUR: 'it returns false'. Refute it at one input. -/
def fnExactJoinRestsWrong : ChangeSpec := { name := "fnExactJoinRests", fn := fun _ => fun
  | [d1, d2, d3, d4] => { results := [.lit (.bool false)], args := [d1, d2, d3, d4] }
  | _ => none }
def FnExactJoinRestsWrongFalsely : Prop := fnExactJoinRestsRow.holds Try.pinned (OpenSpec.ofChange fnExactJoinRestsWrong)

/-- 'laws.FnExactNaturalSolutions': WHATEVER THE INPUT: true; the input reads as it did. -/
def fnExactNaturalSolutionsSpec : ChangeSpec := { name := "fnExactNaturalSolutions", fn := fun _ => fun
  | [d1, d2, d3] => { results := [.lit (.bool true)], args := [d1, d2, d3] }
  | _ => none }
def fnExactNaturalSolutionsRow : OpenClaim := { program := "ytpganaeomiondaa", sum := "8eb2d0ffa1cbd08c23526e9bff1ec1325f278ffcda6f7e023d1d84c6e175eb5b", func := "loop.example/g01007/laws.FnExactNaturalSolutions", spec := "fnExactNaturalSolutions", apart := false }
def FnExactNaturalSolutionsSaid : Prop := fnExactNaturalSolutionsRow.holds Try.pinned (OpenSpec.ofChange fnExactNaturalSolutionsSpec)

/-- ITS FALSE NEIGHBOUR: 'it returns false'. Refute it at one input. -/
def fnExactNaturalSolutionsWrong : ChangeSpec := { name := "fnExactNaturalSolutions", fn := fun _ => fun
  | [d1, d2, d3] => { results := [.lit (.bool false)], args := [d1, d2, d3] }
  | _ => none }
def FnExactNaturalSolutionsWrongFalsely : Prop := fnExactNaturalSolutionsRow.holds Try.pinned (OpenSpec.ofChange fnExactNaturalSolutionsWrong)

/-- 'laws.FnModuli': WHATEVER THE INPUT: true; the input reads as it did. -/
def fnModuliSpec : ChangeSpec := { name := "fnModuli", fn := fun _ => fun
  | [d] => { results := [.lit (.bool true)], args := [d] }
  | _ => none }
def fnModuliRow : OpenClaim := { program := "ytpganaeomiondaa", sum := "8eb2d0ffa1cbd08c23526e9bff1ec1325f278ffcda6f7e023d1d84c6e175eb5b", func := "loop.example/g01007/laws.FnModuli", spec := "fnModuli", apart := false }
def FnModuliSaid : Prop := fnModuliRow.holds Try.pinned (OpenSpec.ofChange fnModuliSpec)

/-- ITS FALSE NEIGHBOUR: 'it returns false'. Refute it at one input. -/
def fnModuliWrong : ChangeSpec := { name := "fnModuli", fn := fun _ => fun
  | [d] => { results := [.lit (.bool false)], args := [d] }
  | _ => none }
def FnModuliWrongFalsely : Prop := fnModuliRow.holds Try.pinned (OpenSpec.ofChange fnModuliWrong)

/- THE SECOND FORM. 'bulk': how many values and letters a reading holds, each counted each time it is reached (what is shared counts as often as it is met; a slice's spare places count too). A statement '..UptoSaid' is the law's where the arguments, and the package variables that the reading takes, are together of bulk at most 1048576: NARROWER than '..Said'. Prove '..Said' where nothing that the law and all that it calls make is longer than what came in: it says more and counts as full. Else prove '..UptoSaid'. A law counts once. -/
mutual
def uptoBulk {H : Type} : DataW H → Nat
  | .lit (.string bytes) => bytes.length + 1
  | .lit _ => 1
  | .nil => 1
  | .ptr d => uptoBulk d + 1
  | .slice elems spare => uptoBulkAll elems + uptoBulkAll spare + 1
  | .agg parts => uptoBulkAll parts + 1
  | .iface _ d => uptoBulk d + 1
  | .map entries => uptoBulkEntries entries + 1
  | .held _ => 1
def uptoBulkAll {H : Type} : List (DataW H) → Nat
  | [] => 0
  | d :: r => uptoBulk d + uptoBulkAll r
def uptoBulkEntries {H : Type} : List (Lit × DataW H) → Nat
  | [] => 0
  | x :: r => uptoBulkEntry x + uptoBulkEntries r
def uptoBulkEntry {H : Type} : Lit × DataW H → Nat
  | (.string bytes, d) => bytes.length + uptoBulk d + 1
  | (_, d) => uptoBulk d + 1
 end
def uptoSmall : (H : Type) → List (DataW H) → Bool := fun _ ds => decide (uptoBulkAll ds ≤ 1048576)
def OpenSpec.upto (s : _root_.Go.ChangeSpec) : _root_.Go.OpenSpec := { _root_.Go.OpenSpec.ofChange s with cond := some uptoSmall }

/-- 'laws.FnExactCountMissing', WHERE WHAT IT READS IS OF BULK AT MOST 1048576: true; the input reads as it did. -/
def fnExactCountMissingUptoRow : OpenClaim := { program := "ytpganaeomiondaa", sum := "8eb2d0ffa1cbd08c23526e9bff1ec1325f278ffcda6f7e023d1d84c6e175eb5b", func := "loop.example/g01007/laws.FnExactCountMissing", spec := "fnExactCountMissing", apart := false, narrowed := true }
def FnExactCountMissingUptoSaid : Prop := fnExactCountMissingUptoRow.holds Try.pinned (OpenSpec.upto fnExactCountMissingSpec)

/-- 'laws.FnExactGreatestMissing', WHERE WHAT IT READS IS OF BULK AT MOST 1048576: true; the input reads as it did. -/
def fnExactGreatestMissingUptoRow : OpenClaim := { program := "ytpganaeomiondaa", sum := "8eb2d0ffa1cbd08c23526e9bff1ec1325f278ffcda6f7e023d1d84c6e175eb5b", func := "loop.example/g01007/laws.FnExactGreatestMissing", spec := "fnExactGreatestMissing", apart := false, narrowed := true }
def FnExactGreatestMissingUptoSaid : Prop := fnExactGreatestMissingUptoRow.holds Try.pinned (OpenSpec.upto fnExactGreatestMissingSpec)

/-- 'laws.FnExactBezoutOf', WHERE WHAT IT READS IS OF BULK AT MOST 1048576: true; the input reads as it did. -/
def fnExactBezoutOfUptoRow : OpenClaim := { program := "ytpganaeomiondaa", sum := "8eb2d0ffa1cbd08c23526e9bff1ec1325f278ffcda6f7e023d1d84c6e175eb5b", func := "loop.example/g01007/laws.FnExactBezoutOf", spec := "fnExactBezoutOf", apart := false, narrowed := true }
def FnExactBezoutOfUptoSaid : Prop := fnExactBezoutOfUptoRow.holds Try.pinned (OpenSpec.upto fnExactBezoutOfSpec)

/-- 'laws.FnExactSolveLinear', WHERE WHAT IT READS IS OF BULK AT MOST 1048576: true; the input reads as it did. -/
def fnExactSolveLinearUptoRow : OpenClaim := { program := "ytpganaeomiondaa", sum := "8eb2d0ffa1cbd08c23526e9bff1ec1325f278ffcda6f7e023d1d84c6e175eb5b", func := "loop.example/g01007/laws.FnExactSolveLinear", spec := "fnExactSolveLinear", apart := false, narrowed := true }
def FnExactSolveLinearUptoSaid : Prop := fnExactSolveLinearUptoRow.holds Try.pinned (OpenSpec.upto fnExactSolveLinearSpec)

/-- 'laws.FnExactCountNatural', WHERE WHAT IT READS IS OF BULK AT MOST 1048576: true; the input reads as it did. -/
def fnExactCountNaturalUptoRow : OpenClaim := { program := "ytpganaeomiondaa", sum := "8eb2d0ffa1cbd08c23526e9bff1ec1325f278ffcda6f7e023d1d84c6e175eb5b", func := "loop.example/g01007/laws.FnExactCountNatural", spec := "fnExactCountNatural", apart := false, narrowed := true }
def FnExactCountNaturalUptoSaid : Prop := fnExactCountNaturalUptoRow.holds Try.pinned (OpenSpec.upto fnExactCountNaturalSpec)

/-- 'laws.FnExactSolveModulo', WHERE WHAT IT READS IS OF BULK AT MOST 1048576: true; the input reads as it did. -/
def fnExactSolveModuloUptoRow : OpenClaim := { program := "ytpganaeomiondaa", sum := "8eb2d0ffa1cbd08c23526e9bff1ec1325f278ffcda6f7e023d1d84c6e175eb5b", func := "loop.example/g01007/laws.FnExactSolveModulo", spec := "fnExactSolveModulo", apart := false, narrowed := true }
def FnExactSolveModuloUptoSaid : Prop := fnExactSolveModuloUptoRow.holds Try.pinned (OpenSpec.upto fnExactSolveModuloSpec)

/-- 'laws.FnExactInverseModulo', WHERE WHAT IT READS IS OF BULK AT MOST 1048576: true; the input reads as it did. -/
def fnExactInverseModuloUptoRow : OpenClaim := { program := "ytpganaeomiondaa", sum := "8eb2d0ffa1cbd08c23526e9bff1ec1325f278ffcda6f7e023d1d84c6e175eb5b", func := "loop.example/g01007/laws.FnExactInverseModulo", spec := "fnExactInverseModulo", apart := false, narrowed := true }
def FnExactInverseModuloUptoSaid : Prop := fnExactInverseModuloUptoRow.holds Try.pinned (OpenSpec.upto fnExactInverseModuloSpec)

/-- 'laws.FnExactJoinRests', WHERE WHAT IT READS IS OF BULK AT MOST 1048576: true; the input reads as it did. -/
def fnExactJoinRestsUptoRow : OpenClaim := { program := "ytpganaeomiondaa", sum := "8eb2d0ffa1cbd08c23526e9bff1ec1325f278ffcda6f7e023d1d84c6e175eb5b", func := "loop.example/g01007/laws.FnExactJoinRests", spec := "fnExactJoinRests", apart := false, narrowed := true }
def FnExactJoinRestsUptoSaid : Prop := fnExactJoinRestsUptoRow.holds Try.pinned (OpenSpec.upto fnExactJoinRestsSpec)

/-- 'laws.FnExactNaturalSolutions', WHERE WHAT IT READS IS OF BULK AT MOST 1048576: true; the input reads as it did. -/
def fnExactNaturalSolutionsUptoRow : OpenClaim := { program := "ytpganaeomiondaa", sum := "8eb2d0ffa1cbd08c23526e9bff1ec1325f278ffcda6f7e023d1d84c6e175eb5b", func := "loop.example/g01007/laws.FnExactNaturalSolutions", spec := "fnExactNaturalSolutions", apart := false, narrowed := true }
def FnExactNaturalSolutionsUptoSaid : Prop := fnExactNaturalSolutionsUptoRow.holds Try.pinned (OpenSpec.upto fnExactNaturalSolutionsSpec)

/-- 'laws.FnModuli', WHERE WHAT IT READS IS OF BULK AT MOST 1048576: true; the input reads as it did. -/
def fnModuliUptoRow : OpenClaim := { program := "ytpganaeomiondaa", sum := "8eb2d0ffa1cbd08c23526e9bff1ec1325f278ffcda6f7e023d1d84c6e175eb5b", func := "loop.example/g01007/laws.FnModuli", spec := "fnModuli", apart := false, narrowed := true }
def FnModuliUptoSaid : Prop := fnModuliUptoRow.holds Try.pinned (OpenSpec.upto fnModuliSpec)

end Rows
end Go.Proofs.Ytpganaeomiondaa
