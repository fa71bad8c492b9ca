/-
  No cell of these rows narrows 'for every input' (looked for: loops, veiled, ifaces, maps, wideKeys, modest, calm, conditions, laid).
  DERIVED. THE GIVEN ROWS OF THIS SEAT. 10 by the template 'for every input the law returns true; each argument reads behind the call as it read before'; 0 by the template 'total and deterministic' (their statements: YtckigilfjdcfgaaTotals.lean).
  GIVEN WITH THE SEED: the statements are not yours to turn. If you find one false, say at which input.
  Laid BY PROGRAM, IN A SANDBOX (cutbox-rows.mjs): the forced cells as the released guide's own fill.sh prints them over the translation b1fb6a21bbe3f705… (all of the seat's roots in one cut). By AI agents, Wed Nov 11 2026. No macro, syntax, notation, axiom, sorry.
-/
import Derived.Test.YtckigilfjdcfgaaChecked
import GoSem.Claim
import GoSem.ClaimJoined
import GoSem.ClaimMapViews
import Derived.JoinedTies
import Derived.KernelRfl
namespace Go.Proofs.Ytckigilfjdcfgaa
/- THE CELL 'sum', in the pinned program and in every row, IS THE sha256 OF THE DUMP (.gsa) THAT YtckigilfjdcfgaaProg.lean LOADS. Nothing in Lean hashes anything: it is a label: what it is worth is what the hold of that sum in a sandbox is worth. -/
noncomputable def Try.pinned : Pinned := { name := "ytckigilfjdcfgaa", sum := "b1fb6a21bbe3f7053a6dd7b7ff83902247705655c170601ccbe7b10d5e2be55c", checked := Try.checked }
namespace Rows
def none {H : Type} : Left H := { results := [], args := [] }

/-- 'laws.FnExactEndsOfMultiples': WHATEVER THE INPUT: true; the input reads as it did. -/
def fnExactEndsOfMultiplesSpec : ChangeSpec := { name := "fnExactEndsOfMultiples", fn := fun _ => fun
  | [d1, d2] => { results := [.lit (.bool true)], args := [d1, d2] }
  | _ => none }
def fnExactEndsOfMultiplesRow : OpenClaim := { program := "ytckigilfjdcfgaa", sum := "b1fb6a21bbe3f7053a6dd7b7ff83902247705655c170601ccbe7b10d5e2be55c", func := "loop.example/g01007/laws.FnExactEndsOfMultiples", spec := "fnExactEndsOfMultiples", unfollowed := true, recurses := true, apart := false }
def FnExactEndsOfMultiplesSaid : Prop := fnExactEndsOfMultiplesRow.holds Try.pinned (OpenSpec.ofChange fnExactEndsOfMultiplesSpec)

/-- ITS FALSE NEIGHBOUR: 'it returns false'. Refute it at one input. -/
def fnExactEndsOfMultiplesWrong : ChangeSpec := { name := "fnExactEndsOfMultiples", fn := fun _ => fun
  | [d1, d2] => { results := [.lit (.bool false)], args := [d1, d2] }
  | _ => none }
def FnExactEndsOfMultiplesWrongFalsely : Prop := fnExactEndsOfMultiplesRow.holds Try.pinned (OpenSpec.ofChange fnExactEndsOfMultiplesWrong)

/-- 'laws.FnExactFallsInto': WHATEVER THE INPUT: true; the input reads as it did. -/
def fnExactFallsIntoSpec : ChangeSpec := { name := "fnExactFallsInto", fn := fun _ => fun
  | [d1, d2] => { results := [.lit (.bool true)], args := [d1, d2] }
  | _ => none }
def fnExactFallsIntoRow : OpenClaim := { program := "ytckigilfjdcfgaa", sum := "b1fb6a21bbe3f7053a6dd7b7ff83902247705655c170601ccbe7b10d5e2be55c", func := "loop.example/g01007/laws.FnExactFallsInto", spec := "fnExactFallsInto", unfollowed := true, recurses := true, apart := false }
def FnExactFallsIntoSaid : Prop := fnExactFallsIntoRow.holds Try.pinned (OpenSpec.ofChange fnExactFallsIntoSpec)

/-- ITS FALSE NEIGHBOUR: 'it returns false'. Refute it at one input. -/
def fnExactFallsIntoWrong : ChangeSpec := { name := "fnExactFallsInto", fn := fun _ => fun
  | [d1, d2] => { results := [.lit (.bool false)], args := [d1, d2] }
  | _ => none }
def FnExactFallsIntoWrongFalsely : Prop := fnExactFallsIntoRow.holds Try.pinned (OpenSpec.ofChange fnExactFallsIntoWrong)

/-- 'laws.FnExactNextMultiple': WHATEVER THE INPUT: true; the input reads as it did. -/
def fnExactNextMultipleSpec : ChangeSpec := { name := "fnExactNextMultiple", fn := fun _ => fun
  | [d1, d2, d3] => { results := [.lit (.bool true)], args := [d1, d2, d3] }
  | _ => none }
def fnExactNextMultipleRow : OpenClaim := { program := "ytckigilfjdcfgaa", sum := "b1fb6a21bbe3f7053a6dd7b7ff83902247705655c170601ccbe7b10d5e2be55c", func := "loop.example/g01007/laws.FnExactNextMultiple", spec := "fnExactNextMultiple", unfollowed := true, recurses := true, apart := false }
def FnExactNextMultipleSaid : Prop := fnExactNextMultipleRow.holds Try.pinned (OpenSpec.ofChange fnExactNextMultipleSpec)

/-- ITS FALSE NEIGHBOUR: 'it returns false'. Refute it at one input. -/
def fnExactNextMultipleWrong : ChangeSpec := { name := "fnExactNextMultiple", fn := fun _ => fun
  | [d1, d2, d3] => { results := [.lit (.bool false)], args := [d1, d2, d3] }
  | _ => none }
def FnExactNextMultipleWrongFalsely : Prop := fnExactNextMultipleRow.holds Try.pinned (OpenSpec.ofChange fnExactNextMultipleWrong)

/-- 'laws.FnExactOrderOfMultiples': WHATEVER THE INPUT: true; the input reads as it did. -/
def fnExactOrderOfMultiplesSpec : ChangeSpec := { name := "fnExactOrderOfMultiples", fn := fun _ => fun
  | [d1, d2] => { results := [.lit (.bool true)], args := [d1, d2] }
  | _ => none }
def fnExactOrderOfMultiplesRow : OpenClaim := { program := "ytckigilfjdcfgaa", sum := "b1fb6a21bbe3f7053a6dd7b7ff83902247705655c170601ccbe7b10d5e2be55c", func := "loop.example/g01007/laws.FnExactOrderOfMultiples", spec := "fnExactOrderOfMultiples", unfollowed := true, recurses := true, apart := false }
def FnExactOrderOfMultiplesSaid : Prop := fnExactOrderOfMultiplesRow.holds Try.pinned (OpenSpec.ofChange fnExactOrderOfMultiplesSpec)

/-- ITS FALSE NEIGHBOUR: 'it returns false'. Refute it at one input. -/
def fnExactOrderOfMultiplesWrong : ChangeSpec := { name := "fnExactOrderOfMultiples", fn := fun _ => fun
  | [d1, d2] => { results := [.lit (.bool false)], args := [d1, d2] }
  | _ => none }
def FnExactOrderOfMultiplesWrongFalsely : Prop := fnExactOrderOfMultiplesRow.holds Try.pinned (OpenSpec.ofChange fnExactOrderOfMultiplesWrong)

/-- 'laws.FnExactGapsOf': WHATEVER THE INPUT: true; the input reads as it did. -/
def fnExactGapsOfSpec : ChangeSpec := { name := "fnExactGapsOf", fn := fun _ => fun
  | [d1, d2] => { results := [.lit (.bool true)], args := [d1, d2] }
  | _ => none }
def fnExactGapsOfRow : OpenClaim := { program := "ytckigilfjdcfgaa", sum := "b1fb6a21bbe3f7053a6dd7b7ff83902247705655c170601ccbe7b10d5e2be55c", func := "loop.example/g01007/laws.FnExactGapsOf", spec := "fnExactGapsOf", unfollowed := true, recurses := true, apart := false }
def FnExactGapsOfSaid : Prop := fnExactGapsOfRow.holds Try.pinned (OpenSpec.ofChange fnExactGapsOfSpec)

/-- ITS FALSE NEIGHBOUR: 'it returns false'. Refute it at one input. -/
def fnExactGapsOfWrong : ChangeSpec := { name := "fnExactGapsOf", fn := fun _ => fun
  | [d1, d2] => { results := [.lit (.bool false)], args := [d1, d2] }
  | _ => none }
def FnExactGapsOfWrongFalsely : Prop := fnExactGapsOfRow.holds Try.pinned (OpenSpec.ofChange fnExactGapsOfWrong)

/-- 'laws.FnExactGapCounts': WHATEVER THE INPUT: true; the input reads as it did. -/
def fnExactGapCountsSpec : ChangeSpec := { name := "fnExactGapCounts", fn := fun _ => fun
  | [d1, d2] => { results := [.lit (.bool true)], args := [d1, d2] }
  | _ => none }
def fnExactGapCountsRow : OpenClaim := { program := "ytckigilfjdcfgaa", sum := "b1fb6a21bbe3f7053a6dd7b7ff83902247705655c170601ccbe7b10d5e2be55c", func := "loop.example/g01007/laws.FnExactGapCounts", spec := "fnExactGapCounts", unfollowed := true, recurses := true, apart := false }
def FnExactGapCountsSaid : Prop := fnExactGapCountsRow.holds Try.pinned (OpenSpec.ofChange fnExactGapCountsSpec)

/-- ITS FALSE NEIGHBOUR: 'it returns false'. Refute it at one input. -/
def fnExactGapCountsWrong : ChangeSpec := { name := "fnExactGapCounts", fn := fun _ => fun
  | [d1, d2] => { results := [.lit (.bool false)], args := [d1, d2] }
  | _ => none }
def FnExactGapCountsWrongFalsely : Prop := fnExactGapCountsRow.holds Try.pinned (OpenSpec.ofChange fnExactGapCountsWrong)

/-- 'laws.FnExactTwoLengths': WHATEVER THE INPUT: true; the input reads as it did. -/
def fnExactTwoLengthsSpec : ChangeSpec := { name := "fnExactTwoLengths", fn := fun _ => fun
  | [d1, d2] => { results := [.lit (.bool true)], args := [d1, d2] }
  | _ => none }
def fnExactTwoLengthsRow : OpenClaim := { program := "ytckigilfjdcfgaa", sum := "b1fb6a21bbe3f7053a6dd7b7ff83902247705655c170601ccbe7b10d5e2be55c", func := "loop.example/g01007/laws.FnExactTwoLengths", spec := "fnExactTwoLengths", unfollowed := true, recurses := true, apart := false }
def FnExactTwoLengthsSaid : Prop := fnExactTwoLengthsRow.holds Try.pinned (OpenSpec.ofChange fnExactTwoLengthsSpec)

/-- ITS FALSE NEIGHBOUR: 'it returns false'. Refute it at one input. -/
def fnExactTwoLengthsWrong : ChangeSpec := { name := "fnExactTwoLengths", fn := fun _ => fun
  | [d1, d2] => { results := [.lit (.bool false)], args := [d1, d2] }
  | _ => none }
def FnExactTwoLengthsWrongFalsely : Prop := fnExactTwoLengthsRow.holds Try.pinned (OpenSpec.ofChange fnExactTwoLengthsWrong)

/-- 'laws.FnExactGapLengths': WHATEVER THE INPUT: true; the input reads as it did. -/
def fnExactGapLengthsSpec : ChangeSpec := { name := "fnExactGapLengths", fn := fun _ => fun
  | [d1, d2] => { results := [.lit (.bool true)], args := [d1, d2] }
  | _ => none }
def fnExactGapLengthsRow : OpenClaim := { program := "ytckigilfjdcfgaa", sum := "b1fb6a21bbe3f7053a6dd7b7ff83902247705655c170601ccbe7b10d5e2be55c", func := "loop.example/g01007/laws.FnExactGapLengths", spec := "fnExactGapLengths", unfollowed := true, recurses := true, apart := false }
def FnExactGapLengthsSaid : Prop := fnExactGapLengthsRow.holds Try.pinned (OpenSpec.ofChange fnExactGapLengthsSpec)

/-- ITS FALSE NEIGHBOUR: 'it returns false'. Refute it at one input. -/
def fnExactGapLengthsWrong : ChangeSpec := { name := "fnExactGapLengths", fn := fun _ => fun
  | [d1, d2] => { results := [.lit (.bool false)], args := [d1, d2] }
  | _ => none }
def FnExactGapLengthsWrongFalsely : Prop := fnExactGapLengthsRow.holds Try.pinned (OpenSpec.ofChange fnExactGapLengthsWrong)

/-- 'laws.FnGaps': WHATEVER THE INPUT: true; the input reads as it did. -/
def fnGapsSpec : ChangeSpec := { name := "fnGaps", fn := fun _ => fun
  | [d] => { results := [.lit (.bool true)], args := [d] }
  | _ => none }
def fnGapsRow : OpenClaim := { program := "ytckigilfjdcfgaa", sum := "b1fb6a21bbe3f7053a6dd7b7ff83902247705655c170601ccbe7b10d5e2be55c", func := "loop.example/g01007/laws.FnGaps", spec := "fnGaps", unfollowed := true, recurses := true, apart := false }
def FnGapsSaid : Prop := fnGapsRow.holds Try.pinned (OpenSpec.ofChange fnGapsSpec)

/-- ITS FALSE NEIGHBOUR: 'it returns false'. Refute it at one input. -/
def fnGapsWrong : ChangeSpec := { name := "fnGaps", fn := fun _ => fun
  | [d] => { results := [.lit (.bool false)], args := [d] }
  | _ => none }
def FnGapsWrongFalsely : Prop := fnGapsRow.holds Try.pinned (OpenSpec.ofChange fnGapsWrong)

/-- 'laws.FnNextPoints': WHATEVER THE INPUT: true; the input reads as it did. -/
def fnNextPointsSpec : ChangeSpec := { name := "fnNextPoints", fn := fun _ => fun
  | [d] => { results := [.lit (.bool true)], args := [d] }
  | _ => none }
def fnNextPointsRow : OpenClaim := { program := "ytckigilfjdcfgaa", sum := "b1fb6a21bbe3f7053a6dd7b7ff83902247705655c170601ccbe7b10d5e2be55c", func := "loop.example/g01007/laws.FnNextPoints", spec := "fnNextPoints", unfollowed := true, recurses := true, apart := false }
def FnNextPointsSaid : Prop := fnNextPointsRow.holds Try.pinned (OpenSpec.ofChange fnNextPointsSpec)

/-- ITS FALSE NEIGHBOUR: 'it returns false'. Refute it at one input. -/
def fnNextPointsWrong : ChangeSpec := { name := "fnNextPoints", fn := fun _ => fun
  | [d] => { results := [.lit (.bool false)], args := [d] }
  | _ => none }
def FnNextPointsWrongFalsely : Prop := fnNextPointsRow.holds Try.pinned (OpenSpec.ofChange fnNextPointsWrong)

/- THE SECOND FORM. 'bulk': how many values and letters a reading holds, each counted each time it is reached (what is shared counts as often as it is met; a slice's spare places count too). A statement '..UptoSaid' is the law's where the arguments, and the package variables that the reading takes, are together of bulk at most 1048576: NARROWER than '..Said'. Prove '..Said' where nothing that the law and all that it calls make is longer than what came in: it says more and counts as full. Else prove '..UptoSaid'. A law counts once. -/
mutual
def uptoBulk {H : Type} : DataW H → Nat
  | .lit (.string bytes) => bytes.length + 1
  | .lit _ => 1
  | .nil => 1
  | .ptr d => uptoBulk d + 1
  | .slice elems spare => uptoBulkAll elems + uptoBulkAll spare + 1
  | .agg parts => uptoBulkAll parts + 1
  | .iface _ d => uptoBulk d + 1
  | .map entries => uptoBulkEntries entries + 1
  | .held _ => 1
def uptoBulkAll {H : Type} : List (DataW H) → Nat
  | [] => 0
  | d :: r => uptoBulk d + uptoBulkAll r
def uptoBulkEntries {H : Type} : List (Lit × DataW H) → Nat
  | [] => 0
  | x :: r => uptoBulkEntry x + uptoBulkEntries r
def uptoBulkEntry {H : Type} : Lit × DataW H → Nat
  | (.string bytes, d) => bytes.length + uptoBulk d + 1
  | (_, d) => uptoBulk d + 1
 end
def uptoSmall : (H : Type) → List (DataW H) → Bool := fun _ ds => decide (uptoBulkAll ds ≤ 1048576)
def OpenSpec.upto (s : _root_.Go.ChangeSpec) : _root_.Go.OpenSpec := { _root_.Go.OpenSpec.ofChange s with cond := some uptoSmall }

/-- 'laws.FnExactEndsOfMultiples', WHERE WHAT IT READS IS OF BULK AT MOST 1048576: true; the input reads as it did. -/
def fnExactEndsOfMultiplesUptoRow : OpenClaim := { program := "ytckigilfjdcfgaa", sum := "b1fb6a21bbe3f7053a6dd7b7ff83902247705655c170601ccbe7b10d5e2be55c", func := "loop.example/g01007/laws.FnExactEndsOfMultiples", spec := "fnExactEndsOfMultiples", unfollowed := true, recurses := true, apart := false, narrowed := true }
def FnExactEndsOfMultiplesUptoSaid : Prop := fnExactEndsOfMultiplesUptoRow.holds Try.pinned (OpenSpec.upto fnExactEndsOfMultiplesSpec)

/-- 'laws.FnExactFallsInto', WHERE WHAT IT READS IS OF BULK AT MOST 1048576: true; the input reads as it did. -/
def fnExactFallsIntoUptoRow : OpenClaim := { program := "ytckigilfjdcfgaa", sum := "b1fb6a21bbe3f7053a6dd7b7ff83902247705655c170601ccbe7b10d5e2be55c", func := "loop.example/g01007/laws.FnExactFallsInto", spec := "fnExactFallsInto", unfollowed := true, recurses := true, apart := false, narrowed := true }
def FnExactFallsIntoUptoSaid : Prop := fnExactFallsIntoUptoRow.holds Try.pinned (OpenSpec.upto fnExactFallsIntoSpec)

/-- 'laws.FnExactNextMultiple', WHERE WHAT IT READS IS OF BULK AT MOST 1048576: true; the input reads as it did. -/
def fnExactNextMultipleUptoRow : OpenClaim := { program := "ytckigilfjdcfgaa", sum := "b1fb6a21bbe3f7053a6dd7b7ff83902247705655c170601ccbe7b10d5e2be55c", func := "loop.example/g01007/laws.FnExactNextMultiple", spec := "fnExactNextMultiple", unfollowed := true, recurses := true, apart := false, narrowed := true }
def FnExactNextMultipleUptoSaid : Prop := fnExactNextMultipleUptoRow.holds Try.pinned (OpenSpec.upto fnExactNextMultipleSpec)

/-- 'laws.FnExactOrderOfMultiples', WHERE WHAT IT READS IS OF BULK AT MOST 1048576: true; the input reads as it did. -/
def fnExactOrderOfMultiplesUptoRow : OpenClaim := { program := "ytckigilfjdcfgaa", sum := "b1fb6a21bbe3f7053a6dd7b7ff83902247705655c170601ccbe7b10d5e2be55c", func := "loop.example/g01007/laws.FnExactOrderOfMultiples", spec := "fnExactOrderOfMultiples", unfollowed := true, recurses := true, apart := false, narrowed := true }
def FnExactOrderOfMultiplesUptoSaid : Prop := fnExactOrderOfMultiplesUptoRow.holds Try.pinned (OpenSpec.upto fnExactOrderOfMultiplesSpec)

/-- 'laws.FnExactGapsOf', WHERE WHAT IT READS IS OF BULK AT MOST 1048576: true; the input reads as it did. -/
def fnExactGapsOfUptoRow : OpenClaim := { program := "ytckigilfjdcfgaa", sum := "b1fb6a21bbe3f7053a6dd7b7ff83902247705655c170601ccbe7b10d5e2be55c", func := "loop.example/g01007/laws.FnExactGapsOf", spec := "fnExactGapsOf", unfollowed := true, recurses := true, apart := false, narrowed := true }
def FnExactGapsOfUptoSaid : Prop := fnExactGapsOfUptoRow.holds Try.pinned (OpenSpec.upto fnExactGapsOfSpec)

/-- 'laws.FnExactGapCounts', WHERE WHAT IT READS IS OF BULK AT MOST 1048576: true; the input reads as it did. -/
def fnExactGapCountsUptoRow : OpenClaim := { program := "ytckigilfjdcfgaa", sum := "b1fb6a21bbe3f7053a6dd7b7ff83902247705655c170601ccbe7b10d5e2be55c", func := "loop.example/g01007/laws.FnExactGapCounts", spec := "fnExactGapCounts", unfollowed := true, recurses := true, apart := false, narrowed := true }
def FnExactGapCountsUptoSaid : Prop := fnExactGapCountsUptoRow.holds Try.pinned (OpenSpec.upto fnExactGapCountsSpec)

/-- 'laws.FnExactTwoLengths', WHERE WHAT IT READS IS OF BULK AT MOST 1048576: true; the input reads as it did. -/
def fnExactTwoLengthsUptoRow : OpenClaim := { program := "ytckigilfjdcfgaa", sum := "b1fb6a21bbe3f7053a6dd7b7ff83902247705655c170601ccbe7b10d5e2be55c", func := "loop.example/g01007/laws.FnExactTwoLengths", spec := "fnExactTwoLengths", unfollowed := true, recurses := true, apart := false, narrowed := true }
def FnExactTwoLengthsUptoSaid : Prop := fnExactTwoLengthsUptoRow.holds Try.pinned (OpenSpec.upto fnExactTwoLengthsSpec)

/-- 'laws.FnExactGapLengths', WHERE WHAT IT READS IS OF BULK AT MOST 1048576: true; the input reads as it did. -/
def fnExactGapLengthsUptoRow : OpenClaim := { program := "ytckigilfjdcfgaa", sum := "b1fb6a21bbe3f7053a6dd7b7ff83902247705655c170601ccbe7b10d5e2be55c", func := "loop.example/g01007/laws.FnExactGapLengths", spec := "fnExactGapLengths", unfollowed := true, recurses := true, apart := false, narrowed := true }
def FnExactGapLengthsUptoSaid : Prop := fnExactGapLengthsUptoRow.holds Try.pinned (OpenSpec.upto fnExactGapLengthsSpec)

/-- 'laws.FnGaps', WHERE WHAT IT READS IS OF BULK AT MOST 1048576: true; the input reads as it did. -/
def fnGapsUptoRow : OpenClaim := { program := "ytckigilfjdcfgaa", sum := "b1fb6a21bbe3f7053a6dd7b7ff83902247705655c170601ccbe7b10d5e2be55c", func := "loop.example/g01007/laws.FnGaps", spec := "fnGaps", unfollowed := true, recurses := true, apart := false, narrowed := true }
def FnGapsUptoSaid : Prop := fnGapsUptoRow.holds Try.pinned (OpenSpec.upto fnGapsSpec)

/-- 'laws.FnNextPoints', WHERE WHAT IT READS IS OF BULK AT MOST 1048576: true; the input reads as it did. -/
def fnNextPointsUptoRow : OpenClaim := { program := "ytckigilfjdcfgaa", sum := "b1fb6a21bbe3f7053a6dd7b7ff83902247705655c170601ccbe7b10d5e2be55c", func := "loop.example/g01007/laws.FnNextPoints", spec := "fnNextPoints", unfollowed := true, recurses := true, apart := false, narrowed := true }
def FnNextPointsUptoSaid : Prop := fnNextPointsUptoRow.holds Try.pinned (OpenSpec.upto fnNextPointsSpec)

end Rows
end Go.Proofs.Ytckigilfjdcfgaa
