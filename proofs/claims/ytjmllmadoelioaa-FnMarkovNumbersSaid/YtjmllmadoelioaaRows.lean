/-
  No cell of these rows narrows 'for every input' (looked for: loops, veiled, ifaces, maps, wideKeys, modest, calm, conditions, laid).
  DERIVED. THE GIVEN ROWS OF THIS SEAT. 7 by the template 'for every input the law returns true; each argument reads behind the call as it read before'; 0 by the template 'total and deterministic' (their statements: YtjmllmadoelioaaTotals.lean).
  GIVEN WITH THE SEED: the statements are not yours to turn. If you find one false, say at which input.
  Laid BY PROGRAM, IN A SANDBOX (cutbox-rows.mjs): the forced cells as the released guide's own fill.sh prints them over the translation 059b216ca22b83ba… (all of the seat's roots in one cut). By AI agents, Wed Nov 11 2026. No macro, syntax, notation, axiom, sorry.
-/
import Derived.Test.YtjmllmadoelioaaChecked
import GoSem.Claim
import GoSem.ClaimJoined
import GoSem.ClaimMapViews
import Derived.JoinedTies
import Derived.KernelRfl
namespace Go.Proofs.Ytjmllmadoelioaa
/- THE CELL 'sum', in the pinned program and in every row, IS THE sha256 OF THE DUMP (.gsa) THAT YtjmllmadoelioaaProg.lean LOADS. Nothing in Lean hashes anything: it is a label: what it is worth is what the hold of that sum in a sandbox is worth. -/
noncomputable def Try.pinned : Pinned := { name := "ytjmllmadoelioaa", sum := "059b216ca22b83ba5ceadcb07f70b104aecafb5584f20b407183f6e02a9eaeac", checked := Try.checked }
namespace Rows
def none {H : Type} : Left H := { results := [], args := [] }

/-- 'laws.FnExactTripleParent': WHATEVER THE INPUT: true; the input reads as it did. -/
def fnExactTripleParentSpec : ChangeSpec := { name := "fnExactTripleParent", fn := fun _ => fun
  | [d] => { results := [.lit (.bool true)], args := [d] }
  | _ => none }
def fnExactTripleParentRow : OpenClaim := { program := "ytjmllmadoelioaa", sum := "059b216ca22b83ba5ceadcb07f70b104aecafb5584f20b407183f6e02a9eaeac", func := "loop.example/g01007/laws.FnExactTripleParent", spec := "fnExactTripleParent", recurses := true, apart := false }
def FnExactTripleParentSaid : Prop := fnExactTripleParentRow.holds Try.pinned (OpenSpec.ofChange fnExactTripleParentSpec)

/-- ITS FALSE NEIGHBOUR: 'it returns false'. Refute it at one input. -/
def fnExactTripleParentWrong : ChangeSpec := { name := "fnExactTripleParent", fn := fun _ => fun
  | [d] => { results := [.lit (.bool false)], args := [d] }
  | _ => none }
def FnExactTripleParentWrongFalsely : Prop := fnExactTripleParentRow.holds Try.pinned (OpenSpec.ofChange fnExactTripleParentWrong)

/-- 'laws.FnExactTriplePath': WHATEVER THE INPUT: true; the input reads as it did. -/
def fnExactTriplePathSpec : ChangeSpec := { name := "fnExactTriplePath", fn := fun _ => fun
  | [d] => { results := [.lit (.bool true)], args := [d] }
  | _ => none }
def fnExactTriplePathRow : OpenClaim := { program := "ytjmllmadoelioaa", sum := "059b216ca22b83ba5ceadcb07f70b104aecafb5584f20b407183f6e02a9eaeac", func := "loop.example/g01007/laws.FnExactTriplePath", spec := "fnExactTriplePath", recurses := true, apart := false }
def FnExactTriplePathSaid : Prop := fnExactTriplePathRow.holds Try.pinned (OpenSpec.ofChange fnExactTriplePathSpec)

/-- ITS FALSE NEIGHBOUR: 'it returns false'. Refute it at one input. -/
def fnExactTriplePathWrong : ChangeSpec := { name := "fnExactTriplePath", fn := fun _ => fun
  | [d] => { results := [.lit (.bool false)], args := [d] }
  | _ => none }
def FnExactTriplePathWrongFalsely : Prop := fnExactTriplePathRow.holds Try.pinned (OpenSpec.ofChange fnExactTriplePathWrong)

/-- 'laws.FnExactIsMarkov': WHATEVER THE INPUT: true; the input reads as it did. -/
def fnExactIsMarkovSpec : ChangeSpec := { name := "fnExactIsMarkov", fn := fun _ => fun
  | [d] => { results := [.lit (.bool true)], args := [d] }
  | _ => none }
def fnExactIsMarkovRow : OpenClaim := { program := "ytjmllmadoelioaa", sum := "059b216ca22b83ba5ceadcb07f70b104aecafb5584f20b407183f6e02a9eaeac", func := "loop.example/g01007/laws.FnExactIsMarkov", spec := "fnExactIsMarkov", recurses := true, apart := false }
def FnExactIsMarkovSaid : Prop := fnExactIsMarkovRow.holds Try.pinned (OpenSpec.ofChange fnExactIsMarkovSpec)

/-- ITS FALSE NEIGHBOUR: 'it returns false'. Refute it at one input. -/
def fnExactIsMarkovWrong : ChangeSpec := { name := "fnExactIsMarkov", fn := fun _ => fun
  | [d] => { results := [.lit (.bool false)], args := [d] }
  | _ => none }
def FnExactIsMarkovWrongFalsely : Prop := fnExactIsMarkovRow.holds Try.pinned (OpenSpec.ofChange fnExactIsMarkovWrong)

/-- 'laws.FnExactTriplesOf': WHATEVER THE INPUT: true; the input reads as it did. -/
def fnExactTriplesOfSpec : ChangeSpec := { name := "fnExactTriplesOf", fn := fun _ => fun
  | [d] => { results := [.lit (.bool true)], args := [d] }
  | _ => none }
def fnExactTriplesOfRow : OpenClaim := { program := "ytjmllmadoelioaa", sum := "059b216ca22b83ba5ceadcb07f70b104aecafb5584f20b407183f6e02a9eaeac", func := "loop.example/g01007/laws.FnExactTriplesOf", spec := "fnExactTriplesOf", unfollowed := true, recurses := true, apart := false }
def FnExactTriplesOfSaid : Prop := fnExactTriplesOfRow.holds Try.pinned (OpenSpec.ofChange fnExactTriplesOfSpec)

/-- ITS FALSE NEIGHBOUR: 'it returns false'. Refute it at one input. -/
def fnExactTriplesOfWrong : ChangeSpec := { name := "fnExactTriplesOf", fn := fun _ => fun
  | [d] => { results := [.lit (.bool false)], args := [d] }
  | _ => none }
def FnExactTriplesOfWrongFalsely : Prop := fnExactTriplesOfRow.holds Try.pinned (OpenSpec.ofChange fnExactTriplesOfWrong)

/-- 'laws.FnExactLagrangeSquare': WHATEVER THE INPUT: true; the input reads as it did. -/
def fnExactLagrangeSquareSpec : ChangeSpec := { name := "fnExactLagrangeSquare", fn := fun _ => fun
  | [d] => { results := [.lit (.bool true)], args := [d] }
  | _ => none }
def fnExactLagrangeSquareRow : OpenClaim := { program := "ytjmllmadoelioaa", sum := "059b216ca22b83ba5ceadcb07f70b104aecafb5584f20b407183f6e02a9eaeac", func := "loop.example/g01007/laws.FnExactLagrangeSquare", spec := "fnExactLagrangeSquare", recurses := true, apart := false }
def FnExactLagrangeSquareSaid : Prop := fnExactLagrangeSquareRow.holds Try.pinned (OpenSpec.ofChange fnExactLagrangeSquareSpec)

/-- ITS FALSE NEIGHBOUR: 'it returns false'. Refute it at one input. -/
def fnExactLagrangeSquareWrong : ChangeSpec := { name := "fnExactLagrangeSquare", fn := fun _ => fun
  | [d] => { results := [.lit (.bool false)], args := [d] }
  | _ => none }
def FnExactLagrangeSquareWrongFalsely : Prop := fnExactLagrangeSquareRow.holds Try.pinned (OpenSpec.ofChange fnExactLagrangeSquareWrong)

/-- 'laws.FnExactMarkovNumbers': WHATEVER THE INPUT: true; the input reads as it did. -/
def fnExactMarkovNumbersSpec : ChangeSpec := { name := "fnExactMarkovNumbers", fn := fun _ => fun
  | [d] => { results := [.lit (.bool true)], args := [d] }
  | _ => none }
def fnExactMarkovNumbersRow : OpenClaim := { program := "ytjmllmadoelioaa", sum := "059b216ca22b83ba5ceadcb07f70b104aecafb5584f20b407183f6e02a9eaeac", func := "loop.example/g01007/laws.FnExactMarkovNumbers", spec := "fnExactMarkovNumbers", recurses := true, apart := false }
def FnExactMarkovNumbersSaid : Prop := fnExactMarkovNumbersRow.holds Try.pinned (OpenSpec.ofChange fnExactMarkovNumbersSpec)

/-- ITS FALSE NEIGHBOUR: 'it returns false'. Refute it at one input. -/
def fnExactMarkovNumbersWrong : ChangeSpec := { name := "fnExactMarkovNumbers", fn := fun _ => fun
  | [d] => { results := [.lit (.bool false)], args := [d] }
  | _ => none }
def FnExactMarkovNumbersWrongFalsely : Prop := fnExactMarkovNumbersRow.holds Try.pinned (OpenSpec.ofChange fnExactMarkovNumbersWrong)

/-- 'laws.FnMarkovNumbers': WHATEVER THE INPUT: true; the input reads as it did. -/
def fnMarkovNumbersSpec : ChangeSpec := { name := "fnMarkovNumbers", fn := fun _ => fun
  | [d] => { results := [.lit (.bool true)], args := [d] }
  | _ => none }
def fnMarkovNumbersRow : OpenClaim := { program := "ytjmllmadoelioaa", sum := "059b216ca22b83ba5ceadcb07f70b104aecafb5584f20b407183f6e02a9eaeac", func := "loop.example/g01007/laws.FnMarkovNumbers", spec := "fnMarkovNumbers", unfollowed := true, recurses := true, apart := false }
def FnMarkovNumbersSaid : Prop := fnMarkovNumbersRow.holds Try.pinned (OpenSpec.ofChange fnMarkovNumbersSpec)

/-- ITS FALSE NEIGHBOUR: 'it returns false'. Refute it at one input. -/
def fnMarkovNumbersWrong : ChangeSpec := { name := "fnMarkovNumbers", fn := fun _ => fun
  | [d] => { results := [.lit (.bool false)], args := [d] }
  | _ => none }
def FnMarkovNumbersWrongFalsely : Prop := fnMarkovNumbersRow.holds Try.pinned (OpenSpec.ofChange fnMarkovNumbersWrong)

/- THE SECOND FORM. 'bulk': how many values and letters a reading holds, each counted each time it is reached (what is shared counts as often as it is met; a slice's spare places count too). A statement '..UptoSaid' is the law's where the arguments, and the package variables that the reading takes, are together of bulk at most 1048576: NARROWER than '..Said'. Prove '..Said' where nothing that the law and all that it calls make is longer than what came in: it says more and counts as full. Else prove '..UptoSaid'. A law counts once. -/
mutual
def uptoBulk {H : Type} : DataW H → Nat
  | .lit (.string bytes) => bytes.length + 1
  | .lit _ => 1
  | .nil => 1
  | .ptr d => uptoBulk d + 1
  | .slice elems spare => uptoBulkAll elems + uptoBulkAll spare + 1
  | .agg parts => uptoBulkAll parts + 1
  | .iface _ d => uptoBulk d + 1
  | .map entries => uptoBulkEntries entries + 1
  | .held _ => 1
def uptoBulkAll {H : Type} : List (DataW H) → Nat
  | [] => 0
  | d :: r => uptoBulk d + uptoBulkAll r
def uptoBulkEntries {H : Type} : List (Lit × DataW H) → Nat
  | [] => 0
  | x :: r => uptoBulkEntry x + uptoBulkEntries r
def uptoBulkEntry {H : Type} : Lit × DataW H → Nat
  | (.string bytes, d) => bytes.length + uptoBulk d + 1
  | (_, d) => uptoBulk d + 1
 end
def uptoSmall : (H : Type) → List (DataW H) → Bool := fun _ ds => decide (uptoBulkAll ds ≤ 1048576)
def OpenSpec.upto (s : _root_.Go.ChangeSpec) : _root_.Go.OpenSpec := { _root_.Go.OpenSpec.ofChange s with cond := some uptoSmall }

/-- 'laws.FnExactTripleParent', WHERE WHAT IT READS IS OF BULK AT MOST 1048576: true; the input reads as it did. -/
def fnExactTripleParentUptoRow : OpenClaim := { program := "ytjmllmadoelioaa", sum := "059b216ca22b83ba5ceadcb07f70b104aecafb5584f20b407183f6e02a9eaeac", func := "loop.example/g01007/laws.FnExactTripleParent", spec := "fnExactTripleParent", recurses := true, apart := false, narrowed := true }
def FnExactTripleParentUptoSaid : Prop := fnExactTripleParentUptoRow.holds Try.pinned (OpenSpec.upto fnExactTripleParentSpec)

/-- 'laws.FnExactTriplePath', WHERE WHAT IT READS IS OF BULK AT MOST 1048576: true; the input reads as it did. -/
def fnExactTriplePathUptoRow : OpenClaim := { program := "ytjmllmadoelioaa", sum := "059b216ca22b83ba5ceadcb07f70b104aecafb5584f20b407183f6e02a9eaeac", func := "loop.example/g01007/laws.FnExactTriplePath", spec := "fnExactTriplePath", recurses := true, apart := false, narrowed := true }
def FnExactTriplePathUptoSaid : Prop := fnExactTriplePathUptoRow.holds Try.pinned (OpenSpec.upto fnExactTriplePathSpec)

/-- 'laws.FnExactIsMarkov', WHERE WHAT IT READS IS OF BULK AT MOST 1048576: true; the input reads as it did. -/
def fnExactIsMarkovUptoRow : OpenClaim := { program := "ytjmllmadoelioaa", sum := "059b216ca22b83ba5ceadcb07f70b104aecafb5584f20b407183f6e02a9eaeac", func := "loop.example/g01007/laws.FnExactIsMarkov", spec := "fnExactIsMarkov", recurses := true, apart := false, narrowed := true }
def FnExactIsMarkovUptoSaid : Prop := fnExactIsMarkovUptoRow.holds Try.pinned (OpenSpec.upto fnExactIsMarkovSpec)

/-- 'laws.FnExactTriplesOf', WHERE WHAT IT READS IS OF BULK AT MOST 1048576: true; the input reads as it did. -/
def fnExactTriplesOfUptoRow : OpenClaim := { program := "ytjmllmadoelioaa", sum := "059b216ca22b83ba5ceadcb07f70b104aecafb5584f20b407183f6e02a9eaeac", func := "loop.example/g01007/laws.FnExactTriplesOf", spec := "fnExactTriplesOf", unfollowed := true, recurses := true, apart := false, narrowed := true }
def FnExactTriplesOfUptoSaid : Prop := fnExactTriplesOfUptoRow.holds Try.pinned (OpenSpec.upto fnExactTriplesOfSpec)

/-- 'laws.FnExactLagrangeSquare', WHERE WHAT IT READS IS OF BULK AT MOST 1048576: true; the input reads as it did. -/
def fnExactLagrangeSquareUptoRow : OpenClaim := { program := "ytjmllmadoelioaa", sum := "059b216ca22b83ba5ceadcb07f70b104aecafb5584f20b407183f6e02a9eaeac", func := "loop.example/g01007/laws.FnExactLagrangeSquare", spec := "fnExactLagrangeSquare", recurses := true, apart := false, narrowed := true }
def FnExactLagrangeSquareUptoSaid : Prop := fnExactLagrangeSquareUptoRow.holds Try.pinned (OpenSpec.upto fnExactLagrangeSquareSpec)

/-- 'laws.FnExactMarkovNumbers', WHERE WHAT IT READS IS OF BULK AT MOST 1048576: true; the input reads as it did. -/
def fnExactMarkovNumbersUptoRow : OpenClaim := { program := "ytjmllmadoelioaa", sum := "059b216ca22b83ba5ceadcb07f70b104aecafb5584f20b407183f6e02a9eaeac", func := "loop.example/g01007/laws.FnExactMarkovNumbers", spec := "fnExactMarkovNumbers", recurses := true, apart := false, narrowed := true }
def FnExactMarkovNumbersUptoSaid : Prop := fnExactMarkovNumbersUptoRow.holds Try.pinned (OpenSpec.upto fnExactMarkovNumbersSpec)

/-- 'laws.FnMarkovNumbers', WHERE WHAT IT READS IS OF BULK AT MOST 1048576: true; the input reads as it did. -/
def fnMarkovNumbersUptoRow : OpenClaim := { program := "ytjmllmadoelioaa", sum := "059b216ca22b83ba5ceadcb07f70b104aecafb5584f20b407183f6e02a9eaeac", func := "loop.example/g01007/laws.FnMarkovNumbers", spec := "fnMarkovNumbers", unfollowed := true, recurses := true, apart := false, narrowed := true }
def FnMarkovNumbersUptoSaid : Prop := fnMarkovNumbersUptoRow.holds Try.pinned (OpenSpec.upto fnMarkovNumbersSpec)

end Rows
end Go.Proofs.Ytjmllmadoelioaa
