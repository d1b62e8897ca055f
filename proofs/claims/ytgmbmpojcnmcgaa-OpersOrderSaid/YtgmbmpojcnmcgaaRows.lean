/-
  No cell of these rows narrows 'for every input' (looked for: loops, veiled, ifaces, maps, wideKeys, modest, calm, conditions, laid).
  DERIVED. THE GIVEN ROWS OF THIS SEAT. 9 by the template 'for every input the law returns true; each argument reads behind the call as it read before'; 0 by the template 'total and deterministic' (their statements: YtgmbmpojcnmcgaaTotals.lean).
  GIVEN WITH THE SEED: the statements are not yours to turn. If you find one false, say at which input.
  Laid BY PROGRAM, IN A SANDBOX (cutbox-rows.mjs): the forced cells as the released guide's own fill.sh prints them over the translation 3bad1392779aaeae… (all of the seat's roots in one cut). By AI agents, Wed Nov 11 2026. No macro, syntax, notation, axiom, sorry.
-/
import Derived.Test.YtgmbmpojcnmcgaaChecked
import GoSem.Claim
import GoSem.ClaimJoined
import GoSem.ClaimMapViews
import Derived.JoinedTies
import Derived.KernelRfl
namespace Go.Proofs.Ytgmbmpojcnmcgaa
/- THE CELL 'sum', in the pinned program and in every row, IS THE sha256 OF THE DUMP (.gsa) THAT YtgmbmpojcnmcgaaProg.lean LOADS. Nothing in Lean hashes anything: it is a label: what it is worth is what the hold of that sum in a sandbox is worth. -/
noncomputable def Try.pinned : Pinned := { name := "ytgmbmpojcnmcgaa", sum := "3bad1392779aaeae18f99d643eee4ab1ab31a664162c8d7dc873817f025e5a1a", checked := Try.checked }
namespace Rows
def none {H : Type} : Left H := { results := [], args := [] }

/-- 'tailracelaw13.OpersRun': WHATEVER THE INPUT: true; the input reads as it did. -/
def opersRunSpec : ChangeSpec := { name := "opersRun", fn := fun _ => fun
  | [d1, d2] => { results := [.lit (.bool true)], args := [d1, d2] }
  | _ => none }
def opersRunRow : OpenClaim := { program := "ytgmbmpojcnmcgaa", sum := "3bad1392779aaeae18f99d643eee4ab1ab31a664162c8d7dc873817f025e5a1a", func := "tailrace/tailracelaw13.OpersRun", spec := "opersRun", unfollowed := true, recurses := true, apart := false }
def OpersRunSaid : Prop := opersRunRow.holds Try.pinned (OpenSpec.ofChange opersRunSpec)

/-- ITS FALSE NEIGHBOUR: 'it returns false'. Refute it at one input. -/
def opersRunWrong : ChangeSpec := { name := "opersRun", fn := fun _ => fun
  | [d1, d2] => { results := [.lit (.bool false)], args := [d1, d2] }
  | _ => none }
def OpersRunWrongFalsely : Prop := opersRunRow.holds Try.pinned (OpenSpec.ofChange opersRunWrong)

/-- 'tailracelaw13.OpersTime': WHATEVER THE INPUT: true; the input reads as it did. -/
def opersTimeSpec : ChangeSpec := { name := "opersTime", fn := fun _ => fun
  | [d1, d2] => { results := [.lit (.bool true)], args := [d1, d2] }
  | _ => none }
def opersTimeRow : OpenClaim := { program := "ytgmbmpojcnmcgaa", sum := "3bad1392779aaeae18f99d643eee4ab1ab31a664162c8d7dc873817f025e5a1a", func := "tailrace/tailracelaw13.OpersTime", spec := "opersTime", unfollowed := true, recurses := true, apart := false }
def OpersTimeSaid : Prop := opersTimeRow.holds Try.pinned (OpenSpec.ofChange opersTimeSpec)

/-- ITS FALSE NEIGHBOUR: 'it returns false'. Refute it at one input. -/
def opersTimeWrong : ChangeSpec := { name := "opersTime", fn := fun _ => fun
  | [d1, d2] => { results := [.lit (.bool false)], args := [d1, d2] }
  | _ => none }
def OpersTimeWrongFalsely : Prop := opersTimeRow.holds Try.pinned (OpenSpec.ofChange opersTimeWrong)

/-- 'tailracelaw13.OpersOf': WHATEVER THE INPUT: true; the input reads as it did. -/
def opersOfSpec : ChangeSpec := { name := "opersOf", fn := fun _ => fun
  | [d1, d2, d3, d4] => { results := [.lit (.bool true)], args := [d1, d2, d3, d4] }
  | _ => none }
def opersOfRow : OpenClaim := { program := "ytgmbmpojcnmcgaa", sum := "3bad1392779aaeae18f99d643eee4ab1ab31a664162c8d7dc873817f025e5a1a", func := "tailrace/tailracelaw13.OpersOf", spec := "opersOf", unfollowed := true, recurses := true, apart := false }
def OpersOfSaid : Prop := opersOfRow.holds Try.pinned (OpenSpec.ofChange opersOfSpec)

/-- ITS FALSE NEIGHBOUR: 'it returns false'. Refute it at one input. -/
def opersOfWrong : ChangeSpec := { name := "opersOf", fn := fun _ => fun
  | [d1, d2, d3, d4] => { results := [.lit (.bool false)], args := [d1, d2, d3, d4] }
  | _ => none }
def OpersOfWrongFalsely : Prop := opersOfRow.holds Try.pinned (OpenSpec.ofChange opersOfWrong)

/-- 'tailracelaw13.OpersOrder': WHATEVER THE INPUT: true; the input reads as it did. -/
def opersOrderSpec : ChangeSpec := { name := "opersOrder", fn := fun _ => fun
  | [d1, d2, d3, d4] => { results := [.lit (.bool true)], args := [d1, d2, d3, d4] }
  | _ => none }
def opersOrderRow : OpenClaim := { program := "ytgmbmpojcnmcgaa", sum := "3bad1392779aaeae18f99d643eee4ab1ab31a664162c8d7dc873817f025e5a1a", func := "tailrace/tailracelaw13.OpersOrder", spec := "opersOrder", unfollowed := true, recurses := true, apart := false }
def OpersOrderSaid : Prop := opersOrderRow.holds Try.pinned (OpenSpec.ofChange opersOrderSpec)

/-- ITS FALSE NEIGHBOUR: 'it returns false'. Refute it at one input. -/
def opersOrderWrong : ChangeSpec := { name := "opersOrder", fn := fun _ => fun
  | [d1, d2, d3, d4] => { results := [.lit (.bool false)], args := [d1, d2, d3, d4] }
  | _ => none }
def OpersOrderWrongFalsely : Prop := opersOrderRow.holds Try.pinned (OpenSpec.ofChange opersOrderWrong)

/-- 'tailracelaw13.OpersApart': WHATEVER THE INPUT: true; the input reads as it did. -/
def opersApartSpec : ChangeSpec := { name := "opersApart", fn := fun _ => fun
  | [d1, d2, d3, d4, d5] => { results := [.lit (.bool true)], args := [d1, d2, d3, d4, d5] }
  | _ => none }
def opersApartRow : OpenClaim := { program := "ytgmbmpojcnmcgaa", sum := "3bad1392779aaeae18f99d643eee4ab1ab31a664162c8d7dc873817f025e5a1a", func := "tailrace/tailracelaw13.OpersApart", spec := "opersApart", unfollowed := true, recurses := true, apart := false }
def OpersApartSaid : Prop := opersApartRow.holds Try.pinned (OpenSpec.ofChange opersApartSpec)

/-- ITS FALSE NEIGHBOUR: 'it returns false'. Refute it at one input. -/
def opersApartWrong : ChangeSpec := { name := "opersApart", fn := fun _ => fun
  | [d1, d2, d3, d4, d5] => { results := [.lit (.bool false)], args := [d1, d2, d3, d4, d5] }
  | _ => none }
def OpersApartWrongFalsely : Prop := opersApartRow.holds Try.pinned (OpenSpec.ofChange opersApartWrong)

/-- 'tailracelaw13.OpersReduces': WHATEVER THE INPUT: true; the input reads as it did. -/
def opersReducesSpec : ChangeSpec := { name := "opersReduces", fn := fun _ => fun
  | [d] => { results := [.lit (.bool true)], args := [d] }
  | _ => none }
def opersReducesRow : OpenClaim := { program := "ytgmbmpojcnmcgaa", sum := "3bad1392779aaeae18f99d643eee4ab1ab31a664162c8d7dc873817f025e5a1a", func := "tailrace/tailracelaw13.OpersReduces", spec := "opersReduces", unfollowed := true, recurses := true, apart := false }
def OpersReducesSaid : Prop := opersReducesRow.holds Try.pinned (OpenSpec.ofChange opersReducesSpec)

/-- ITS FALSE NEIGHBOUR: 'it returns false'. Refute it at one input. -/
def opersReducesWrong : ChangeSpec := { name := "opersReduces", fn := fun _ => fun
  | [d] => { results := [.lit (.bool false)], args := [d] }
  | _ => none }
def OpersReducesWrongFalsely : Prop := opersReducesRow.holds Try.pinned (OpenSpec.ofChange opersReducesWrong)

/-- 'tailracelaw13.OpersJoins': WHATEVER THE INPUT: true; the input reads as it did. -/
def opersJoinsSpec : ChangeSpec := { name := "opersJoins", fn := fun _ => fun
  | [d1, d2, d3] => { results := [.lit (.bool true)], args := [d1, d2, d3] }
  | _ => none }
def opersJoinsRow : OpenClaim := { program := "ytgmbmpojcnmcgaa", sum := "3bad1392779aaeae18f99d643eee4ab1ab31a664162c8d7dc873817f025e5a1a", func := "tailrace/tailracelaw13.OpersJoins", spec := "opersJoins", unfollowed := true, recurses := true, apart := false }
def OpersJoinsSaid : Prop := opersJoinsRow.holds Try.pinned (OpenSpec.ofChange opersJoinsSpec)

/-- ITS FALSE NEIGHBOUR: 'it returns false'. Refute it at one input. -/
def opersJoinsWrong : ChangeSpec := { name := "opersJoins", fn := fun _ => fun
  | [d1, d2, d3] => { results := [.lit (.bool false)], args := [d1, d2, d3] }
  | _ => none }
def OpersJoinsWrongFalsely : Prop := opersJoinsRow.holds Try.pinned (OpenSpec.ofChange opersJoinsWrong)

/-- 'tailracelaw13.OpersKnown': WHATEVER THE INPUT: true; the input reads as it did. -/
def opersKnownSpec : ChangeSpec := { name := "opersKnown", fn := fun _ => fun
  | [] => { results := [.lit (.bool true)], args := [] }
  | _ => none }
def opersKnownRow : OpenClaim := { program := "ytgmbmpojcnmcgaa", sum := "3bad1392779aaeae18f99d643eee4ab1ab31a664162c8d7dc873817f025e5a1a", func := "tailrace/tailracelaw13.OpersKnown", spec := "opersKnown", unfollowed := true, recurses := true, apart := false }
def OpersKnownSaid : Prop := opersKnownRow.holds Try.pinned (OpenSpec.ofChange opersKnownSpec)

/-- ITS FALSE NEIGHBOUR: 'it returns false'. Refute it at one input. -/
def opersKnownWrong : ChangeSpec := { name := "opersKnown", fn := fun _ => fun
  | [] => { results := [.lit (.bool false)], args := [] }
  | _ => none }
def OpersKnownWrongFalsely : Prop := opersKnownRow.holds Try.pinned (OpenSpec.ofChange opersKnownWrong)

/-- 'tailracelaw13.OpersLater': WHATEVER THE INPUT: true; the input reads as it did. -/
def opersLaterSpec : ChangeSpec := { name := "opersLater", fn := fun _ => fun
  | [d1, d2, d3] => { results := [.lit (.bool true)], args := [d1, d2, d3] }
  | _ => none }
def opersLaterRow : OpenClaim := { program := "ytgmbmpojcnmcgaa", sum := "3bad1392779aaeae18f99d643eee4ab1ab31a664162c8d7dc873817f025e5a1a", func := "tailrace/tailracelaw13.OpersLater", spec := "opersLater", unfollowed := true, recurses := true, apart := false }
def OpersLaterSaid : Prop := opersLaterRow.holds Try.pinned (OpenSpec.ofChange opersLaterSpec)

/-- ITS FALSE NEIGHBOUR: 'it returns false'. Refute it at one input. -/
def opersLaterWrong : ChangeSpec := { name := "opersLater", fn := fun _ => fun
  | [d1, d2, d3] => { results := [.lit (.bool false)], args := [d1, d2, d3] }
  | _ => none }
def OpersLaterWrongFalsely : Prop := opersLaterRow.holds Try.pinned (OpenSpec.ofChange opersLaterWrong)

/- THE SECOND FORM. 'bulk': how many values and letters a reading holds, each counted each time it is reached (what is shared counts as often as it is met; a slice's spare places count too). A statement '..UptoSaid' is the law's where the arguments, and the package variables that the reading takes, are together of bulk at most 1048576: NARROWER than '..Said'. Prove '..Said' where nothing that the law and all that it calls make is longer than what came in: it says more and counts as full. Else prove '..UptoSaid'. A law counts once. -/
mutual
def uptoBulk {H : Type} : DataW H → Nat
  | .lit (.string bytes) => bytes.length + 1
  | .lit _ => 1
  | .nil => 1
  | .ptr d => uptoBulk d + 1
  | .slice elems spare => uptoBulkAll elems + uptoBulkAll spare + 1
  | .agg parts => uptoBulkAll parts + 1
  | .iface _ d => uptoBulk d + 1
  | .map entries => uptoBulkEntries entries + 1
  | .held _ => 1
def uptoBulkAll {H : Type} : List (DataW H) → Nat
  | [] => 0
  | d :: r => uptoBulk d + uptoBulkAll r
def uptoBulkEntries {H : Type} : List (Lit × DataW H) → Nat
  | [] => 0
  | x :: r => uptoBulkEntry x + uptoBulkEntries r
def uptoBulkEntry {H : Type} : Lit × DataW H → Nat
  | (.string bytes, d) => bytes.length + uptoBulk d + 1
  | (_, d) => uptoBulk d + 1
 end
def uptoSmall : (H : Type) → List (DataW H) → Bool := fun _ ds => decide (uptoBulkAll ds ≤ 1048576)
def OpenSpec.upto (s : _root_.Go.ChangeSpec) : _root_.Go.OpenSpec := { _root_.Go.OpenSpec.ofChange s with cond := some uptoSmall }

/-- 'tailracelaw13.OpersRun', WHERE WHAT IT READS IS OF BULK AT MOST 1048576: true; the input reads as it did. -/
def opersRunUptoRow : OpenClaim := { program := "ytgmbmpojcnmcgaa", sum := "3bad1392779aaeae18f99d643eee4ab1ab31a664162c8d7dc873817f025e5a1a", func := "tailrace/tailracelaw13.OpersRun", spec := "opersRun", unfollowed := true, recurses := true, apart := false, narrowed := true }
def OpersRunUptoSaid : Prop := opersRunUptoRow.holds Try.pinned (OpenSpec.upto opersRunSpec)

/-- 'tailracelaw13.OpersTime', WHERE WHAT IT READS IS OF BULK AT MOST 1048576: true; the input reads as it did. -/
def opersTimeUptoRow : OpenClaim := { program := "ytgmbmpojcnmcgaa", sum := "3bad1392779aaeae18f99d643eee4ab1ab31a664162c8d7dc873817f025e5a1a", func := "tailrace/tailracelaw13.OpersTime", spec := "opersTime", unfollowed := true, recurses := true, apart := false, narrowed := true }
def OpersTimeUptoSaid : Prop := opersTimeUptoRow.holds Try.pinned (OpenSpec.upto opersTimeSpec)

/-- 'tailracelaw13.OpersOf', WHERE WHAT IT READS IS OF BULK AT MOST 1048576: true; the input reads as it did. -/
def opersOfUptoRow : OpenClaim := { program := "ytgmbmpojcnmcgaa", sum := "3bad1392779aaeae18f99d643eee4ab1ab31a664162c8d7dc873817f025e5a1a", func := "tailrace/tailracelaw13.OpersOf", spec := "opersOf", unfollowed := true, recurses := true, apart := false, narrowed := true }
def OpersOfUptoSaid : Prop := opersOfUptoRow.holds Try.pinned (OpenSpec.upto opersOfSpec)

/-- 'tailracelaw13.OpersOrder', WHERE WHAT IT READS IS OF BULK AT MOST 1048576: true; the input reads as it did. -/
def opersOrderUptoRow : OpenClaim := { program := "ytgmbmpojcnmcgaa", sum := "3bad1392779aaeae18f99d643eee4ab1ab31a664162c8d7dc873817f025e5a1a", func := "tailrace/tailracelaw13.OpersOrder", spec := "opersOrder", unfollowed := true, recurses := true, apart := false, narrowed := true }
def OpersOrderUptoSaid : Prop := opersOrderUptoRow.holds Try.pinned (OpenSpec.upto opersOrderSpec)

/-- 'tailracelaw13.OpersApart', WHERE WHAT IT READS IS OF BULK AT MOST 1048576: true; the input reads as it did. -/
def opersApartUptoRow : OpenClaim := { program := "ytgmbmpojcnmcgaa", sum := "3bad1392779aaeae18f99d643eee4ab1ab31a664162c8d7dc873817f025e5a1a", func := "tailrace/tailracelaw13.OpersApart", spec := "opersApart", unfollowed := true, recurses := true, apart := false, narrowed := true }
def OpersApartUptoSaid : Prop := opersApartUptoRow.holds Try.pinned (OpenSpec.upto opersApartSpec)

/-- 'tailracelaw13.OpersReduces', WHERE WHAT IT READS IS OF BULK AT MOST 1048576: true; the input reads as it did. -/
def opersReducesUptoRow : OpenClaim := { program := "ytgmbmpojcnmcgaa", sum := "3bad1392779aaeae18f99d643eee4ab1ab31a664162c8d7dc873817f025e5a1a", func := "tailrace/tailracelaw13.OpersReduces", spec := "opersReduces", unfollowed := true, recurses := true, apart := false, narrowed := true }
def OpersReducesUptoSaid : Prop := opersReducesUptoRow.holds Try.pinned (OpenSpec.upto opersReducesSpec)

/-- 'tailracelaw13.OpersJoins', WHERE WHAT IT READS IS OF BULK AT MOST 1048576: true; the input reads as it did. -/
def opersJoinsUptoRow : OpenClaim := { program := "ytgmbmpojcnmcgaa", sum := "3bad1392779aaeae18f99d643eee4ab1ab31a664162c8d7dc873817f025e5a1a", func := "tailrace/tailracelaw13.OpersJoins", spec := "opersJoins", unfollowed := true, recurses := true, apart := false, narrowed := true }
def OpersJoinsUptoSaid : Prop := opersJoinsUptoRow.holds Try.pinned (OpenSpec.upto opersJoinsSpec)

/-- 'tailracelaw13.OpersKnown', WHERE WHAT IT READS IS OF BULK AT MOST 1048576: true; the input reads as it did. -/
def opersKnownUptoRow : OpenClaim := { program := "ytgmbmpojcnmcgaa", sum := "3bad1392779aaeae18f99d643eee4ab1ab31a664162c8d7dc873817f025e5a1a", func := "tailrace/tailracelaw13.OpersKnown", spec := "opersKnown", unfollowed := true, recurses := true, apart := false, narrowed := true }
def OpersKnownUptoSaid : Prop := opersKnownUptoRow.holds Try.pinned (OpenSpec.upto opersKnownSpec)

/-- 'tailracelaw13.OpersLater', WHERE WHAT IT READS IS OF BULK AT MOST 1048576: true; the input reads as it did. -/
def opersLaterUptoRow : OpenClaim := { program := "ytgmbmpojcnmcgaa", sum := "3bad1392779aaeae18f99d643eee4ab1ab31a664162c8d7dc873817f025e5a1a", func := "tailrace/tailracelaw13.OpersLater", spec := "opersLater", unfollowed := true, recurses := true, apart := false, narrowed := true }
def OpersLaterUptoSaid : Prop := opersLaterUptoRow.holds Try.pinned (OpenSpec.upto opersLaterSpec)

end Rows
end Go.Proofs.Ytgmbmpojcnmcgaa
