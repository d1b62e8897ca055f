/-
  No cell of these rows narrows 'for every input' (looked for: loops, veiled, ifaces, maps, wideKeys, modest, calm, conditions, laid).
  DERIVED. THE GIVEN ROWS OF THIS SEAT. 8 by the template 'for every input the law returns true; each argument reads behind the call as it read before'; 0 by the template 'total and deterministic' (their statements: YtjikhbdpkddbgaaTotals.lean).
  GIVEN WITH THE SEED: the statements are not yours to turn. If you find one false, say at which input.
  Laid BY PROGRAM, IN A SANDBOX (cutbox-rows.mjs): the forced cells as the released guide's own fill.sh prints them over the translation 96286983fc950980… (all of the seat's roots in one cut). By AI agents, Wed Nov 11 2026. No macro, syntax, notation, axiom, sorry.
-/
import Derived.Test.YtjikhbdpkddbgaaChecked
import GoSem.Claim
import GoSem.ClaimJoined
import GoSem.ClaimMapViews
import Derived.JoinedTies
import Derived.KernelRfl
namespace Go.Proofs.Ytjikhbdpkddbgaa
/- THE CELL 'sum', in the pinned program and in every row, IS THE sha256 OF THE DUMP (.gsa) THAT YtjikhbdpkddbgaaProg.lean LOADS. Nothing in Lean hashes anything: it is a label: what it is worth is what the hold of that sum in a sandbox is worth. -/
noncomputable def Try.pinned : Pinned := { name := "ytjikhbdpkddbgaa", sum := "96286983fc950980686dca6985e63bd77af4b9819c54f321cba4717e918ac3bf", checked := Try.checked }
namespace Rows
def none {H : Type} : Left H := { results := [], args := [] }

/-- 'tailracelaw09.FlowPut': WHATEVER THE INPUT: true; the input reads as it did. -/
def flowPutSpec : ChangeSpec := { name := "flowPut", fn := fun _ => fun
  | [d] => { results := [.lit (.bool true)], args := [d] }
  | _ => none }
def flowPutRow : OpenClaim := { program := "ytjikhbdpkddbgaa", sum := "96286983fc950980686dca6985e63bd77af4b9819c54f321cba4717e918ac3bf", func := "tailrace/tailracelaw09.FlowPut", spec := "flowPut", unfollowed := true, recurses := true, apart := false }
def FlowPutSaid : Prop := flowPutRow.holds Try.pinned (OpenSpec.ofChange flowPutSpec)

/-- ITS FALSE NEIGHBOUR: 'it returns false'. Refute it at one input. -/
def flowPutWrong : ChangeSpec := { name := "flowPut", fn := fun _ => fun
  | [d] => { results := [.lit (.bool false)], args := [d] }
  | _ => none }
def FlowPutWrongFalsely : Prop := flowPutRow.holds Try.pinned (OpenSpec.ofChange flowPutWrong)

/-- 'tailracelaw09.FlowGet': WHATEVER THE INPUT: true; the input reads as it did. -/
def flowGetSpec : ChangeSpec := { name := "flowGet", fn := fun _ => fun
  | [d] => { results := [.lit (.bool true)], args := [d] }
  | _ => none }
def flowGetRow : OpenClaim := { program := "ytjikhbdpkddbgaa", sum := "96286983fc950980686dca6985e63bd77af4b9819c54f321cba4717e918ac3bf", func := "tailrace/tailracelaw09.FlowGet", spec := "flowGet", unfollowed := true, recurses := true, apart := false }
def FlowGetSaid : Prop := flowGetRow.holds Try.pinned (OpenSpec.ofChange flowGetSpec)

/-- ITS FALSE NEIGHBOUR: 'it returns false'. Refute it at one input. -/
def flowGetWrong : ChangeSpec := { name := "flowGet", fn := fun _ => fun
  | [d] => { results := [.lit (.bool false)], args := [d] }
  | _ => none }
def FlowGetWrongFalsely : Prop := flowGetRow.holds Try.pinned (OpenSpec.ofChange flowGetWrong)

/-- 'tailracelaw09.FlowBack': WHATEVER THE INPUT: true; the input reads as it did. -/
def flowBackSpec : ChangeSpec := { name := "flowBack", fn := fun _ => fun
  | [d1, d2, d3] => { results := [.lit (.bool true)], args := [d1, d2, d3] }
  | _ => none }
def flowBackRow : OpenClaim := { program := "ytjikhbdpkddbgaa", sum := "96286983fc950980686dca6985e63bd77af4b9819c54f321cba4717e918ac3bf", func := "tailrace/tailracelaw09.FlowBack", spec := "flowBack", unfollowed := true, recurses := true, apart := false }
def FlowBackSaid : Prop := flowBackRow.holds Try.pinned (OpenSpec.ofChange flowBackSpec)

/-- ITS FALSE NEIGHBOUR: 'it returns false'. Refute it at one input. -/
def flowBackWrong : ChangeSpec := { name := "flowBack", fn := fun _ => fun
  | [d1, d2, d3] => { results := [.lit (.bool false)], args := [d1, d2, d3] }
  | _ => none }
def FlowBackWrongFalsely : Prop := flowBackRow.holds Try.pinned (OpenSpec.ofChange flowBackWrong)

/-- 'tailracelaw09.FlowTo': WHATEVER THE INPUT: true; the input reads as it did. -/
def flowToSpec : ChangeSpec := { name := "flowTo", fn := fun _ => fun
  | [d1, d2] => { results := [.lit (.bool true)], args := [d1, d2] }
  | _ => none }
def flowToRow : OpenClaim := { program := "ytjikhbdpkddbgaa", sum := "96286983fc950980686dca6985e63bd77af4b9819c54f321cba4717e918ac3bf", func := "tailrace/tailracelaw09.FlowTo", spec := "flowTo", unfollowed := true, recurses := true, apart := false }
def FlowToSaid : Prop := flowToRow.holds Try.pinned (OpenSpec.ofChange flowToSpec)

/-- ITS FALSE NEIGHBOUR: 'it returns false'. Refute it at one input. -/
def flowToWrong : ChangeSpec := { name := "flowTo", fn := fun _ => fun
  | [d1, d2] => { results := [.lit (.bool false)], args := [d1, d2] }
  | _ => none }
def FlowToWrongFalsely : Prop := flowToRow.holds Try.pinned (OpenSpec.ofChange flowToWrong)

/-- 'tailracelaw09.FlowSame': WHATEVER THE INPUT: true; the input reads as it did. -/
def flowSameSpec : ChangeSpec := { name := "flowSame", fn := fun _ => fun
  | [d1, d2] => { results := [.lit (.bool true)], args := [d1, d2] }
  | _ => none }
def flowSameRow : OpenClaim := { program := "ytjikhbdpkddbgaa", sum := "96286983fc950980686dca6985e63bd77af4b9819c54f321cba4717e918ac3bf", func := "tailrace/tailracelaw09.FlowSame", spec := "flowSame", unfollowed := true, recurses := true, apart := false }
def FlowSameSaid : Prop := flowSameRow.holds Try.pinned (OpenSpec.ofChange flowSameSpec)

/-- ITS FALSE NEIGHBOUR: 'it returns false'. Refute it at one input. -/
def flowSameWrong : ChangeSpec := { name := "flowSame", fn := fun _ => fun
  | [d1, d2] => { results := [.lit (.bool false)], args := [d1, d2] }
  | _ => none }
def FlowSameWrongFalsely : Prop := flowSameRow.holds Try.pinned (OpenSpec.ofChange flowSameWrong)

/-- 'tailracelaw09.FlowApart': WHATEVER THE INPUT: true; the input reads as it did. -/
def flowApartSpec : ChangeSpec := { name := "flowApart", fn := fun _ => fun
  | [d1, d2] => { results := [.lit (.bool true)], args := [d1, d2] }
  | _ => none }
def flowApartRow : OpenClaim := { program := "ytjikhbdpkddbgaa", sum := "96286983fc950980686dca6985e63bd77af4b9819c54f321cba4717e918ac3bf", func := "tailrace/tailracelaw09.FlowApart", spec := "flowApart", unfollowed := true, recurses := true, apart := false }
def FlowApartSaid : Prop := flowApartRow.holds Try.pinned (OpenSpec.ofChange flowApartSpec)

/-- ITS FALSE NEIGHBOUR: 'it returns false'. Refute it at one input. -/
def flowApartWrong : ChangeSpec := { name := "flowApart", fn := fun _ => fun
  | [d1, d2] => { results := [.lit (.bool false)], args := [d1, d2] }
  | _ => none }
def FlowApartWrongFalsely : Prop := flowApartRow.holds Try.pinned (OpenSpec.ofChange flowApartWrong)

/-- 'tailracelaw09.FlowFed': WHATEVER THE INPUT: true; the input reads as it did. -/
def flowFedSpec : ChangeSpec := { name := "flowFed", fn := fun _ => fun
  | [d1, d2] => { results := [.lit (.bool true)], args := [d1, d2] }
  | _ => none }
def flowFedRow : OpenClaim := { program := "ytjikhbdpkddbgaa", sum := "96286983fc950980686dca6985e63bd77af4b9819c54f321cba4717e918ac3bf", func := "tailrace/tailracelaw09.FlowFed", spec := "flowFed", unfollowed := true, recurses := true, apart := false }
def FlowFedSaid : Prop := flowFedRow.holds Try.pinned (OpenSpec.ofChange flowFedSpec)

/-- ITS FALSE NEIGHBOUR: 'it returns false'. Refute it at one input. -/
def flowFedWrong : ChangeSpec := { name := "flowFed", fn := fun _ => fun
  | [d1, d2] => { results := [.lit (.bool false)], args := [d1, d2] }
  | _ => none }
def FlowFedWrongFalsely : Prop := flowFedRow.holds Try.pinned (OpenSpec.ofChange flowFedWrong)

/-- 'tailracelaw09.FlowKnown': WHATEVER THE INPUT: true; the input reads as it did. -/
def flowKnownSpec : ChangeSpec := { name := "flowKnown", fn := fun _ => fun
  | [] => { results := [.lit (.bool true)], args := [] }
  | _ => none }
def flowKnownRow : OpenClaim := { program := "ytjikhbdpkddbgaa", sum := "96286983fc950980686dca6985e63bd77af4b9819c54f321cba4717e918ac3bf", func := "tailrace/tailracelaw09.FlowKnown", spec := "flowKnown", unfollowed := true, recurses := true, apart := false }
def FlowKnownSaid : Prop := flowKnownRow.holds Try.pinned (OpenSpec.ofChange flowKnownSpec)

/-- ITS FALSE NEIGHBOUR: 'it returns false'. Refute it at one input. -/
def flowKnownWrong : ChangeSpec := { name := "flowKnown", fn := fun _ => fun
  | [] => { results := [.lit (.bool false)], args := [] }
  | _ => none }
def FlowKnownWrongFalsely : Prop := flowKnownRow.holds Try.pinned (OpenSpec.ofChange flowKnownWrong)

/- THE SECOND FORM. 'bulk': how many values and letters a reading holds, each counted each time it is reached (what is shared counts as often as it is met; a slice's spare places count too). A statement '..UptoSaid' is the law's where the arguments, and the package variables that the reading takes, are together of bulk at most 1048576: NARROWER than '..Said'. Prove '..Said' where nothing that the law and all that it calls make is longer than what came in: it says more and counts as full. Else prove '..UptoSaid'. A law counts once. -/
mutual
def uptoBulk {H : Type} : DataW H → Nat
  | .lit (.string bytes) => bytes.length + 1
  | .lit _ => 1
  | .nil => 1
  | .ptr d => uptoBulk d + 1
  | .slice elems spare => uptoBulkAll elems + uptoBulkAll spare + 1
  | .agg parts => uptoBulkAll parts + 1
  | .iface _ d => uptoBulk d + 1
  | .map entries => uptoBulkEntries entries + 1
  | .held _ => 1
def uptoBulkAll {H : Type} : List (DataW H) → Nat
  | [] => 0
  | d :: r => uptoBulk d + uptoBulkAll r
def uptoBulkEntries {H : Type} : List (Lit × DataW H) → Nat
  | [] => 0
  | x :: r => uptoBulkEntry x + uptoBulkEntries r
def uptoBulkEntry {H : Type} : Lit × DataW H → Nat
  | (.string bytes, d) => bytes.length + uptoBulk d + 1
  | (_, d) => uptoBulk d + 1
 end
def uptoSmall : (H : Type) → List (DataW H) → Bool := fun _ ds => decide (uptoBulkAll ds ≤ 1048576)
def OpenSpec.upto (s : _root_.Go.ChangeSpec) : _root_.Go.OpenSpec := { _root_.Go.OpenSpec.ofChange s with cond := some uptoSmall }

/-- 'tailracelaw09.FlowPut', WHERE WHAT IT READS IS OF BULK AT MOST 1048576: true; the input reads as it did. -/
def flowPutUptoRow : OpenClaim := { program := "ytjikhbdpkddbgaa", sum := "96286983fc950980686dca6985e63bd77af4b9819c54f321cba4717e918ac3bf", func := "tailrace/tailracelaw09.FlowPut", spec := "flowPut", unfollowed := true, recurses := true, apart := false, narrowed := true }
def FlowPutUptoSaid : Prop := flowPutUptoRow.holds Try.pinned (OpenSpec.upto flowPutSpec)

/-- 'tailracelaw09.FlowGet', WHERE WHAT IT READS IS OF BULK AT MOST 1048576: true; the input reads as it did. -/
def flowGetUptoRow : OpenClaim := { program := "ytjikhbdpkddbgaa", sum := "96286983fc950980686dca6985e63bd77af4b9819c54f321cba4717e918ac3bf", func := "tailrace/tailracelaw09.FlowGet", spec := "flowGet", unfollowed := true, recurses := true, apart := false, narrowed := true }
def FlowGetUptoSaid : Prop := flowGetUptoRow.holds Try.pinned (OpenSpec.upto flowGetSpec)

/-- 'tailracelaw09.FlowBack', WHERE WHAT IT READS IS OF BULK AT MOST 1048576: true; the input reads as it did. -/
def flowBackUptoRow : OpenClaim := { program := "ytjikhbdpkddbgaa", sum := "96286983fc950980686dca6985e63bd77af4b9819c54f321cba4717e918ac3bf", func := "tailrace/tailracelaw09.FlowBack", spec := "flowBack", unfollowed := true, recurses := true, apart := false, narrowed := true }
def FlowBackUptoSaid : Prop := flowBackUptoRow.holds Try.pinned (OpenSpec.upto flowBackSpec)

/-- 'tailracelaw09.FlowTo', WHERE WHAT IT READS IS OF BULK AT MOST 1048576: true; the input reads as it did. -/
def flowToUptoRow : OpenClaim := { program := "ytjikhbdpkddbgaa", sum := "96286983fc950980686dca6985e63bd77af4b9819c54f321cba4717e918ac3bf", func := "tailrace/tailracelaw09.FlowTo", spec := "flowTo", unfollowed := true, recurses := true, apart := false, narrowed := true }
def FlowToUptoSaid : Prop := flowToUptoRow.holds Try.pinned (OpenSpec.upto flowToSpec)

/-- 'tailracelaw09.FlowSame', WHERE WHAT IT READS IS OF BULK AT MOST 1048576: true; the input reads as it did. -/
def flowSameUptoRow : OpenClaim := { program := "ytjikhbdpkddbgaa", sum := "96286983fc950980686dca6985e63bd77af4b9819c54f321cba4717e918ac3bf", func := "tailrace/tailracelaw09.FlowSame", spec := "flowSame", unfollowed := true, recurses := true, apart := false, narrowed := true }
def FlowSameUptoSaid : Prop := flowSameUptoRow.holds Try.pinned (OpenSpec.upto flowSameSpec)

/-- 'tailracelaw09.FlowApart', WHERE WHAT IT READS IS OF BULK AT MOST 1048576: true; the input reads as it did. -/
def flowApartUptoRow : OpenClaim := { program := "ytjikhbdpkddbgaa", sum := "96286983fc950980686dca6985e63bd77af4b9819c54f321cba4717e918ac3bf", func := "tailrace/tailracelaw09.FlowApart", spec := "flowApart", unfollowed := true, recurses := true, apart := false, narrowed := true }
def FlowApartUptoSaid : Prop := flowApartUptoRow.holds Try.pinned (OpenSpec.upto flowApartSpec)

/-- 'tailracelaw09.FlowFed', WHERE WHAT IT READS IS OF BULK AT MOST 1048576: true; the input reads as it did. -/
def flowFedUptoRow : OpenClaim := { program := "ytjikhbdpkddbgaa", sum := "96286983fc950980686dca6985e63bd77af4b9819c54f321cba4717e918ac3bf", func := "tailrace/tailracelaw09.FlowFed", spec := "flowFed", unfollowed := true, recurses := true, apart := false, narrowed := true }
def FlowFedUptoSaid : Prop := flowFedUptoRow.holds Try.pinned (OpenSpec.upto flowFedSpec)

/-- 'tailracelaw09.FlowKnown', WHERE WHAT IT READS IS OF BULK AT MOST 1048576: true; the input reads as it did. -/
def flowKnownUptoRow : OpenClaim := { program := "ytjikhbdpkddbgaa", sum := "96286983fc950980686dca6985e63bd77af4b9819c54f321cba4717e918ac3bf", func := "tailrace/tailracelaw09.FlowKnown", spec := "flowKnown", unfollowed := true, recurses := true, apart := false, narrowed := true }
def FlowKnownUptoSaid : Prop := flowKnownUptoRow.holds Try.pinned (OpenSpec.upto flowKnownSpec)

end Rows
end Go.Proofs.Ytjikhbdpkddbgaa
