/-
  No cell of these rows narrows 'for every input' (looked for: loops, veiled, ifaces, maps, wideKeys, modest, calm, conditions, laid).
  DERIVED. THE GIVEN ROWS OF THIS SEAT. 8 by the template 'for every input the law returns true; each argument reads behind the call as it read before'; 0 by the template 'total and deterministic' (their statements: YthlkhjfilfdpiaaTotals.lean).
  GIVEN WITH THE SEED: the statements are not yours to turn. If you find one false, say at which input.
  Laid BY PROGRAM, IN A SANDBOX (cutbox-rows.mjs): the forced cells as the released guide's own fill.sh prints them over the translation 3568ddc53f7cbb23… (all of the seat's roots in one cut). By AI agents, Wed Nov 11 2026. No macro, syntax, notation, axiom, sorry.
-/
import Derived.Test.YthlkhjfilfdpiaaChecked
import GoSem.Claim
import GoSem.ClaimJoined
import GoSem.ClaimMapViews
import Derived.JoinedTies
import Derived.KernelRfl
namespace Go.Proofs.Ythlkhjfilfdpiaa
/- THE CELL 'sum', in the pinned program and in every row, IS THE sha256 OF THE DUMP (.gsa) THAT YthlkhjfilfdpiaaProg.lean LOADS. Nothing in Lean hashes anything: it is a label: what it is worth is what the hold of that sum in a sandbox is worth. -/
noncomputable def Try.pinned : Pinned := { name := "ythlkhjfilfdpiaa", sum := "3568ddc53f7cbb23b51241209188f7bcaf0ebc4aaeb6abce7cf4cdf578592879", checked := Try.checked }
namespace Rows
def none {H : Type} : Left H := { results := [], args := [] }

/-- 'tailracelaw08.SummaryApply': WHATEVER THE INPUT: true; the input reads as it did. -/
def summaryApplySpec : ChangeSpec := { name := "summaryApply", fn := fun _ => fun
  | [d1, d2, d3, d4] => { results := [.lit (.bool true)], args := [d1, d2, d3, d4] }
  | _ => none }
def summaryApplyRow : OpenClaim := { program := "ythlkhjfilfdpiaa", sum := "3568ddc53f7cbb23b51241209188f7bcaf0ebc4aaeb6abce7cf4cdf578592879", func := "tailrace/tailracelaw08.SummaryApply", spec := "summaryApply", unfollowed := true, recurses := true, apart := false }
def SummaryApplySaid : Prop := summaryApplyRow.holds Try.pinned (OpenSpec.ofChange summaryApplySpec)

/-- ITS FALSE NEIGHBOUR: 'it returns false'. Refute it at one input. -/
def summaryApplyWrong : ChangeSpec := { name := "summaryApply", fn := fun _ => fun
  | [d1, d2, d3, d4] => { results := [.lit (.bool false)], args := [d1, d2, d3, d4] }
  | _ => none }
def SummaryApplyWrongFalsely : Prop := summaryApplyRow.holds Try.pinned (OpenSpec.ofChange summaryApplyWrong)

/-- 'tailracelaw08.SummaryTwo': WHATEVER THE INPUT: true; the input reads as it did. -/
def summaryTwoSpec : ChangeSpec := { name := "summaryTwo", fn := fun _ => fun
  | [d1, d2] => { results := [.lit (.bool true)], args := [d1, d2] }
  | _ => none }
def summaryTwoRow : OpenClaim := { program := "ythlkhjfilfdpiaa", sum := "3568ddc53f7cbb23b51241209188f7bcaf0ebc4aaeb6abce7cf4cdf578592879", func := "tailrace/tailracelaw08.SummaryTwo", spec := "summaryTwo", unfollowed := true, recurses := true, apart := false }
def SummaryTwoSaid : Prop := summaryTwoRow.holds Try.pinned (OpenSpec.ofChange summaryTwoSpec)

/-- ITS FALSE NEIGHBOUR: 'it returns false'. Refute it at one input. -/
def summaryTwoWrong : ChangeSpec := { name := "summaryTwo", fn := fun _ => fun
  | [d1, d2] => { results := [.lit (.bool false)], args := [d1, d2] }
  | _ => none }
def SummaryTwoWrongFalsely : Prop := summaryTwoRow.holds Try.pinned (OpenSpec.ofChange summaryTwoWrong)

/-- 'tailracelaw08.SummaryThen': WHATEVER THE INPUT: true; the input reads as it did. -/
def summaryThenSpec : ChangeSpec := { name := "summaryThen", fn := fun _ => fun
  | [d1, d2, d3, d4] => { results := [.lit (.bool true)], args := [d1, d2, d3, d4] }
  | _ => none }
def summaryThenRow : OpenClaim := { program := "ythlkhjfilfdpiaa", sum := "3568ddc53f7cbb23b51241209188f7bcaf0ebc4aaeb6abce7cf4cdf578592879", func := "tailrace/tailracelaw08.SummaryThen", spec := "summaryThen", unfollowed := true, recurses := true, apart := false }
def SummaryThenSaid : Prop := summaryThenRow.holds Try.pinned (OpenSpec.ofChange summaryThenSpec)

/-- ITS FALSE NEIGHBOUR: 'it returns false'. Refute it at one input. -/
def summaryThenWrong : ChangeSpec := { name := "summaryThen", fn := fun _ => fun
  | [d1, d2, d3, d4] => { results := [.lit (.bool false)], args := [d1, d2, d3, d4] }
  | _ => none }
def SummaryThenWrongFalsely : Prop := summaryThenRow.holds Try.pinned (OpenSpec.ofChange summaryThenWrong)

/-- 'tailracelaw08.SummaryGrows': WHATEVER THE INPUT: true; the input reads as it did. -/
def summaryGrowsSpec : ChangeSpec := { name := "summaryGrows", fn := fun _ => fun
  | [d1, d2, d3] => { results := [.lit (.bool true)], args := [d1, d2, d3] }
  | _ => none }
def summaryGrowsRow : OpenClaim := { program := "ythlkhjfilfdpiaa", sum := "3568ddc53f7cbb23b51241209188f7bcaf0ebc4aaeb6abce7cf4cdf578592879", func := "tailrace/tailracelaw08.SummaryGrows", spec := "summaryGrows", unfollowed := true, recurses := true, apart := false }
def SummaryGrowsSaid : Prop := summaryGrowsRow.holds Try.pinned (OpenSpec.ofChange summaryGrowsSpec)

/-- ITS FALSE NEIGHBOUR: 'it returns false'. Refute it at one input. -/
def summaryGrowsWrong : ChangeSpec := { name := "summaryGrows", fn := fun _ => fun
  | [d1, d2, d3] => { results := [.lit (.bool false)], args := [d1, d2, d3] }
  | _ => none }
def SummaryGrowsWrongFalsely : Prop := summaryGrowsRow.holds Try.pinned (OpenSpec.ofChange summaryGrowsWrong)

/-- 'tailracelaw08.SummaryOrder': WHATEVER THE INPUT: true; the input reads as it did. -/
def summaryOrderSpec : ChangeSpec := { name := "summaryOrder", fn := fun _ => fun
  | [d1, d2, d3, d4] => { results := [.lit (.bool true)], args := [d1, d2, d3, d4] }
  | _ => none }
def summaryOrderRow : OpenClaim := { program := "ythlkhjfilfdpiaa", sum := "3568ddc53f7cbb23b51241209188f7bcaf0ebc4aaeb6abce7cf4cdf578592879", func := "tailrace/tailracelaw08.SummaryOrder", spec := "summaryOrder", unfollowed := true, recurses := true, apart := false }
def SummaryOrderSaid : Prop := summaryOrderRow.holds Try.pinned (OpenSpec.ofChange summaryOrderSpec)

/-- ITS FALSE NEIGHBOUR: 'it returns false'. Refute it at one input. -/
def summaryOrderWrong : ChangeSpec := { name := "summaryOrder", fn := fun _ => fun
  | [d1, d2, d3, d4] => { results := [.lit (.bool false)], args := [d1, d2, d3, d4] }
  | _ => none }
def SummaryOrderWrongFalsely : Prop := summaryOrderRow.holds Try.pinned (OpenSpec.ofChange summaryOrderWrong)

/-- 'tailracelaw08.SummaryLeast': WHATEVER THE INPUT: true; the input reads as it did. -/
def summaryLeastSpec : ChangeSpec := { name := "summaryLeast", fn := fun _ => fun
  | [d] => { results := [.lit (.bool true)], args := [d] }
  | _ => none }
def summaryLeastRow : OpenClaim := { program := "ythlkhjfilfdpiaa", sum := "3568ddc53f7cbb23b51241209188f7bcaf0ebc4aaeb6abce7cf4cdf578592879", func := "tailrace/tailracelaw08.SummaryLeast", spec := "summaryLeast", unfollowed := true, recurses := true, apart := false }
def SummaryLeastSaid : Prop := summaryLeastRow.holds Try.pinned (OpenSpec.ofChange summaryLeastSpec)

/-- ITS FALSE NEIGHBOUR: 'it returns false'. Refute it at one input. -/
def summaryLeastWrong : ChangeSpec := { name := "summaryLeast", fn := fun _ => fun
  | [d] => { results := [.lit (.bool false)], args := [d] }
  | _ => none }
def SummaryLeastWrongFalsely : Prop := summaryLeastRow.holds Try.pinned (OpenSpec.ofChange summaryLeastWrong)

/-- 'tailracelaw08.SummaryCovers': WHATEVER THE INPUT: true; the input reads as it did. -/
def summaryCoversSpec : ChangeSpec := { name := "summaryCovers", fn := fun _ => fun
  | [d] => { results := [.lit (.bool true)], args := [d] }
  | _ => none }
def summaryCoversRow : OpenClaim := { program := "ythlkhjfilfdpiaa", sum := "3568ddc53f7cbb23b51241209188f7bcaf0ebc4aaeb6abce7cf4cdf578592879", func := "tailrace/tailracelaw08.SummaryCovers", spec := "summaryCovers", unfollowed := true, recurses := true, apart := false }
def SummaryCoversSaid : Prop := summaryCoversRow.holds Try.pinned (OpenSpec.ofChange summaryCoversSpec)

/-- ITS FALSE NEIGHBOUR: 'it returns false'. Refute it at one input. -/
def summaryCoversWrong : ChangeSpec := { name := "summaryCovers", fn := fun _ => fun
  | [d] => { results := [.lit (.bool false)], args := [d] }
  | _ => none }
def SummaryCoversWrongFalsely : Prop := summaryCoversRow.holds Try.pinned (OpenSpec.ofChange summaryCoversWrong)

/-- 'tailracelaw08.SummaryKnown': WHATEVER THE INPUT: true; the input reads as it did. -/
def summaryKnownSpec : ChangeSpec := { name := "summaryKnown", fn := fun _ => fun
  | [] => { results := [.lit (.bool true)], args := [] }
  | _ => none }
def summaryKnownRow : OpenClaim := { program := "ythlkhjfilfdpiaa", sum := "3568ddc53f7cbb23b51241209188f7bcaf0ebc4aaeb6abce7cf4cdf578592879", func := "tailrace/tailracelaw08.SummaryKnown", spec := "summaryKnown", unfollowed := true, recurses := true, apart := false }
def SummaryKnownSaid : Prop := summaryKnownRow.holds Try.pinned (OpenSpec.ofChange summaryKnownSpec)

/-- ITS FALSE NEIGHBOUR: 'it returns false'. Refute it at one input. -/
def summaryKnownWrong : ChangeSpec := { name := "summaryKnown", fn := fun _ => fun
  | [] => { results := [.lit (.bool false)], args := [] }
  | _ => none }
def SummaryKnownWrongFalsely : Prop := summaryKnownRow.holds Try.pinned (OpenSpec.ofChange summaryKnownWrong)

/- THE SECOND FORM. 'bulk': how many values and letters a reading holds, each counted each time it is reached (what is shared counts as often as it is met; a slice's spare places count too). A statement '..UptoSaid' is the law's where the arguments, and the package variables that the reading takes, are together of bulk at most 1048576: NARROWER than '..Said'. Prove '..Said' where nothing that the law and all that it calls make is longer than what came in: it says more and counts as full. Else prove '..UptoSaid'. A law counts once. -/
mutual
def uptoBulk {H : Type} : DataW H → Nat
  | .lit (.string bytes) => bytes.length + 1
  | .lit _ => 1
  | .nil => 1
  | .ptr d => uptoBulk d + 1
  | .slice elems spare => uptoBulkAll elems + uptoBulkAll spare + 1
  | .agg parts => uptoBulkAll parts + 1
  | .iface _ d => uptoBulk d + 1
  | .map entries => uptoBulkEntries entries + 1
  | .held _ => 1
def uptoBulkAll {H : Type} : List (DataW H) → Nat
  | [] => 0
  | d :: r => uptoBulk d + uptoBulkAll r
def uptoBulkEntries {H : Type} : List (Lit × DataW H) → Nat
  | [] => 0
  | x :: r => uptoBulkEntry x + uptoBulkEntries r
def uptoBulkEntry {H : Type} : Lit × DataW H → Nat
  | (.string bytes, d) => bytes.length + uptoBulk d + 1
  | (_, d) => uptoBulk d + 1
 end
def uptoSmall : (H : Type) → List (DataW H) → Bool := fun _ ds => decide (uptoBulkAll ds ≤ 1048576)
def OpenSpec.upto (s : _root_.Go.ChangeSpec) : _root_.Go.OpenSpec := { _root_.Go.OpenSpec.ofChange s with cond := some uptoSmall }

/-- 'tailracelaw08.SummaryApply', WHERE WHAT IT READS IS OF BULK AT MOST 1048576: true; the input reads as it did. -/
def summaryApplyUptoRow : OpenClaim := { program := "ythlkhjfilfdpiaa", sum := "3568ddc53f7cbb23b51241209188f7bcaf0ebc4aaeb6abce7cf4cdf578592879", func := "tailrace/tailracelaw08.SummaryApply", spec := "summaryApply", unfollowed := true, recurses := true, apart := false, narrowed := true }
def SummaryApplyUptoSaid : Prop := summaryApplyUptoRow.holds Try.pinned (OpenSpec.upto summaryApplySpec)

/-- 'tailracelaw08.SummaryTwo', WHERE WHAT IT READS IS OF BULK AT MOST 1048576: true; the input reads as it did. -/
def summaryTwoUptoRow : OpenClaim := { program := "ythlkhjfilfdpiaa", sum := "3568ddc53f7cbb23b51241209188f7bcaf0ebc4aaeb6abce7cf4cdf578592879", func := "tailrace/tailracelaw08.SummaryTwo", spec := "summaryTwo", unfollowed := true, recurses := true, apart := false, narrowed := true }
def SummaryTwoUptoSaid : Prop := summaryTwoUptoRow.holds Try.pinned (OpenSpec.upto summaryTwoSpec)

/-- 'tailracelaw08.SummaryThen', WHERE WHAT IT READS IS OF BULK AT MOST 1048576: true; the input reads as it did. -/
def summaryThenUptoRow : OpenClaim := { program := "ythlkhjfilfdpiaa", sum := "3568ddc53f7cbb23b51241209188f7bcaf0ebc4aaeb6abce7cf4cdf578592879", func := "tailrace/tailracelaw08.SummaryThen", spec := "summaryThen", unfollowed := true, recurses := true, apart := false, narrowed := true }
def SummaryThenUptoSaid : Prop := summaryThenUptoRow.holds Try.pinned (OpenSpec.upto summaryThenSpec)

/-- 'tailracelaw08.SummaryGrows', WHERE WHAT IT READS IS OF BULK AT MOST 1048576: true; the input reads as it did. -/
def summaryGrowsUptoRow : OpenClaim := { program := "ythlkhjfilfdpiaa", sum := "3568ddc53f7cbb23b51241209188f7bcaf0ebc4aaeb6abce7cf4cdf578592879", func := "tailrace/tailracelaw08.SummaryGrows", spec := "summaryGrows", unfollowed := true, recurses := true, apart := false, narrowed := true }
def SummaryGrowsUptoSaid : Prop := summaryGrowsUptoRow.holds Try.pinned (OpenSpec.upto summaryGrowsSpec)

/-- 'tailracelaw08.SummaryOrder', WHERE WHAT IT READS IS OF BULK AT MOST 1048576: true; the input reads as it did. -/
def summaryOrderUptoRow : OpenClaim := { program := "ythlkhjfilfdpiaa", sum := "3568ddc53f7cbb23b51241209188f7bcaf0ebc4aaeb6abce7cf4cdf578592879", func := "tailrace/tailracelaw08.SummaryOrder", spec := "summaryOrder", unfollowed := true, recurses := true, apart := false, narrowed := true }
def SummaryOrderUptoSaid : Prop := summaryOrderUptoRow.holds Try.pinned (OpenSpec.upto summaryOrderSpec)

/-- 'tailracelaw08.SummaryLeast', WHERE WHAT IT READS IS OF BULK AT MOST 1048576: true; the input reads as it did. -/
def summaryLeastUptoRow : OpenClaim := { program := "ythlkhjfilfdpiaa", sum := "3568ddc53f7cbb23b51241209188f7bcaf0ebc4aaeb6abce7cf4cdf578592879", func := "tailrace/tailracelaw08.SummaryLeast", spec := "summaryLeast", unfollowed := true, recurses := true, apart := false, narrowed := true }
def SummaryLeastUptoSaid : Prop := summaryLeastUptoRow.holds Try.pinned (OpenSpec.upto summaryLeastSpec)

/-- 'tailracelaw08.SummaryCovers', WHERE WHAT IT READS IS OF BULK AT MOST 1048576: true; the input reads as it did. -/
def summaryCoversUptoRow : OpenClaim := { program := "ythlkhjfilfdpiaa", sum := "3568ddc53f7cbb23b51241209188f7bcaf0ebc4aaeb6abce7cf4cdf578592879", func := "tailrace/tailracelaw08.SummaryCovers", spec := "summaryCovers", unfollowed := true, recurses := true, apart := false, narrowed := true }
def SummaryCoversUptoSaid : Prop := summaryCoversUptoRow.holds Try.pinned (OpenSpec.upto summaryCoversSpec)

/-- 'tailracelaw08.SummaryKnown', WHERE WHAT IT READS IS OF BULK AT MOST 1048576: true; the input reads as it did. -/
def summaryKnownUptoRow : OpenClaim := { program := "ythlkhjfilfdpiaa", sum := "3568ddc53f7cbb23b51241209188f7bcaf0ebc4aaeb6abce7cf4cdf578592879", func := "tailrace/tailracelaw08.SummaryKnown", spec := "summaryKnown", unfollowed := true, recurses := true, apart := false, narrowed := true }
def SummaryKnownUptoSaid : Prop := summaryKnownUptoRow.holds Try.pinned (OpenSpec.upto summaryKnownSpec)

end Rows
end Go.Proofs.Ythlkhjfilfdpiaa
