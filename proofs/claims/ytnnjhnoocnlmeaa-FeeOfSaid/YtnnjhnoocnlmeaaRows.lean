/-
  No cell of these rows narrows 'for every input' (looked for: loops, veiled, ifaces, maps, wideKeys, modest, calm, conditions, laid).
  DERIVED. THE GIVEN ROWS OF THIS SEAT. 7 by the template 'for every input the law returns true; each argument reads behind the call as it read before'; 0 by the template 'total and deterministic' (their statements: YtnnjhnoocnlmeaaTotals.lean).
  GIVEN WITH THE SEED: the statements are not yours to turn. If you find one false, say at which input.
  Laid BY PROGRAM, IN A SANDBOX (cutbox-rows.mjs): the forced cells as the released guide's own fill.sh prints them over the translation 4e486e9449c3cbf0… (all of the seat's roots in one cut). By AI agents, Wed Nov 11 2026. No macro, syntax, notation, axiom, sorry.
-/
import Derived.Test.YtnnjhnoocnlmeaaChecked
import GoSem.Claim
import GoSem.ClaimJoined
import GoSem.ClaimMapViews
import Derived.JoinedTies
import Derived.KernelRfl
namespace Go.Proofs.Ytnnjhnoocnlmeaa
/- THE CELL 'sum', in the pinned program and in every row, IS THE sha256 OF THE DUMP (.gsa) THAT YtnnjhnoocnlmeaaProg.lean LOADS. Nothing in Lean hashes anything: it is a label: what it is worth is what the hold of that sum in a sandbox is worth. -/
noncomputable def Try.pinned : Pinned := { name := "ytnnjhnoocnlmeaa", sum := "4e486e9449c3cbf0e795aec400d30a1b356350f83f09e4c39cc95cca48b074f1", checked := Try.checked }
namespace Rows
def none {H : Type} : Left H := { results := [], args := [] }

/-- 'recyclinglaw55.FeeCheck': WHATEVER THE INPUT: true; the input reads as it did. -/
def feeCheckSpec : ChangeSpec := { name := "feeCheck", fn := fun _ => fun
  | [d1, d2, d3] => { results := [.lit (.bool true)], args := [d1, d2, d3] }
  | _ => none }
def feeCheckRow : OpenClaim := { program := "ytnnjhnoocnlmeaa", sum := "4e486e9449c3cbf0e795aec400d30a1b356350f83f09e4c39cc95cca48b074f1", func := "recycling/recyclinglaw55.FeeCheck", spec := "feeCheck", unfollowed := true, recurses := true, named := ["math/bits.divideError", "math/bits.overflowError"], plainKeys := false, apart := false }
def FeeCheckSaid : Prop := feeCheckRow.holds Try.pinned (OpenSpec.ofChange feeCheckSpec)

/-- ITS FALSE NEIGHBOUR: 'it returns false'. Refute it at one input. -/
def feeCheckWrong : ChangeSpec := { name := "feeCheck", fn := fun _ => fun
  | [d1, d2, d3] => { results := [.lit (.bool false)], args := [d1, d2, d3] }
  | _ => none }
def FeeCheckWrongFalsely : Prop := feeCheckRow.holds Try.pinned (OpenSpec.ofChange feeCheckWrong)

/-- 'recyclinglaw55.FeeFees': WHATEVER THE INPUT: true; the input reads as it did. -/
def feeFeesSpec : ChangeSpec := { name := "feeFees", fn := fun _ => fun
  | [d1, d2, d3] => { results := [.lit (.bool true)], args := [d1, d2, d3] }
  | _ => none }
def feeFeesRow : OpenClaim := { program := "ytnnjhnoocnlmeaa", sum := "4e486e9449c3cbf0e795aec400d30a1b356350f83f09e4c39cc95cca48b074f1", func := "recycling/recyclinglaw55.FeeFees", spec := "feeFees", unfollowed := true, recurses := true, named := ["math/bits.divideError", "math/bits.overflowError"], plainKeys := false, apart := false }
def FeeFeesSaid : Prop := feeFeesRow.holds Try.pinned (OpenSpec.ofChange feeFeesSpec)

/-- ITS FALSE NEIGHBOUR: 'it returns false'. Refute it at one input. -/
def feeFeesWrong : ChangeSpec := { name := "feeFees", fn := fun _ => fun
  | [d1, d2, d3] => { results := [.lit (.bool false)], args := [d1, d2, d3] }
  | _ => none }
def FeeFeesWrongFalsely : Prop := feeFeesRow.holds Try.pinned (OpenSpec.ofChange feeFeesWrong)

/-- 'recyclinglaw55.FeeOrder': WHATEVER THE INPUT: true; the input reads as it did. -/
def feeOrderSpec : ChangeSpec := { name := "feeOrder", fn := fun _ => fun
  | [d1, d2, d3, d4] => { results := [.lit (.bool true)], args := [d1, d2, d3, d4] }
  | _ => none }
def feeOrderRow : OpenClaim := { program := "ytnnjhnoocnlmeaa", sum := "4e486e9449c3cbf0e795aec400d30a1b356350f83f09e4c39cc95cca48b074f1", func := "recycling/recyclinglaw55.FeeOrder", spec := "feeOrder", unfollowed := true, recurses := true, named := ["math/bits.divideError", "math/bits.overflowError"], plainKeys := false, apart := false }
def FeeOrderSaid : Prop := feeOrderRow.holds Try.pinned (OpenSpec.ofChange feeOrderSpec)

/-- ITS FALSE NEIGHBOUR: 'it returns false'. Refute it at one input. -/
def feeOrderWrong : ChangeSpec := { name := "feeOrder", fn := fun _ => fun
  | [d1, d2, d3, d4] => { results := [.lit (.bool false)], args := [d1, d2, d3, d4] }
  | _ => none }
def FeeOrderWrongFalsely : Prop := feeOrderRow.holds Try.pinned (OpenSpec.ofChange feeOrderWrong)

/-- 'recyclinglaw55.FeeOf': WHATEVER THE INPUT: true; the input reads as it did. -/
def feeOfSpec : ChangeSpec := { name := "feeOf", fn := fun _ => fun
  | [d1, d2] => { results := [.lit (.bool true)], args := [d1, d2] }
  | _ => none }
def feeOfRow : OpenClaim := { program := "ytnnjhnoocnlmeaa", sum := "4e486e9449c3cbf0e795aec400d30a1b356350f83f09e4c39cc95cca48b074f1", func := "recycling/recyclinglaw55.FeeOf", spec := "feeOf", unfollowed := true, recurses := true, named := ["math/bits.divideError", "math/bits.overflowError"], plainKeys := false, apart := false }
def FeeOfSaid : Prop := feeOfRow.holds Try.pinned (OpenSpec.ofChange feeOfSpec)

/-- ITS FALSE NEIGHBOUR: 'it returns false'. Refute it at one input. -/
def feeOfWrong : ChangeSpec := { name := "feeOf", fn := fun _ => fun
  | [d1, d2] => { results := [.lit (.bool false)], args := [d1, d2] }
  | _ => none }
def FeeOfWrongFalsely : Prop := feeOfRow.holds Try.pinned (OpenSpec.ofChange feeOfWrong)

/-- 'recyclinglaw55.FeeProducers': WHATEVER THE INPUT: true; the input reads as it did. -/
def feeProducersSpec : ChangeSpec := { name := "feeProducers", fn := fun _ => fun
  | [d1, d2, d3] => { results := [.lit (.bool true)], args := [d1, d2, d3] }
  | _ => none }
def feeProducersRow : OpenClaim := { program := "ytnnjhnoocnlmeaa", sum := "4e486e9449c3cbf0e795aec400d30a1b356350f83f09e4c39cc95cca48b074f1", func := "recycling/recyclinglaw55.FeeProducers", spec := "feeProducers", unfollowed := true, recurses := true, named := ["math/bits.divideError", "math/bits.overflowError"], plainKeys := false, apart := false }
def FeeProducersSaid : Prop := feeProducersRow.holds Try.pinned (OpenSpec.ofChange feeProducersSpec)

/-- ITS FALSE NEIGHBOUR: 'it returns false'. Refute it at one input. -/
def feeProducersWrong : ChangeSpec := { name := "feeProducers", fn := fun _ => fun
  | [d1, d2, d3] => { results := [.lit (.bool false)], args := [d1, d2, d3] }
  | _ => none }
def FeeProducersWrongFalsely : Prop := feeProducersRow.holds Try.pinned (OpenSpec.ofChange feeProducersWrong)

/-- 'recyclinglaw55.FeeCovers': WHATEVER THE INPUT: true; the input reads as it did. -/
def feeCoversSpec : ChangeSpec := { name := "feeCovers", fn := fun _ => fun
  | [d1, d2, d3] => { results := [.lit (.bool true)], args := [d1, d2, d3] }
  | _ => none }
def feeCoversRow : OpenClaim := { program := "ytnnjhnoocnlmeaa", sum := "4e486e9449c3cbf0e795aec400d30a1b356350f83f09e4c39cc95cca48b074f1", func := "recycling/recyclinglaw55.FeeCovers", spec := "feeCovers", unfollowed := true, recurses := true, named := ["math/bits.divideError", "math/bits.overflowError"], plainKeys := false, apart := false }
def FeeCoversSaid : Prop := feeCoversRow.holds Try.pinned (OpenSpec.ofChange feeCoversSpec)

/-- ITS FALSE NEIGHBOUR: 'it returns false'. Refute it at one input. -/
def feeCoversWrong : ChangeSpec := { name := "feeCovers", fn := fun _ => fun
  | [d1, d2, d3] => { results := [.lit (.bool false)], args := [d1, d2, d3] }
  | _ => none }
def FeeCoversWrongFalsely : Prop := feeCoversRow.holds Try.pinned (OpenSpec.ofChange feeCoversWrong)

/-- 'recyclinglaw55.FeeCovering': WHATEVER THE INPUT: true; the input reads as it did. -/
def feeCoveringSpec : ChangeSpec := { name := "feeCovering", fn := fun _ => fun
  | [d1, d2] => { results := [.lit (.bool true)], args := [d1, d2] }
  | _ => none }
def feeCoveringRow : OpenClaim := { program := "ytnnjhnoocnlmeaa", sum := "4e486e9449c3cbf0e795aec400d30a1b356350f83f09e4c39cc95cca48b074f1", func := "recycling/recyclinglaw55.FeeCovering", spec := "feeCovering", unfollowed := true, recurses := true, named := ["math/bits.divideError", "math/bits.overflowError"], plainKeys := false, apart := false }
def FeeCoveringSaid : Prop := feeCoveringRow.holds Try.pinned (OpenSpec.ofChange feeCoveringSpec)

/-- ITS FALSE NEIGHBOUR: 'it returns false'. Refute it at one input. -/
def feeCoveringWrong : ChangeSpec := { name := "feeCovering", fn := fun _ => fun
  | [d1, d2] => { results := [.lit (.bool false)], args := [d1, d2] }
  | _ => none }
def FeeCoveringWrongFalsely : Prop := feeCoveringRow.holds Try.pinned (OpenSpec.ofChange feeCoveringWrong)

/- THE SECOND FORM. 'bulk': how many values and letters a reading holds, each counted each time it is reached (what is shared counts as often as it is met; a slice's spare places count too). A statement '..UptoSaid' is the law's where the arguments, and the package variables that the reading takes, are together of bulk at most 1048576: NARROWER than '..Said'. Prove '..Said' where nothing that the law and all that it calls make is longer than what came in: it says more and counts as full. Else prove '..UptoSaid'. A law counts once. -/
mutual
def uptoBulk {H : Type} : DataW H → Nat
  | .lit (.string bytes) => bytes.length + 1
  | .lit _ => 1
  | .nil => 1
  | .ptr d => uptoBulk d + 1
  | .slice elems spare => uptoBulkAll elems + uptoBulkAll spare + 1
  | .agg parts => uptoBulkAll parts + 1
  | .iface _ d => uptoBulk d + 1
  | .map entries => uptoBulkEntries entries + 1
  | .held _ => 1
def uptoBulkAll {H : Type} : List (DataW H) → Nat
  | [] => 0
  | d :: r => uptoBulk d + uptoBulkAll r
def uptoBulkEntries {H : Type} : List (Lit × DataW H) → Nat
  | [] => 0
  | x :: r => uptoBulkEntry x + uptoBulkEntries r
def uptoBulkEntry {H : Type} : Lit × DataW H → Nat
  | (.string bytes, d) => bytes.length + uptoBulk d + 1
  | (_, d) => uptoBulk d + 1
 end
def uptoSmall : (H : Type) → List (DataW H) → Bool := fun _ ds => decide (uptoBulkAll ds ≤ 1048576)
def OpenSpec.upto (s : _root_.Go.ChangeSpec) : _root_.Go.OpenSpec := { _root_.Go.OpenSpec.ofChange s with cond := some uptoSmall }

/-- 'recyclinglaw55.FeeCheck', WHERE WHAT IT READS IS OF BULK AT MOST 1048576: true; the input reads as it did. -/
def feeCheckUptoRow : OpenClaim := { program := "ytnnjhnoocnlmeaa", sum := "4e486e9449c3cbf0e795aec400d30a1b356350f83f09e4c39cc95cca48b074f1", func := "recycling/recyclinglaw55.FeeCheck", spec := "feeCheck", unfollowed := true, recurses := true, named := ["math/bits.divideError", "math/bits.overflowError"], plainKeys := false, apart := false, narrowed := true }
def FeeCheckUptoSaid : Prop := feeCheckUptoRow.holds Try.pinned (OpenSpec.upto feeCheckSpec)

/-- 'recyclinglaw55.FeeFees', WHERE WHAT IT READS IS OF BULK AT MOST 1048576: true; the input reads as it did. -/
def feeFeesUptoRow : OpenClaim := { program := "ytnnjhnoocnlmeaa", sum := "4e486e9449c3cbf0e795aec400d30a1b356350f83f09e4c39cc95cca48b074f1", func := "recycling/recyclinglaw55.FeeFees", spec := "feeFees", unfollowed := true, recurses := true, named := ["math/bits.divideError", "math/bits.overflowError"], plainKeys := false, apart := false, narrowed := true }
def FeeFeesUptoSaid : Prop := feeFeesUptoRow.holds Try.pinned (OpenSpec.upto feeFeesSpec)

/-- 'recyclinglaw55.FeeOrder', WHERE WHAT IT READS IS OF BULK AT MOST 1048576: true; the input reads as it did. -/
def feeOrderUptoRow : OpenClaim := { program := "ytnnjhnoocnlmeaa", sum := "4e486e9449c3cbf0e795aec400d30a1b356350f83f09e4c39cc95cca48b074f1", func := "recycling/recyclinglaw55.FeeOrder", spec := "feeOrder", unfollowed := true, recurses := true, named := ["math/bits.divideError", "math/bits.overflowError"], plainKeys := false, apart := false, narrowed := true }
def FeeOrderUptoSaid : Prop := feeOrderUptoRow.holds Try.pinned (OpenSpec.upto feeOrderSpec)

/-- 'recyclinglaw55.FeeOf', WHERE WHAT IT READS IS OF BULK AT MOST 1048576: true; the input reads as it did. -/
def feeOfUptoRow : OpenClaim := { program := "ytnnjhnoocnlmeaa", sum := "4e486e9449c3cbf0e795aec400d30a1b356350f83f09e4c39cc95cca48b074f1", func := "recycling/recyclinglaw55.FeeOf", spec := "feeOf", unfollowed := true, recurses := true, named := ["math/bits.divideError", "math/bits.overflowError"], plainKeys := false, apart := false, narrowed := true }
def FeeOfUptoSaid : Prop := feeOfUptoRow.holds Try.pinned (OpenSpec.upto feeOfSpec)

/-- 'recyclinglaw55.FeeProducers', WHERE WHAT IT READS IS OF BULK AT MOST 1048576: true; the input reads as it did. -/
def feeProducersUptoRow : OpenClaim := { program := "ytnnjhnoocnlmeaa", sum := "4e486e9449c3cbf0e795aec400d30a1b356350f83f09e4c39cc95cca48b074f1", func := "recycling/recyclinglaw55.FeeProducers", spec := "feeProducers", unfollowed := true, recurses := true, named := ["math/bits.divideError", "math/bits.overflowError"], plainKeys := false, apart := false, narrowed := true }
def FeeProducersUptoSaid : Prop := feeProducersUptoRow.holds Try.pinned (OpenSpec.upto feeProducersSpec)

/-- 'recyclinglaw55.FeeCovers', WHERE WHAT IT READS IS OF BULK AT MOST 1048576: true; the input reads as it did. -/
def feeCoversUptoRow : OpenClaim := { program := "ytnnjhnoocnlmeaa", sum := "4e486e9449c3cbf0e795aec400d30a1b356350f83f09e4c39cc95cca48b074f1", func := "recycling/recyclinglaw55.FeeCovers", spec := "feeCovers", unfollowed := true, recurses := true, named := ["math/bits.divideError", "math/bits.overflowError"], plainKeys := false, apart := false, narrowed := true }
def FeeCoversUptoSaid : Prop := feeCoversUptoRow.holds Try.pinned (OpenSpec.upto feeCoversSpec)

/-- 'recyclinglaw55.FeeCovering', WHERE WHAT IT READS IS OF BULK AT MOST 1048576: true; the input reads as it did. -/
def feeCoveringUptoRow : OpenClaim := { program := "ytnnjhnoocnlmeaa", sum := "4e486e9449c3cbf0e795aec400d30a1b356350f83f09e4c39cc95cca48b074f1", func := "recycling/recyclinglaw55.FeeCovering", spec := "feeCovering", unfollowed := true, recurses := true, named := ["math/bits.divideError", "math/bits.overflowError"], plainKeys := false, apart := false, narrowed := true }
def FeeCoveringUptoSaid : Prop := feeCoveringUptoRow.holds Try.pinned (OpenSpec.upto feeCoveringSpec)

end Rows
end Go.Proofs.Ytnnjhnoocnlmeaa
