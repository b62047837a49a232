/-
  No cell of these rows narrows 'for every input' (looked for: loops, veiled, ifaces, maps, wideKeys, modest, calm, conditions, laid).
  DERIVED. THE GIVEN ROWS OF THIS SEAT. 7 by the template 'for every input the law returns true; each argument reads behind the call as it read before'; 0 by the template 'total and deterministic' (their statements: YtpclkldmkmmmhaaTotals.lean).
  GIVEN WITH THE SEED: the statements are not yours to turn. If you find one false, say at which input.
  Laid BY PROGRAM, IN A SANDBOX (cutbox-rows.mjs): the forced cells as the released guide's own fill.sh prints them over the translation ee05354c1063fd7f… (all of the seat's roots in one cut). By AI agents, Wed Nov 11 2026. No macro, syntax, notation, axiom, sorry.
-/
import Derived.Test.YtpclkldmkmmmhaaChecked
import GoSem.Claim
import GoSem.ClaimJoined
import GoSem.ClaimMapViews
import Derived.JoinedTies
import Derived.KernelRfl
namespace Go.Proofs.Ytpclkldmkmmmhaa
/- THE CELL 'sum', in the pinned program and in every row, IS THE sha256 OF THE DUMP (.gsa) THAT YtpclkldmkmmmhaaProg.lean LOADS. Nothing in Lean hashes anything: it is a label: what it is worth is what the hold of that sum in a sandbox is worth. -/
noncomputable def Try.pinned : Pinned := { name := "ytpclkldmkmmmhaa", sum := "ee05354c1063fd7f906a30063c3e7781809cd6485c5542e2e69d8ad945b02a7b", checked := Try.checked }
namespace Rows
def none {H : Type} : Left H := { results := [], args := [] }

/-- 'recyclinglaw40.SerialChecks': WHATEVER THE INPUT: true; the input reads as it did. -/
def serialChecksSpec : ChangeSpec := { name := "serialChecks", fn := fun _ => fun
  | [d1, d2, d3] => { results := [.lit (.bool true)], args := [d1, d2, d3] }
  | _ => none }
def serialChecksRow : OpenClaim := { program := "ytpclkldmkmmmhaa", sum := "ee05354c1063fd7f906a30063c3e7781809cd6485c5542e2e69d8ad945b02a7b", func := "recycling/recyclinglaw40.SerialChecks", spec := "serialChecks", unfollowed := true, recurses := true, plainKeys := false, apart := false }
def SerialChecksSaid : Prop := serialChecksRow.holds Try.pinned (OpenSpec.ofChange serialChecksSpec)

/-- ITS FALSE NEIGHBOUR: 'it returns false'. Refute it at one input. -/
def serialChecksWrong : ChangeSpec := { name := "serialChecks", fn := fun _ => fun
  | [d1, d2, d3] => { results := [.lit (.bool false)], args := [d1, d2, d3] }
  | _ => none }
def SerialChecksWrongFalsely : Prop := serialChecksRow.holds Try.pinned (OpenSpec.ofChange serialChecksWrong)

/-- 'recyclinglaw40.SerialFinds': WHATEVER THE INPUT: true; the input reads as it did. -/
def serialFindsSpec : ChangeSpec := { name := "serialFinds", fn := fun _ => fun
  | [d1, d2] => { results := [.lit (.bool true)], args := [d1, d2] }
  | _ => none }
def serialFindsRow : OpenClaim := { program := "ytpclkldmkmmmhaa", sum := "ee05354c1063fd7f906a30063c3e7781809cd6485c5542e2e69d8ad945b02a7b", func := "recycling/recyclinglaw40.SerialFinds", spec := "serialFinds", unfollowed := true, recurses := true, plainKeys := false, apart := false }
def SerialFindsSaid : Prop := serialFindsRow.holds Try.pinned (OpenSpec.ofChange serialFindsSpec)

/-- ITS FALSE NEIGHBOUR: 'it returns false'. Refute it at one input. -/
def serialFindsWrong : ChangeSpec := { name := "serialFinds", fn := fun _ => fun
  | [d1, d2] => { results := [.lit (.bool false)], args := [d1, d2] }
  | _ => none }
def SerialFindsWrongFalsely : Prop := serialFindsRow.holds Try.pinned (OpenSpec.ofChange serialFindsWrong)

/-- 'recyclinglaw40.SerialDeposits': WHATEVER THE INPUT: true; the input reads as it did. -/
def serialDepositsSpec : ChangeSpec := { name := "serialDeposits", fn := fun _ => fun
  | [d1, d2] => { results := [.lit (.bool true)], args := [d1, d2] }
  | _ => none }
def serialDepositsRow : OpenClaim := { program := "ytpclkldmkmmmhaa", sum := "ee05354c1063fd7f906a30063c3e7781809cd6485c5542e2e69d8ad945b02a7b", func := "recycling/recyclinglaw40.SerialDeposits", spec := "serialDeposits", unfollowed := true, recurses := true, plainKeys := false, apart := false }
def SerialDepositsSaid : Prop := serialDepositsRow.holds Try.pinned (OpenSpec.ofChange serialDepositsSpec)

/-- ITS FALSE NEIGHBOUR: 'it returns false'. Refute it at one input. -/
def serialDepositsWrong : ChangeSpec := { name := "serialDeposits", fn := fun _ => fun
  | [d1, d2] => { results := [.lit (.bool false)], args := [d1, d2] }
  | _ => none }
def SerialDepositsWrongFalsely : Prop := serialDepositsRow.holds Try.pinned (OpenSpec.ofChange serialDepositsWrong)

/-- 'recyclinglaw40.SerialPlaces': WHATEVER THE INPUT: true; the input reads as it did. -/
def serialPlacesSpec : ChangeSpec := { name := "serialPlaces", fn := fun _ => fun
  | [d1, d2, d3] => { results := [.lit (.bool true)], args := [d1, d2, d3] }
  | _ => none }
def serialPlacesRow : OpenClaim := { program := "ytpclkldmkmmmhaa", sum := "ee05354c1063fd7f906a30063c3e7781809cd6485c5542e2e69d8ad945b02a7b", func := "recycling/recyclinglaw40.SerialPlaces", spec := "serialPlaces", unfollowed := true, recurses := true, plainKeys := false, apart := false }
def SerialPlacesSaid : Prop := serialPlacesRow.holds Try.pinned (OpenSpec.ofChange serialPlacesSpec)

/-- ITS FALSE NEIGHBOUR: 'it returns false'. Refute it at one input. -/
def serialPlacesWrong : ChangeSpec := { name := "serialPlaces", fn := fun _ => fun
  | [d1, d2, d3] => { results := [.lit (.bool false)], args := [d1, d2, d3] }
  | _ => none }
def SerialPlacesWrongFalsely : Prop := serialPlacesRow.holds Try.pinned (OpenSpec.ofChange serialPlacesWrong)

/-- 'recyclinglaw40.SerialOpens': WHATEVER THE INPUT: true; the input reads as it did. -/
def serialOpensSpec : ChangeSpec := { name := "serialOpens", fn := fun _ => fun
  | [d1, d2, d3] => { results := [.lit (.bool true)], args := [d1, d2, d3] }
  | _ => none }
def serialOpensRow : OpenClaim := { program := "ytpclkldmkmmmhaa", sum := "ee05354c1063fd7f906a30063c3e7781809cd6485c5542e2e69d8ad945b02a7b", func := "recycling/recyclinglaw40.SerialOpens", spec := "serialOpens", unfollowed := true, recurses := true, plainKeys := false, apart := false }
def SerialOpensSaid : Prop := serialOpensRow.holds Try.pinned (OpenSpec.ofChange serialOpensSpec)

/-- ITS FALSE NEIGHBOUR: 'it returns false'. Refute it at one input. -/
def serialOpensWrong : ChangeSpec := { name := "serialOpens", fn := fun _ => fun
  | [d1, d2, d3] => { results := [.lit (.bool false)], args := [d1, d2, d3] }
  | _ => none }
def SerialOpensWrongFalsely : Prop := serialOpensRow.holds Try.pinned (OpenSpec.ofChange serialOpensWrong)

/-- 'recyclinglaw40.SerialPlaced': WHATEVER THE INPUT: true; the input reads as it did. -/
def serialPlacedSpec : ChangeSpec := { name := "serialPlaced", fn := fun _ => fun
  | [d1, d2, d3, d4] => { results := [.lit (.bool true)], args := [d1, d2, d3, d4] }
  | _ => none }
def serialPlacedRow : OpenClaim := { program := "ytpclkldmkmmmhaa", sum := "ee05354c1063fd7f906a30063c3e7781809cd6485c5542e2e69d8ad945b02a7b", func := "recycling/recyclinglaw40.SerialPlaced", spec := "serialPlaced", unfollowed := true, recurses := true, plainKeys := false, apart := false }
def SerialPlacedSaid : Prop := serialPlacedRow.holds Try.pinned (OpenSpec.ofChange serialPlacedSpec)

/-- ITS FALSE NEIGHBOUR: 'it returns false'. Refute it at one input. -/
def serialPlacedWrong : ChangeSpec := { name := "serialPlaced", fn := fun _ => fun
  | [d1, d2, d3, d4] => { results := [.lit (.bool false)], args := [d1, d2, d3, d4] }
  | _ => none }
def SerialPlacedWrongFalsely : Prop := serialPlacedRow.holds Try.pinned (OpenSpec.ofChange serialPlacedWrong)

/-- 'recyclinglaw40.SerialOpen': WHATEVER THE INPUT: true; the input reads as it did. -/
def serialOpenSpec : ChangeSpec := { name := "serialOpen", fn := fun _ => fun
  | [d1, d2, d3] => { results := [.lit (.bool true)], args := [d1, d2, d3] }
  | _ => none }
def serialOpenRow : OpenClaim := { program := "ytpclkldmkmmmhaa", sum := "ee05354c1063fd7f906a30063c3e7781809cd6485c5542e2e69d8ad945b02a7b", func := "recycling/recyclinglaw40.SerialOpen", spec := "serialOpen", unfollowed := true, recurses := true, plainKeys := false, apart := false }
def SerialOpenSaid : Prop := serialOpenRow.holds Try.pinned (OpenSpec.ofChange serialOpenSpec)

/-- ITS FALSE NEIGHBOUR: 'it returns false'. Refute it at one input. -/
def serialOpenWrong : ChangeSpec := { name := "serialOpen", fn := fun _ => fun
  | [d1, d2, d3] => { results := [.lit (.bool false)], args := [d1, d2, d3] }
  | _ => none }
def SerialOpenWrongFalsely : Prop := serialOpenRow.holds Try.pinned (OpenSpec.ofChange serialOpenWrong)

/- THE SECOND FORM. 'bulk': how many values and letters a reading holds, each counted each time it is reached (what is shared counts as often as it is met; a slice's spare places count too). A statement '..UptoSaid' is the law's where the arguments, and the package variables that the reading takes, are together of bulk at most 1048576: NARROWER than '..Said'. Prove '..Said' where nothing that the law and all that it calls make is longer than what came in: it says more and counts as full. Else prove '..UptoSaid'. A law counts once. -/
mutual
def uptoBulk {H : Type} : DataW H → Nat
  | .lit (.string bytes) => bytes.length + 1
  | .lit _ => 1
  | .nil => 1
  | .ptr d => uptoBulk d + 1
  | .slice elems spare => uptoBulkAll elems + uptoBulkAll spare + 1
  | .agg parts => uptoBulkAll parts + 1
  | .iface _ d => uptoBulk d + 1
  | .map entries => uptoBulkEntries entries + 1
  | .held _ => 1
def uptoBulkAll {H : Type} : List (DataW H) → Nat
  | [] => 0
  | d :: r => uptoBulk d + uptoBulkAll r
def uptoBulkEntries {H : Type} : List (Lit × DataW H) → Nat
  | [] => 0
  | x :: r => uptoBulkEntry x + uptoBulkEntries r
def uptoBulkEntry {H : Type} : Lit × DataW H → Nat
  | (.string bytes, d) => bytes.length + uptoBulk d + 1
  | (_, d) => uptoBulk d + 1
 end
def uptoSmall : (H : Type) → List (DataW H) → Bool := fun _ ds => decide (uptoBulkAll ds ≤ 1048576)
def OpenSpec.upto (s : _root_.Go.ChangeSpec) : _root_.Go.OpenSpec := { _root_.Go.OpenSpec.ofChange s with cond := some uptoSmall }

/-- 'recyclinglaw40.SerialChecks', WHERE WHAT IT READS IS OF BULK AT MOST 1048576: true; the input reads as it did. -/
def serialChecksUptoRow : OpenClaim := { program := "ytpclkldmkmmmhaa", sum := "ee05354c1063fd7f906a30063c3e7781809cd6485c5542e2e69d8ad945b02a7b", func := "recycling/recyclinglaw40.SerialChecks", spec := "serialChecks", unfollowed := true, recurses := true, plainKeys := false, apart := false, narrowed := true }
def SerialChecksUptoSaid : Prop := serialChecksUptoRow.holds Try.pinned (OpenSpec.upto serialChecksSpec)

/-- 'recyclinglaw40.SerialFinds', WHERE WHAT IT READS IS OF BULK AT MOST 1048576: true; the input reads as it did. -/
def serialFindsUptoRow : OpenClaim := { program := "ytpclkldmkmmmhaa", sum := "ee05354c1063fd7f906a30063c3e7781809cd6485c5542e2e69d8ad945b02a7b", func := "recycling/recyclinglaw40.SerialFinds", spec := "serialFinds", unfollowed := true, recurses := true, plainKeys := false, apart := false, narrowed := true }
def SerialFindsUptoSaid : Prop := serialFindsUptoRow.holds Try.pinned (OpenSpec.upto serialFindsSpec)

/-- 'recyclinglaw40.SerialDeposits', WHERE WHAT IT READS IS OF BULK AT MOST 1048576: true; the input reads as it did. -/
def serialDepositsUptoRow : OpenClaim := { program := "ytpclkldmkmmmhaa", sum := "ee05354c1063fd7f906a30063c3e7781809cd6485c5542e2e69d8ad945b02a7b", func := "recycling/recyclinglaw40.SerialDeposits", spec := "serialDeposits", unfollowed := true, recurses := true, plainKeys := false, apart := false, narrowed := true }
def SerialDepositsUptoSaid : Prop := serialDepositsUptoRow.holds Try.pinned (OpenSpec.upto serialDepositsSpec)

/-- 'recyclinglaw40.SerialPlaces', WHERE WHAT IT READS IS OF BULK AT MOST 1048576: true; the input reads as it did. -/
def serialPlacesUptoRow : OpenClaim := { program := "ytpclkldmkmmmhaa", sum := "ee05354c1063fd7f906a30063c3e7781809cd6485c5542e2e69d8ad945b02a7b", func := "recycling/recyclinglaw40.SerialPlaces", spec := "serialPlaces", unfollowed := true, recurses := true, plainKeys := false, apart := false, narrowed := true }
def SerialPlacesUptoSaid : Prop := serialPlacesUptoRow.holds Try.pinned (OpenSpec.upto serialPlacesSpec)

/-- 'recyclinglaw40.SerialOpens', WHERE WHAT IT READS IS OF BULK AT MOST 1048576: true; the input reads as it did. -/
def serialOpensUptoRow : OpenClaim := { program := "ytpclkldmkmmmhaa", sum := "ee05354c1063fd7f906a30063c3e7781809cd6485c5542e2e69d8ad945b02a7b", func := "recycling/recyclinglaw40.SerialOpens", spec := "serialOpens", unfollowed := true, recurses := true, plainKeys := false, apart := false, narrowed := true }
def SerialOpensUptoSaid : Prop := serialOpensUptoRow.holds Try.pinned (OpenSpec.upto serialOpensSpec)

/-- 'recyclinglaw40.SerialPlaced', WHERE WHAT IT READS IS OF BULK AT MOST 1048576: true; the input reads as it did. -/
def serialPlacedUptoRow : OpenClaim := { program := "ytpclkldmkmmmhaa", sum := "ee05354c1063fd7f906a30063c3e7781809cd6485c5542e2e69d8ad945b02a7b", func := "recycling/recyclinglaw40.SerialPlaced", spec := "serialPlaced", unfollowed := true, recurses := true, plainKeys := false, apart := false, narrowed := true }
def SerialPlacedUptoSaid : Prop := serialPlacedUptoRow.holds Try.pinned (OpenSpec.upto serialPlacedSpec)

/-- 'recyclinglaw40.SerialOpen', WHERE WHAT IT READS IS OF BULK AT MOST 1048576: true; the input reads as it did. -/
def serialOpenUptoRow : OpenClaim := { program := "ytpclkldmkmmmhaa", sum := "ee05354c1063fd7f906a30063c3e7781809cd6485c5542e2e69d8ad945b02a7b", func := "recycling/recyclinglaw40.SerialOpen", spec := "serialOpen", unfollowed := true, recurses := true, plainKeys := false, apart := false, narrowed := true }
def SerialOpenUptoSaid : Prop := serialOpenUptoRow.holds Try.pinned (OpenSpec.upto serialOpenSpec)

end Rows
end Go.Proofs.Ytpclkldmkmmmhaa
