/-
  No cell of these rows narrows 'for every input' (looked for: loops, veiled, ifaces, maps, wideKeys, modest, calm, conditions, laid).
  DERIVED. THE GIVEN ROWS OF THIS SEAT. 7 by the template 'for every input the law returns true; each argument reads behind the call as it read before'; 0 by the template 'total and deterministic' (their statements: YtkknahekpeaoiaaTotals.lean).
  GIVEN WITH THE SEED: the statements are not yours to turn. If you find one false, say at which input.
  Laid BY PROGRAM, IN A SANDBOX (cutbox-rows.mjs): the forced cells as the released guide's own fill.sh prints them over the translation 0db28b3400aac4a6… (all of the seat's roots in one cut). By AI agents, Wed Nov 11 2026. No macro, syntax, notation, axiom, sorry.
-/
import Derived.Test.YtkknahekpeaoiaaChecked
import GoSem.Claim
import GoSem.ClaimJoined
import GoSem.ClaimMapViews
import Derived.JoinedTies
import Derived.KernelRfl
namespace Go.Proofs.Ytkknahekpeaoiaa
/- THE CELL 'sum', in the pinned program and in every row, IS THE sha256 OF THE DUMP (.gsa) THAT YtkknahekpeaoiaaProg.lean LOADS. Nothing in Lean hashes anything: it is a label: what it is worth is what the hold of that sum in a sandbox is worth. -/
noncomputable def Try.pinned : Pinned := { name := "ytkknahekpeaoiaa", sum := "0db28b3400aac4a6ecf42e6497771167b05e7a37cb6993896f0c94502e9d420e", checked := Try.checked }
namespace Rows
def none {H : Type} : Left H := { results := [], args := [] }

/-- 'recyclinglaw14.HouseholdChecks': WHATEVER THE INPUT: true; the input reads as it did. -/
def householdChecksSpec : ChangeSpec := { name := "householdChecks", fn := fun _ => fun
  | [d1, d2, d3] => { results := [.lit (.bool true)], args := [d1, d2, d3] }
  | _ => none }
def householdChecksRow : OpenClaim := { program := "ytkknahekpeaoiaa", sum := "0db28b3400aac4a6ecf42e6497771167b05e7a37cb6993896f0c94502e9d420e", func := "recycling/recyclinglaw14.HouseholdChecks", spec := "householdChecks", unfollowed := true, recurses := true, apart := false }
def HouseholdChecksSaid : Prop := householdChecksRow.holds Try.pinned (OpenSpec.ofChange householdChecksSpec)

/-- ITS FALSE NEIGHBOUR: 'it returns false'. Refute it at one input. -/
def householdChecksWrong : ChangeSpec := { name := "householdChecks", fn := fun _ => fun
  | [d1, d2, d3] => { results := [.lit (.bool false)], args := [d1, d2, d3] }
  | _ => none }
def HouseholdChecksWrongFalsely : Prop := householdChecksRow.holds Try.pinned (OpenSpec.ofChange householdChecksWrong)

/-- 'recyclinglaw14.HouseholdOwners': WHATEVER THE INPUT: true; the input reads as it did. -/
def householdOwnersSpec : ChangeSpec := { name := "householdOwners", fn := fun _ => fun
  | [d1, d2, d3] => { results := [.lit (.bool true)], args := [d1, d2, d3] }
  | _ => none }
def householdOwnersRow : OpenClaim := { program := "ytkknahekpeaoiaa", sum := "0db28b3400aac4a6ecf42e6497771167b05e7a37cb6993896f0c94502e9d420e", func := "recycling/recyclinglaw14.HouseholdOwners", spec := "householdOwners", unfollowed := true, recurses := true, apart := false }
def HouseholdOwnersSaid : Prop := householdOwnersRow.holds Try.pinned (OpenSpec.ofChange householdOwnersSpec)

/-- ITS FALSE NEIGHBOUR: 'it returns false'. Refute it at one input. -/
def householdOwnersWrong : ChangeSpec := { name := "householdOwners", fn := fun _ => fun
  | [d1, d2, d3] => { results := [.lit (.bool false)], args := [d1, d2, d3] }
  | _ => none }
def HouseholdOwnersWrongFalsely : Prop := householdOwnersRow.holds Try.pinned (OpenSpec.ofChange householdOwnersWrong)

/-- 'recyclinglaw14.HouseholdHolds': WHATEVER THE INPUT: true; the input reads as it did. -/
def householdHoldsSpec : ChangeSpec := { name := "householdHolds", fn := fun _ => fun
  | [d1, d2, d3] => { results := [.lit (.bool true)], args := [d1, d2, d3] }
  | _ => none }
def householdHoldsRow : OpenClaim := { program := "ytkknahekpeaoiaa", sum := "0db28b3400aac4a6ecf42e6497771167b05e7a37cb6993896f0c94502e9d420e", func := "recycling/recyclinglaw14.HouseholdHolds", spec := "householdHolds", unfollowed := true, recurses := true, apart := false }
def HouseholdHoldsSaid : Prop := householdHoldsRow.holds Try.pinned (OpenSpec.ofChange householdHoldsSpec)

/-- ITS FALSE NEIGHBOUR: 'it returns false'. Refute it at one input. -/
def householdHoldsWrong : ChangeSpec := { name := "householdHolds", fn := fun _ => fun
  | [d1, d2, d3] => { results := [.lit (.bool false)], args := [d1, d2, d3] }
  | _ => none }
def HouseholdHoldsWrongFalsely : Prop := householdHoldsRow.holds Try.pinned (OpenSpec.ofChange householdHoldsWrong)

/-- 'recyclinglaw14.HouseholdDays': WHATEVER THE INPUT: true; the input reads as it did. -/
def householdDaysSpec : ChangeSpec := { name := "householdDays", fn := fun _ => fun
  | [d1, d2] => { results := [.lit (.bool true)], args := [d1, d2] }
  | _ => none }
def householdDaysRow : OpenClaim := { program := "ytkknahekpeaoiaa", sum := "0db28b3400aac4a6ecf42e6497771167b05e7a37cb6993896f0c94502e9d420e", func := "recycling/recyclinglaw14.HouseholdDays", spec := "householdDays", unfollowed := true, recurses := true, apart := false }
def HouseholdDaysSaid : Prop := householdDaysRow.holds Try.pinned (OpenSpec.ofChange householdDaysSpec)

/-- ITS FALSE NEIGHBOUR: 'it returns false'. Refute it at one input. -/
def householdDaysWrong : ChangeSpec := { name := "householdDays", fn := fun _ => fun
  | [d1, d2] => { results := [.lit (.bool false)], args := [d1, d2] }
  | _ => none }
def HouseholdDaysWrongFalsely : Prop := householdDaysRow.holds Try.pinned (OpenSpec.ofChange householdDaysWrong)

/-- 'recyclinglaw14.HouseholdOwner': WHATEVER THE INPUT: true; the input reads as it did. -/
def householdOwnerSpec : ChangeSpec := { name := "householdOwner", fn := fun _ => fun
  | [d1, d2, d3, d4] => { results := [.lit (.bool true)], args := [d1, d2, d3, d4] }
  | _ => none }
def householdOwnerRow : OpenClaim := { program := "ytkknahekpeaoiaa", sum := "0db28b3400aac4a6ecf42e6497771167b05e7a37cb6993896f0c94502e9d420e", func := "recycling/recyclinglaw14.HouseholdOwner", spec := "householdOwner", unfollowed := true, recurses := true, apart := false }
def HouseholdOwnerSaid : Prop := householdOwnerRow.holds Try.pinned (OpenSpec.ofChange householdOwnerSpec)

/-- ITS FALSE NEIGHBOUR: 'it returns false'. Refute it at one input. -/
def householdOwnerWrong : ChangeSpec := { name := "householdOwner", fn := fun _ => fun
  | [d1, d2, d3, d4] => { results := [.lit (.bool false)], args := [d1, d2, d3, d4] }
  | _ => none }
def HouseholdOwnerWrongFalsely : Prop := householdOwnerRow.holds Try.pinned (OpenSpec.ofChange householdOwnerWrong)

/-- 'recyclinglaw14.HouseholdCovers': WHATEVER THE INPUT: true; the input reads as it did. -/
def householdCoversSpec : ChangeSpec := { name := "householdCovers", fn := fun _ => fun
  | [d1, d2, d3] => { results := [.lit (.bool true)], args := [d1, d2, d3] }
  | _ => none }
def householdCoversRow : OpenClaim := { program := "ytkknahekpeaoiaa", sum := "0db28b3400aac4a6ecf42e6497771167b05e7a37cb6993896f0c94502e9d420e", func := "recycling/recyclinglaw14.HouseholdCovers", spec := "householdCovers", unfollowed := true, recurses := true, apart := false }
def HouseholdCoversSaid : Prop := householdCoversRow.holds Try.pinned (OpenSpec.ofChange householdCoversSpec)

/-- ITS FALSE NEIGHBOUR: 'it returns false'. Refute it at one input. -/
def householdCoversWrong : ChangeSpec := { name := "householdCovers", fn := fun _ => fun
  | [d1, d2, d3] => { results := [.lit (.bool false)], args := [d1, d2, d3] }
  | _ => none }
def HouseholdCoversWrongFalsely : Prop := householdCoversRow.holds Try.pinned (OpenSpec.ofChange householdCoversWrong)

/-- 'recyclinglaw14.HouseholdSplits': WHATEVER THE INPUT: true; the input reads as it did. -/
def householdSplitsSpec : ChangeSpec := { name := "householdSplits", fn := fun _ => fun
  | [d1, d2, d3] => { results := [.lit (.bool true)], args := [d1, d2, d3] }
  | _ => none }
def householdSplitsRow : OpenClaim := { program := "ytkknahekpeaoiaa", sum := "0db28b3400aac4a6ecf42e6497771167b05e7a37cb6993896f0c94502e9d420e", func := "recycling/recyclinglaw14.HouseholdSplits", spec := "householdSplits", unfollowed := true, recurses := true, apart := false }
def HouseholdSplitsSaid : Prop := householdSplitsRow.holds Try.pinned (OpenSpec.ofChange householdSplitsSpec)

/-- ITS FALSE NEIGHBOUR: 'it returns false'. Refute it at one input. -/
def householdSplitsWrong : ChangeSpec := { name := "householdSplits", fn := fun _ => fun
  | [d1, d2, d3] => { results := [.lit (.bool false)], args := [d1, d2, d3] }
  | _ => none }
def HouseholdSplitsWrongFalsely : Prop := householdSplitsRow.holds Try.pinned (OpenSpec.ofChange householdSplitsWrong)

/- THE SECOND FORM. 'bulk': how many values and letters a reading holds, each counted each time it is reached (what is shared counts as often as it is met; a slice's spare places count too). A statement '..UptoSaid' is the law's where the arguments, and the package variables that the reading takes, are together of bulk at most 1048576: NARROWER than '..Said'. Prove '..Said' where nothing that the law and all that it calls make is longer than what came in: it says more and counts as full. Else prove '..UptoSaid'. A law counts once. -/
mutual
def uptoBulk {H : Type} : DataW H → Nat
  | .lit (.string bytes) => bytes.length + 1
  | .lit _ => 1
  | .nil => 1
  | .ptr d => uptoBulk d + 1
  | .slice elems spare => uptoBulkAll elems + uptoBulkAll spare + 1
  | .agg parts => uptoBulkAll parts + 1
  | .iface _ d => uptoBulk d + 1
  | .map entries => uptoBulkEntries entries + 1
  | .held _ => 1
def uptoBulkAll {H : Type} : List (DataW H) → Nat
  | [] => 0
  | d :: r => uptoBulk d + uptoBulkAll r
def uptoBulkEntries {H : Type} : List (Lit × DataW H) → Nat
  | [] => 0
  | x :: r => uptoBulkEntry x + uptoBulkEntries r
def uptoBulkEntry {H : Type} : Lit × DataW H → Nat
  | (.string bytes, d) => bytes.length + uptoBulk d + 1
  | (_, d) => uptoBulk d + 1
 end
def uptoSmall : (H : Type) → List (DataW H) → Bool := fun _ ds => decide (uptoBulkAll ds ≤ 1048576)
def OpenSpec.upto (s : _root_.Go.ChangeSpec) : _root_.Go.OpenSpec := { _root_.Go.OpenSpec.ofChange s with cond := some uptoSmall }

/-- 'recyclinglaw14.HouseholdChecks', WHERE WHAT IT READS IS OF BULK AT MOST 1048576: true; the input reads as it did. -/
def householdChecksUptoRow : OpenClaim := { program := "ytkknahekpeaoiaa", sum := "0db28b3400aac4a6ecf42e6497771167b05e7a37cb6993896f0c94502e9d420e", func := "recycling/recyclinglaw14.HouseholdChecks", spec := "householdChecks", unfollowed := true, recurses := true, apart := false, narrowed := true }
def HouseholdChecksUptoSaid : Prop := householdChecksUptoRow.holds Try.pinned (OpenSpec.upto householdChecksSpec)

/-- 'recyclinglaw14.HouseholdOwners', WHERE WHAT IT READS IS OF BULK AT MOST 1048576: true; the input reads as it did. -/
def householdOwnersUptoRow : OpenClaim := { program := "ytkknahekpeaoiaa", sum := "0db28b3400aac4a6ecf42e6497771167b05e7a37cb6993896f0c94502e9d420e", func := "recycling/recyclinglaw14.HouseholdOwners", spec := "householdOwners", unfollowed := true, recurses := true, apart := false, narrowed := true }
def HouseholdOwnersUptoSaid : Prop := householdOwnersUptoRow.holds Try.pinned (OpenSpec.upto householdOwnersSpec)

/-- 'recyclinglaw14.HouseholdHolds', WHERE WHAT IT READS IS OF BULK AT MOST 1048576: true; the input reads as it did. -/
def householdHoldsUptoRow : OpenClaim := { program := "ytkknahekpeaoiaa", sum := "0db28b3400aac4a6ecf42e6497771167b05e7a37cb6993896f0c94502e9d420e", func := "recycling/recyclinglaw14.HouseholdHolds", spec := "householdHolds", unfollowed := true, recurses := true, apart := false, narrowed := true }
def HouseholdHoldsUptoSaid : Prop := householdHoldsUptoRow.holds Try.pinned (OpenSpec.upto householdHoldsSpec)

/-- 'recyclinglaw14.HouseholdDays', WHERE WHAT IT READS IS OF BULK AT MOST 1048576: true; the input reads as it did. -/
def householdDaysUptoRow : OpenClaim := { program := "ytkknahekpeaoiaa", sum := "0db28b3400aac4a6ecf42e6497771167b05e7a37cb6993896f0c94502e9d420e", func := "recycling/recyclinglaw14.HouseholdDays", spec := "householdDays", unfollowed := true, recurses := true, apart := false, narrowed := true }
def HouseholdDaysUptoSaid : Prop := householdDaysUptoRow.holds Try.pinned (OpenSpec.upto householdDaysSpec)

/-- 'recyclinglaw14.HouseholdOwner', WHERE WHAT IT READS IS OF BULK AT MOST 1048576: true; the input reads as it did. -/
def householdOwnerUptoRow : OpenClaim := { program := "ytkknahekpeaoiaa", sum := "0db28b3400aac4a6ecf42e6497771167b05e7a37cb6993896f0c94502e9d420e", func := "recycling/recyclinglaw14.HouseholdOwner", spec := "householdOwner", unfollowed := true, recurses := true, apart := false, narrowed := true }
def HouseholdOwnerUptoSaid : Prop := householdOwnerUptoRow.holds Try.pinned (OpenSpec.upto householdOwnerSpec)

/-- 'recyclinglaw14.HouseholdCovers', WHERE WHAT IT READS IS OF BULK AT MOST 1048576: true; the input reads as it did. -/
def householdCoversUptoRow : OpenClaim := { program := "ytkknahekpeaoiaa", sum := "0db28b3400aac4a6ecf42e6497771167b05e7a37cb6993896f0c94502e9d420e", func := "recycling/recyclinglaw14.HouseholdCovers", spec := "householdCovers", unfollowed := true, recurses := true, apart := false, narrowed := true }
def HouseholdCoversUptoSaid : Prop := householdCoversUptoRow.holds Try.pinned (OpenSpec.upto householdCoversSpec)

/-- 'recyclinglaw14.HouseholdSplits', WHERE WHAT IT READS IS OF BULK AT MOST 1048576: true; the input reads as it did. -/
def householdSplitsUptoRow : OpenClaim := { program := "ytkknahekpeaoiaa", sum := "0db28b3400aac4a6ecf42e6497771167b05e7a37cb6993896f0c94502e9d420e", func := "recycling/recyclinglaw14.HouseholdSplits", spec := "householdSplits", unfollowed := true, recurses := true, apart := false, narrowed := true }
def HouseholdSplitsUptoSaid : Prop := householdSplitsUptoRow.holds Try.pinned (OpenSpec.upto householdSplitsSpec)

end Rows
end Go.Proofs.Ytkknahekpeaoiaa
