/-
  No cell of these rows narrows 'for every input' (looked for: loops, veiled, ifaces, maps, wideKeys, modest, calm, conditions, laid).
  DERIVED. THE GIVEN ROWS OF THIS SEAT. 7 by the template 'for every input the law returns true; each argument reads behind the call as it read before'; 0 by the template 'total and deterministic' (their statements: YtojenglklffkoaaTotals.lean).
  GIVEN WITH THE SEED: the statements are not yours to turn. If you find one false, say at which input.
  Laid BY PROGRAM, IN A SANDBOX (cutbox-rows.mjs): the forced cells as the released guide's own fill.sh prints them over the translation 2e0400d8b2bee870… (all of the seat's roots in one cut). By AI agents, Wed Nov 11 2026. No macro, syntax, notation, axiom, sorry.
-/
import Derived.Test.YtojenglklffkoaaChecked
import GoSem.Claim
import GoSem.ClaimJoined
import GoSem.ClaimMapViews
import Derived.JoinedTies
import Derived.KernelRfl
namespace Go.Proofs.Ytojenglklffkoaa
/- THE CELL 'sum', in the pinned program and in every row, IS THE sha256 OF THE DUMP (.gsa) THAT YtojenglklffkoaaProg.lean LOADS. Nothing in Lean hashes anything: it is a label: what it is worth is what the hold of that sum in a sandbox is worth. -/
noncomputable def Try.pinned : Pinned := { name := "ytojenglklffkoaa", sum := "2e0400d8b2bee87013c2cb5500b3bb45078f60875cba558a28709c8b1e2a4b77", checked := Try.checked }
namespace Rows
def none {H : Type} : Left H := { results := [], args := [] }

/-- 'recyclinglaw47.ClearingNets': WHATEVER THE INPUT: true; the input reads as it did. -/
def clearingNetsSpec : ChangeSpec := { name := "clearingNets", fn := fun _ => fun
  | [d] => { results := [.lit (.bool true)], args := [d] }
  | _ => none }
def clearingNetsRow : OpenClaim := { program := "ytojenglklffkoaa", sum := "2e0400d8b2bee87013c2cb5500b3bb45078f60875cba558a28709c8b1e2a4b77", func := "recycling/recyclinglaw47.ClearingNets", spec := "clearingNets", unfollowed := true, recurses := true, apart := false }
def ClearingNetsSaid : Prop := clearingNetsRow.holds Try.pinned (OpenSpec.ofChange clearingNetsSpec)

/-- ITS FALSE NEIGHBOUR: 'it returns false'. Refute it at one input. -/
def clearingNetsWrong : ChangeSpec := { name := "clearingNets", fn := fun _ => fun
  | [d] => { results := [.lit (.bool false)], args := [d] }
  | _ => none }
def ClearingNetsWrongFalsely : Prop := clearingNetsRow.holds Try.pinned (OpenSpec.ofChange clearingNetsWrong)

/-- 'recyclinglaw47.ClearingDues': WHATEVER THE INPUT: true; the input reads as it did. -/
def clearingDuesSpec : ChangeSpec := { name := "clearingDues", fn := fun _ => fun
  | [d] => { results := [.lit (.bool true)], args := [d] }
  | _ => none }
def clearingDuesRow : OpenClaim := { program := "ytojenglklffkoaa", sum := "2e0400d8b2bee87013c2cb5500b3bb45078f60875cba558a28709c8b1e2a4b77", func := "recycling/recyclinglaw47.ClearingDues", spec := "clearingDues", unfollowed := true, recurses := true, apart := false }
def ClearingDuesSaid : Prop := clearingDuesRow.holds Try.pinned (OpenSpec.ofChange clearingDuesSpec)

/-- ITS FALSE NEIGHBOUR: 'it returns false'. Refute it at one input. -/
def clearingDuesWrong : ChangeSpec := { name := "clearingDues", fn := fun _ => fun
  | [d] => { results := [.lit (.bool false)], args := [d] }
  | _ => none }
def ClearingDuesWrongFalsely : Prop := clearingDuesRow.holds Try.pinned (OpenSpec.ofChange clearingDuesWrong)

/-- 'recyclinglaw47.ClearingApplies': WHATEVER THE INPUT: true; the input reads as it did. -/
def clearingAppliesSpec : ChangeSpec := { name := "clearingApplies", fn := fun _ => fun
  | [d1, d2] => { results := [.lit (.bool true)], args := [d1, d2] }
  | _ => none }
def clearingAppliesRow : OpenClaim := { program := "ytojenglklffkoaa", sum := "2e0400d8b2bee87013c2cb5500b3bb45078f60875cba558a28709c8b1e2a4b77", func := "recycling/recyclinglaw47.ClearingApplies", spec := "clearingApplies", unfollowed := true, recurses := true, apart := false }
def ClearingAppliesSaid : Prop := clearingAppliesRow.holds Try.pinned (OpenSpec.ofChange clearingAppliesSpec)

/-- ITS FALSE NEIGHBOUR: 'it returns false'. Refute it at one input. -/
def clearingAppliesWrong : ChangeSpec := { name := "clearingApplies", fn := fun _ => fun
  | [d1, d2] => { results := [.lit (.bool false)], args := [d1, d2] }
  | _ => none }
def ClearingAppliesWrongFalsely : Prop := clearingAppliesRow.holds Try.pinned (OpenSpec.ofChange clearingAppliesWrong)

/-- 'recyclinglaw47.ClearingSettles': WHATEVER THE INPUT: true; the input reads as it did. -/
def clearingSettlesSpec : ChangeSpec := { name := "clearingSettles", fn := fun _ => fun
  | [d] => { results := [.lit (.bool true)], args := [d] }
  | _ => none }
def clearingSettlesRow : OpenClaim := { program := "ytojenglklffkoaa", sum := "2e0400d8b2bee87013c2cb5500b3bb45078f60875cba558a28709c8b1e2a4b77", func := "recycling/recyclinglaw47.ClearingSettles", spec := "clearingSettles", unfollowed := true, recurses := true, apart := false }
def ClearingSettlesSaid : Prop := clearingSettlesRow.holds Try.pinned (OpenSpec.ofChange clearingSettlesSpec)

/-- ITS FALSE NEIGHBOUR: 'it returns false'. Refute it at one input. -/
def clearingSettlesWrong : ChangeSpec := { name := "clearingSettles", fn := fun _ => fun
  | [d] => { results := [.lit (.bool false)], args := [d] }
  | _ => none }
def ClearingSettlesWrongFalsely : Prop := clearingSettlesRow.holds Try.pinned (OpenSpec.ofChange clearingSettlesWrong)

/-- 'recyclinglaw47.ClearingZero': WHATEVER THE INPUT: true; the input reads as it did. -/
def clearingZeroSpec : ChangeSpec := { name := "clearingZero", fn := fun _ => fun
  | [d] => { results := [.lit (.bool true)], args := [d] }
  | _ => none }
def clearingZeroRow : OpenClaim := { program := "ytojenglklffkoaa", sum := "2e0400d8b2bee87013c2cb5500b3bb45078f60875cba558a28709c8b1e2a4b77", func := "recycling/recyclinglaw47.ClearingZero", spec := "clearingZero", unfollowed := true, recurses := true, apart := false }
def ClearingZeroSaid : Prop := clearingZeroRow.holds Try.pinned (OpenSpec.ofChange clearingZeroSpec)

/-- ITS FALSE NEIGHBOUR: 'it returns false'. Refute it at one input. -/
def clearingZeroWrong : ChangeSpec := { name := "clearingZero", fn := fun _ => fun
  | [d] => { results := [.lit (.bool false)], args := [d] }
  | _ => none }
def ClearingZeroWrongFalsely : Prop := clearingZeroRow.holds Try.pinned (OpenSpec.ofChange clearingZeroWrong)

/-- 'recyclinglaw47.ClearingMirror': WHATEVER THE INPUT: true; the input reads as it did. -/
def clearingMirrorSpec : ChangeSpec := { name := "clearingMirror", fn := fun _ => fun
  | [d] => { results := [.lit (.bool true)], args := [d] }
  | _ => none }
def clearingMirrorRow : OpenClaim := { program := "ytojenglklffkoaa", sum := "2e0400d8b2bee87013c2cb5500b3bb45078f60875cba558a28709c8b1e2a4b77", func := "recycling/recyclinglaw47.ClearingMirror", spec := "clearingMirror", unfollowed := true, recurses := true, apart := false }
def ClearingMirrorSaid : Prop := clearingMirrorRow.holds Try.pinned (OpenSpec.ofChange clearingMirrorSpec)

/-- ITS FALSE NEIGHBOUR: 'it returns false'. Refute it at one input. -/
def clearingMirrorWrong : ChangeSpec := { name := "clearingMirror", fn := fun _ => fun
  | [d] => { results := [.lit (.bool false)], args := [d] }
  | _ => none }
def ClearingMirrorWrongFalsely : Prop := clearingMirrorRow.holds Try.pinned (OpenSpec.ofChange clearingMirrorWrong)

/-- 'recyclinglaw47.ClearingAdds': WHATEVER THE INPUT: true; the input reads as it did. -/
def clearingAddsSpec : ChangeSpec := { name := "clearingAdds", fn := fun _ => fun
  | [d1, d2] => { results := [.lit (.bool true)], args := [d1, d2] }
  | _ => none }
def clearingAddsRow : OpenClaim := { program := "ytojenglklffkoaa", sum := "2e0400d8b2bee87013c2cb5500b3bb45078f60875cba558a28709c8b1e2a4b77", func := "recycling/recyclinglaw47.ClearingAdds", spec := "clearingAdds", unfollowed := true, recurses := true, apart := false }
def ClearingAddsSaid : Prop := clearingAddsRow.holds Try.pinned (OpenSpec.ofChange clearingAddsSpec)

/-- ITS FALSE NEIGHBOUR: 'it returns false'. Refute it at one input. -/
def clearingAddsWrong : ChangeSpec := { name := "clearingAdds", fn := fun _ => fun
  | [d1, d2] => { results := [.lit (.bool false)], args := [d1, d2] }
  | _ => none }
def ClearingAddsWrongFalsely : Prop := clearingAddsRow.holds Try.pinned (OpenSpec.ofChange clearingAddsWrong)

/- THE SECOND FORM. 'bulk': how many values and letters a reading holds, each counted each time it is reached (what is shared counts as often as it is met; a slice's spare places count too). A statement '..UptoSaid' is the law's where the arguments, and the package variables that the reading takes, are together of bulk at most 1048576: NARROWER than '..Said'. Prove '..Said' where nothing that the law and all that it calls make is longer than what came in: it says more and counts as full. Else prove '..UptoSaid'. A law counts once. -/
mutual
def uptoBulk {H : Type} : DataW H → Nat
  | .lit (.string bytes) => bytes.length + 1
  | .lit _ => 1
  | .nil => 1
  | .ptr d => uptoBulk d + 1
  | .slice elems spare => uptoBulkAll elems + uptoBulkAll spare + 1
  | .agg parts => uptoBulkAll parts + 1
  | .iface _ d => uptoBulk d + 1
  | .map entries => uptoBulkEntries entries + 1
  | .held _ => 1
def uptoBulkAll {H : Type} : List (DataW H) → Nat
  | [] => 0
  | d :: r => uptoBulk d + uptoBulkAll r
def uptoBulkEntries {H : Type} : List (Lit × DataW H) → Nat
  | [] => 0
  | x :: r => uptoBulkEntry x + uptoBulkEntries r
def uptoBulkEntry {H : Type} : Lit × DataW H → Nat
  | (.string bytes, d) => bytes.length + uptoBulk d + 1
  | (_, d) => uptoBulk d + 1
 end
def uptoSmall : (H : Type) → List (DataW H) → Bool := fun _ ds => decide (uptoBulkAll ds ≤ 1048576)
def OpenSpec.upto (s : _root_.Go.ChangeSpec) : _root_.Go.OpenSpec := { _root_.Go.OpenSpec.ofChange s with cond := some uptoSmall }

/-- 'recyclinglaw47.ClearingNets', WHERE WHAT IT READS IS OF BULK AT MOST 1048576: true; the input reads as it did. -/
def clearingNetsUptoRow : OpenClaim := { program := "ytojenglklffkoaa", sum := "2e0400d8b2bee87013c2cb5500b3bb45078f60875cba558a28709c8b1e2a4b77", func := "recycling/recyclinglaw47.ClearingNets", spec := "clearingNets", unfollowed := true, recurses := true, apart := false, narrowed := true }
def ClearingNetsUptoSaid : Prop := clearingNetsUptoRow.holds Try.pinned (OpenSpec.upto clearingNetsSpec)

/-- 'recyclinglaw47.ClearingDues', WHERE WHAT IT READS IS OF BULK AT MOST 1048576: true; the input reads as it did. -/
def clearingDuesUptoRow : OpenClaim := { program := "ytojenglklffkoaa", sum := "2e0400d8b2bee87013c2cb5500b3bb45078f60875cba558a28709c8b1e2a4b77", func := "recycling/recyclinglaw47.ClearingDues", spec := "clearingDues", unfollowed := true, recurses := true, apart := false, narrowed := true }
def ClearingDuesUptoSaid : Prop := clearingDuesUptoRow.holds Try.pinned (OpenSpec.upto clearingDuesSpec)

/-- 'recyclinglaw47.ClearingApplies', WHERE WHAT IT READS IS OF BULK AT MOST 1048576: true; the input reads as it did. -/
def clearingAppliesUptoRow : OpenClaim := { program := "ytojenglklffkoaa", sum := "2e0400d8b2bee87013c2cb5500b3bb45078f60875cba558a28709c8b1e2a4b77", func := "recycling/recyclinglaw47.ClearingApplies", spec := "clearingApplies", unfollowed := true, recurses := true, apart := false, narrowed := true }
def ClearingAppliesUptoSaid : Prop := clearingAppliesUptoRow.holds Try.pinned (OpenSpec.upto clearingAppliesSpec)

/-- 'recyclinglaw47.ClearingSettles', WHERE WHAT IT READS IS OF BULK AT MOST 1048576: true; the input reads as it did. -/
def clearingSettlesUptoRow : OpenClaim := { program := "ytojenglklffkoaa", sum := "2e0400d8b2bee87013c2cb5500b3bb45078f60875cba558a28709c8b1e2a4b77", func := "recycling/recyclinglaw47.ClearingSettles", spec := "clearingSettles", unfollowed := true, recurses := true, apart := false, narrowed := true }
def ClearingSettlesUptoSaid : Prop := clearingSettlesUptoRow.holds Try.pinned (OpenSpec.upto clearingSettlesSpec)

/-- 'recyclinglaw47.ClearingZero', WHERE WHAT IT READS IS OF BULK AT MOST 1048576: true; the input reads as it did. -/
def clearingZeroUptoRow : OpenClaim := { program := "ytojenglklffkoaa", sum := "2e0400d8b2bee87013c2cb5500b3bb45078f60875cba558a28709c8b1e2a4b77", func := "recycling/recyclinglaw47.ClearingZero", spec := "clearingZero", unfollowed := true, recurses := true, apart := false, narrowed := true }
def ClearingZeroUptoSaid : Prop := clearingZeroUptoRow.holds Try.pinned (OpenSpec.upto clearingZeroSpec)

/-- 'recyclinglaw47.ClearingMirror', WHERE WHAT IT READS IS OF BULK AT MOST 1048576: true; the input reads as it did. -/
def clearingMirrorUptoRow : OpenClaim := { program := "ytojenglklffkoaa", sum := "2e0400d8b2bee87013c2cb5500b3bb45078f60875cba558a28709c8b1e2a4b77", func := "recycling/recyclinglaw47.ClearingMirror", spec := "clearingMirror", unfollowed := true, recurses := true, apart := false, narrowed := true }
def ClearingMirrorUptoSaid : Prop := clearingMirrorUptoRow.holds Try.pinned (OpenSpec.upto clearingMirrorSpec)

/-- 'recyclinglaw47.ClearingAdds', WHERE WHAT IT READS IS OF BULK AT MOST 1048576: true; the input reads as it did. -/
def clearingAddsUptoRow : OpenClaim := { program := "ytojenglklffkoaa", sum := "2e0400d8b2bee87013c2cb5500b3bb45078f60875cba558a28709c8b1e2a4b77", func := "recycling/recyclinglaw47.ClearingAdds", spec := "clearingAdds", unfollowed := true, recurses := true, apart := false, narrowed := true }
def ClearingAddsUptoSaid : Prop := clearingAddsUptoRow.holds Try.pinned (OpenSpec.upto clearingAddsSpec)

end Rows
end Go.Proofs.Ytojenglklffkoaa
