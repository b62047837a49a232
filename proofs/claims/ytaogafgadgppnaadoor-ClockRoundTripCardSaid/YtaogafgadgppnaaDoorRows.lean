/-
  NARROWER THAN 'FOR EVERY INPUT', by the rows' own cells (each row's printed sentence says how): ClockFormats: laid · ClockRoundTrip: laid · ClockDates: laid · ClockOpens: laid · ClockNext: laid · ClockUnions: laid · ClockMerge: laid · ClockCommons: laid · ClockShared: laid.
  DERIVED. THE GIVEN ROWS OF THIS SEAT. 9 by the template 'for every input the law returns true; each argument reads behind the call as it read before'; 0 by the template 'total and deterministic' (their statements: YtaogafgadgppnaaDoorTotals.lean).
  GIVEN WITH THE SEED: the statements are not yours to turn. If you find one false, say at which input.
  Laid BY PROGRAM, IN A SANDBOX (cutbox-rows.mjs): the forced cells as the released guide's own fill.sh prints them over the translation 227b8b66f039d018… (all of the seat's roots in one cut). By AI agents, Wed Nov 11 2026. No macro, syntax, notation, axiom, sorry.
-/
import Derived.Test.YtaogafgadgppnaaDoorChecked
import GoSem.Claim
import GoSem.ClaimJoined
import GoSem.ClaimMapViews
import Derived.JoinedTies
import Derived.KernelRfl
namespace Go.Proofs.YtaogafgadgppnaaDoor
/- THE CELL 'sum', in the pinned program and in every row, IS THE sha256 OF THE DUMP (.gsa) THAT YtaogafgadgppnaaDoorProg.lean LOADS. Nothing in Lean hashes anything: it is a label: what it is worth is what the hold of that sum in a sandbox is worth. -/
noncomputable def Tryd.pinned : Pinned := { name := "ytaogafgadgppnaadoor", sum := "227b8b66f039d018a75904c9ca01cb4cbb8fc81841c1d857b1b63363d583b13b", checked := Tryd.checked }
namespace Rows
def none {H : Type} : Left H := { results := [], args := [] }

/- WHAT THE LISTED PACKAGE-LEVEL VARIABLES READ AS WHEN THE CALL BEGINS. Each datum BY PROGRAM (the guide's laid-datum.mjs) off the statement by which the dump's own 'gosem.cut.vars' lays the variable. In a bare row this is a premise. The card (YtaogafgadgppnaaDoorCards.lean) ties it to the program's text. -/
def laid_math_bits_deBruijn32tab {H : Type} : DataW H := .agg [.lit (.int .u8 0), .lit (.int .u8 1), .lit (.int .u8 28), .lit (.int .u8 2), .lit (.int .u8 29), .lit (.int .u8 14), .lit (.int .u8 24), .lit (.int .u8 3), .lit (.int .u8 30), .lit (.int .u8 22), .lit (.int .u8 20), .lit (.int .u8 15), .lit (.int .u8 25), .lit (.int .u8 17), .lit (.int .u8 4), .lit (.int .u8 8), .lit (.int .u8 31), .lit (.int .u8 27), .lit (.int .u8 13), .lit (.int .u8 23), .lit (.int .u8 21), .lit (.int .u8 19), .lit (.int .u8 16), .lit (.int .u8 7), .lit (.int .u8 26), .lit (.int .u8 12), .lit (.int .u8 18), .lit (.int .u8 6), .lit (.int .u8 11), .lit (.int .u8 5), .lit (.int .u8 10), .lit (.int .u8 9)]
def laid_math_bits_deBruijn64tab {H : Type} : DataW H := .agg [.lit (.int .u8 0), .lit (.int .u8 1), .lit (.int .u8 56), .lit (.int .u8 2), .lit (.int .u8 57), .lit (.int .u8 49), .lit (.int .u8 28), .lit (.int .u8 3), .lit (.int .u8 61), .lit (.int .u8 58), .lit (.int .u8 42), .lit (.int .u8 50), .lit (.int .u8 38), .lit (.int .u8 29), .lit (.int .u8 17), .lit (.int .u8 4), .lit (.int .u8 62), .lit (.int .u8 47), .lit (.int .u8 59), .lit (.int .u8 36), .lit (.int .u8 45), .lit (.int .u8 43), .lit (.int .u8 51), .lit (.int .u8 22), .lit (.int .u8 53), .lit (.int .u8 39), .lit (.int .u8 33), .lit (.int .u8 30), .lit (.int .u8 24), .lit (.int .u8 18), .lit (.int .u8 12), .lit (.int .u8 5), .lit (.int .u8 63), .lit (.int .u8 55), .lit (.int .u8 48), .lit (.int .u8 27), .lit (.int .u8 60), .lit (.int .u8 41), .lit (.int .u8 37), .lit (.int .u8 16), .lit (.int .u8 46), .lit (.int .u8 35), .lit (.int .u8 44), .lit (.int .u8 21), .lit (.int .u8 52), .lit (.int .u8 32), .lit (.int .u8 23), .lit (.int .u8 11), .lit (.int .u8 54), .lit (.int .u8 26), .lit (.int .u8 40), .lit (.int .u8 15), .lit (.int .u8 34), .lit (.int .u8 20), .lit (.int .u8 31), .lit (.int .u8 10), .lit (.int .u8 25), .lit (.int .u8 14), .lit (.int .u8 19), .lit (.int .u8 9), .lit (.int .u8 13), .lit (.int .u8 8), .lit (.int .u8 7), .lit (.int .u8 6)]
def laid_internal_strconv_uint64pow10 {H : Type} : DataW H := .agg [.lit (.int .u64 1), .lit (.int .u64 10), .lit (.int .u64 100), .lit (.int .u64 1000), .lit (.int .u64 10000), .lit (.int .u64 100000), .lit (.int .u64 1000000), .lit (.int .u64 10000000), .lit (.int .u64 100000000), .lit (.int .u64 1000000000), .lit (.int .u64 10000000000), .lit (.int .u64 100000000000), .lit (.int .u64 1000000000000), .lit (.int .u64 10000000000000), .lit (.int .u64 100000000000000), .lit (.int .u64 1000000000000000), .lit (.int .u64 10000000000000000), .lit (.int .u64 100000000000000000), .lit (.int .u64 1000000000000000000), .lit (.int .u64 10000000000000000000)]

/-- 'recyclinglaw03.ClockFormats': WHATEVER THE INPUT: true; the input reads as it did. -/
def clockFormatsSpec : ChangeSpec := { name := "clockFormats", fn := fun _ => fun
  | [d1, d2] => { results := [.lit (.bool true)], args := [d1, d2] }
  | _ => none }
def clockFormatsRow : OpenClaim := { program := "ytaogafgadgppnaadoor", sum := "227b8b66f039d018a75904c9ca01cb4cbb8fc81841c1d857b1b63363d583b13b", func := "recycling/recyclinglaw03.ClockFormats", spec := "clockFormats", unfollowed := true, recurses := true, named := ["internal/strconv.uint64pow10", "math/bits.deBruijn32tab", "math/bits.deBruijn64tab"], apart := false, laid := [("math/bits.deBruijn32tab", laid_math_bits_deBruijn32tab), ("math/bits.deBruijn64tab", laid_math_bits_deBruijn64tab), ("internal/strconv.uint64pow10", laid_internal_strconv_uint64pow10)] }
def ClockFormatsSaid : Prop := clockFormatsRow.holds Tryd.pinned (OpenSpec.ofChange clockFormatsSpec)

/-- ITS FALSE NEIGHBOUR: 'it returns false'. Refute it at one input. -/
def clockFormatsWrong : ChangeSpec := { name := "clockFormats", fn := fun _ => fun
  | [d1, d2] => { results := [.lit (.bool false)], args := [d1, d2] }
  | _ => none }
def ClockFormatsWrongFalsely : Prop := clockFormatsRow.holds Tryd.pinned (OpenSpec.ofChange clockFormatsWrong)

/-- 'recyclinglaw03.ClockRoundTrip': WHATEVER THE INPUT: true; the input reads as it did. -/
def clockRoundTripSpec : ChangeSpec := { name := "clockRoundTrip", fn := fun _ => fun
  | [d1, d2] => { results := [.lit (.bool true)], args := [d1, d2] }
  | _ => none }
def clockRoundTripRow : OpenClaim := { program := "ytaogafgadgppnaadoor", sum := "227b8b66f039d018a75904c9ca01cb4cbb8fc81841c1d857b1b63363d583b13b", func := "recycling/recyclinglaw03.ClockRoundTrip", spec := "clockRoundTrip", unfollowed := true, recurses := true, named := ["internal/strconv.uint64pow10", "math/bits.deBruijn32tab", "math/bits.deBruijn64tab"], apart := false, laid := [("math/bits.deBruijn32tab", laid_math_bits_deBruijn32tab), ("math/bits.deBruijn64tab", laid_math_bits_deBruijn64tab), ("internal/strconv.uint64pow10", laid_internal_strconv_uint64pow10)] }
def ClockRoundTripSaid : Prop := clockRoundTripRow.holds Tryd.pinned (OpenSpec.ofChange clockRoundTripSpec)

/-- ITS FALSE NEIGHBOUR: 'it returns false'. Refute it at one input. -/
def clockRoundTripWrong : ChangeSpec := { name := "clockRoundTrip", fn := fun _ => fun
  | [d1, d2] => { results := [.lit (.bool false)], args := [d1, d2] }
  | _ => none }
def ClockRoundTripWrongFalsely : Prop := clockRoundTripRow.holds Tryd.pinned (OpenSpec.ofChange clockRoundTripWrong)

/-- 'recyclinglaw03.ClockDates': WHATEVER THE INPUT: true; the input reads as it did. -/
def clockDatesSpec : ChangeSpec := { name := "clockDates", fn := fun _ => fun
  | [d1, d2] => { results := [.lit (.bool true)], args := [d1, d2] }
  | _ => none }
def clockDatesRow : OpenClaim := { program := "ytaogafgadgppnaadoor", sum := "227b8b66f039d018a75904c9ca01cb4cbb8fc81841c1d857b1b63363d583b13b", func := "recycling/recyclinglaw03.ClockDates", spec := "clockDates", unfollowed := true, recurses := true, named := ["internal/strconv.uint64pow10", "math/bits.deBruijn32tab", "math/bits.deBruijn64tab"], apart := false, laid := [("math/bits.deBruijn32tab", laid_math_bits_deBruijn32tab), ("math/bits.deBruijn64tab", laid_math_bits_deBruijn64tab), ("internal/strconv.uint64pow10", laid_internal_strconv_uint64pow10)] }
def ClockDatesSaid : Prop := clockDatesRow.holds Tryd.pinned (OpenSpec.ofChange clockDatesSpec)

/-- ITS FALSE NEIGHBOUR: 'it returns false'. Refute it at one input. -/
def clockDatesWrong : ChangeSpec := { name := "clockDates", fn := fun _ => fun
  | [d1, d2] => { results := [.lit (.bool false)], args := [d1, d2] }
  | _ => none }
def ClockDatesWrongFalsely : Prop := clockDatesRow.holds Tryd.pinned (OpenSpec.ofChange clockDatesWrong)

/-- 'recyclinglaw03.ClockOpens': WHATEVER THE INPUT: true; the input reads as it did. -/
def clockOpensSpec : ChangeSpec := { name := "clockOpens", fn := fun _ => fun
  | [d1, d2] => { results := [.lit (.bool true)], args := [d1, d2] }
  | _ => none }
def clockOpensRow : OpenClaim := { program := "ytaogafgadgppnaadoor", sum := "227b8b66f039d018a75904c9ca01cb4cbb8fc81841c1d857b1b63363d583b13b", func := "recycling/recyclinglaw03.ClockOpens", spec := "clockOpens", unfollowed := true, recurses := true, named := ["internal/strconv.uint64pow10", "math/bits.deBruijn32tab", "math/bits.deBruijn64tab"], apart := false, laid := [("math/bits.deBruijn32tab", laid_math_bits_deBruijn32tab), ("math/bits.deBruijn64tab", laid_math_bits_deBruijn64tab), ("internal/strconv.uint64pow10", laid_internal_strconv_uint64pow10)] }
def ClockOpensSaid : Prop := clockOpensRow.holds Tryd.pinned (OpenSpec.ofChange clockOpensSpec)

/-- ITS FALSE NEIGHBOUR: 'it returns false'. Refute it at one input. -/
def clockOpensWrong : ChangeSpec := { name := "clockOpens", fn := fun _ => fun
  | [d1, d2] => { results := [.lit (.bool false)], args := [d1, d2] }
  | _ => none }
def ClockOpensWrongFalsely : Prop := clockOpensRow.holds Tryd.pinned (OpenSpec.ofChange clockOpensWrong)

/-- 'recyclinglaw03.ClockNext': WHATEVER THE INPUT: true; the input reads as it did. -/
def clockNextSpec : ChangeSpec := { name := "clockNext", fn := fun _ => fun
  | [d1, d2, d3] => { results := [.lit (.bool true)], args := [d1, d2, d3] }
  | _ => none }
def clockNextRow : OpenClaim := { program := "ytaogafgadgppnaadoor", sum := "227b8b66f039d018a75904c9ca01cb4cbb8fc81841c1d857b1b63363d583b13b", func := "recycling/recyclinglaw03.ClockNext", spec := "clockNext", unfollowed := true, recurses := true, named := ["internal/strconv.uint64pow10", "math/bits.deBruijn32tab", "math/bits.deBruijn64tab"], apart := false, laid := [("math/bits.deBruijn32tab", laid_math_bits_deBruijn32tab), ("math/bits.deBruijn64tab", laid_math_bits_deBruijn64tab), ("internal/strconv.uint64pow10", laid_internal_strconv_uint64pow10)] }
def ClockNextSaid : Prop := clockNextRow.holds Tryd.pinned (OpenSpec.ofChange clockNextSpec)

/-- ITS FALSE NEIGHBOUR: 'it returns false'. Refute it at one input. -/
def clockNextWrong : ChangeSpec := { name := "clockNext", fn := fun _ => fun
  | [d1, d2, d3] => { results := [.lit (.bool false)], args := [d1, d2, d3] }
  | _ => none }
def ClockNextWrongFalsely : Prop := clockNextRow.holds Tryd.pinned (OpenSpec.ofChange clockNextWrong)

/-- 'recyclinglaw03.ClockUnions': WHATEVER THE INPUT: true; the input reads as it did. -/
def clockUnionsSpec : ChangeSpec := { name := "clockUnions", fn := fun _ => fun
  | [d1, d2] => { results := [.lit (.bool true)], args := [d1, d2] }
  | _ => none }
def clockUnionsRow : OpenClaim := { program := "ytaogafgadgppnaadoor", sum := "227b8b66f039d018a75904c9ca01cb4cbb8fc81841c1d857b1b63363d583b13b", func := "recycling/recyclinglaw03.ClockUnions", spec := "clockUnions", unfollowed := true, recurses := true, named := ["internal/strconv.uint64pow10", "math/bits.deBruijn32tab", "math/bits.deBruijn64tab"], apart := false, laid := [("math/bits.deBruijn32tab", laid_math_bits_deBruijn32tab), ("math/bits.deBruijn64tab", laid_math_bits_deBruijn64tab), ("internal/strconv.uint64pow10", laid_internal_strconv_uint64pow10)] }
def ClockUnionsSaid : Prop := clockUnionsRow.holds Tryd.pinned (OpenSpec.ofChange clockUnionsSpec)

/-- ITS FALSE NEIGHBOUR: 'it returns false'. Refute it at one input. -/
def clockUnionsWrong : ChangeSpec := { name := "clockUnions", fn := fun _ => fun
  | [d1, d2] => { results := [.lit (.bool false)], args := [d1, d2] }
  | _ => none }
def ClockUnionsWrongFalsely : Prop := clockUnionsRow.holds Tryd.pinned (OpenSpec.ofChange clockUnionsWrong)

/-- 'recyclinglaw03.ClockMerge': WHATEVER THE INPUT: true; the input reads as it did. -/
def clockMergeSpec : ChangeSpec := { name := "clockMerge", fn := fun _ => fun
  | [d1, d2] => { results := [.lit (.bool true)], args := [d1, d2] }
  | _ => none }
def clockMergeRow : OpenClaim := { program := "ytaogafgadgppnaadoor", sum := "227b8b66f039d018a75904c9ca01cb4cbb8fc81841c1d857b1b63363d583b13b", func := "recycling/recyclinglaw03.ClockMerge", spec := "clockMerge", unfollowed := true, recurses := true, named := ["internal/strconv.uint64pow10", "math/bits.deBruijn32tab", "math/bits.deBruijn64tab"], apart := false, laid := [("math/bits.deBruijn32tab", laid_math_bits_deBruijn32tab), ("math/bits.deBruijn64tab", laid_math_bits_deBruijn64tab), ("internal/strconv.uint64pow10", laid_internal_strconv_uint64pow10)] }
def ClockMergeSaid : Prop := clockMergeRow.holds Tryd.pinned (OpenSpec.ofChange clockMergeSpec)

/-- ITS FALSE NEIGHBOUR: 'it returns false'. Refute it at one input. -/
def clockMergeWrong : ChangeSpec := { name := "clockMerge", fn := fun _ => fun
  | [d1, d2] => { results := [.lit (.bool false)], args := [d1, d2] }
  | _ => none }
def ClockMergeWrongFalsely : Prop := clockMergeRow.holds Tryd.pinned (OpenSpec.ofChange clockMergeWrong)

/-- 'recyclinglaw03.ClockCommons': WHATEVER THE INPUT: true; the input reads as it did. -/
def clockCommonsSpec : ChangeSpec := { name := "clockCommons", fn := fun _ => fun
  | [d1, d2] => { results := [.lit (.bool true)], args := [d1, d2] }
  | _ => none }
def clockCommonsRow : OpenClaim := { program := "ytaogafgadgppnaadoor", sum := "227b8b66f039d018a75904c9ca01cb4cbb8fc81841c1d857b1b63363d583b13b", func := "recycling/recyclinglaw03.ClockCommons", spec := "clockCommons", unfollowed := true, recurses := true, named := ["internal/strconv.uint64pow10", "math/bits.deBruijn32tab", "math/bits.deBruijn64tab"], apart := false, laid := [("math/bits.deBruijn32tab", laid_math_bits_deBruijn32tab), ("math/bits.deBruijn64tab", laid_math_bits_deBruijn64tab), ("internal/strconv.uint64pow10", laid_internal_strconv_uint64pow10)] }
def ClockCommonsSaid : Prop := clockCommonsRow.holds Tryd.pinned (OpenSpec.ofChange clockCommonsSpec)

/-- ITS FALSE NEIGHBOUR: 'it returns false'. Refute it at one input. -/
def clockCommonsWrong : ChangeSpec := { name := "clockCommons", fn := fun _ => fun
  | [d1, d2] => { results := [.lit (.bool false)], args := [d1, d2] }
  | _ => none }
def ClockCommonsWrongFalsely : Prop := clockCommonsRow.holds Tryd.pinned (OpenSpec.ofChange clockCommonsWrong)

/-- 'recyclinglaw03.ClockShared': WHATEVER THE INPUT: true; the input reads as it did. -/
def clockSharedSpec : ChangeSpec := { name := "clockShared", fn := fun _ => fun
  | [d1, d2, d3] => { results := [.lit (.bool true)], args := [d1, d2, d3] }
  | _ => none }
def clockSharedRow : OpenClaim := { program := "ytaogafgadgppnaadoor", sum := "227b8b66f039d018a75904c9ca01cb4cbb8fc81841c1d857b1b63363d583b13b", func := "recycling/recyclinglaw03.ClockShared", spec := "clockShared", unfollowed := true, recurses := true, named := ["internal/strconv.uint64pow10", "math/bits.deBruijn32tab", "math/bits.deBruijn64tab"], apart := false, laid := [("math/bits.deBruijn32tab", laid_math_bits_deBruijn32tab), ("math/bits.deBruijn64tab", laid_math_bits_deBruijn64tab), ("internal/strconv.uint64pow10", laid_internal_strconv_uint64pow10)] }
def ClockSharedSaid : Prop := clockSharedRow.holds Tryd.pinned (OpenSpec.ofChange clockSharedSpec)

/-- ITS FALSE NEIGHBOUR: 'it returns false'. Refute it at one input. -/
def clockSharedWrong : ChangeSpec := { name := "clockShared", fn := fun _ => fun
  | [d1, d2, d3] => { results := [.lit (.bool false)], args := [d1, d2, d3] }
  | _ => none }
def ClockSharedWrongFalsely : Prop := clockSharedRow.holds Tryd.pinned (OpenSpec.ofChange clockSharedWrong)

/- THE SECOND FORM. 'bulk': how many values and letters a reading holds, each counted each time it is reached (what is shared counts as often as it is met; a slice's spare places count too). A statement '..UptoSaid' is the law's where the arguments, and the package variables that the reading takes, are together of bulk at most 1048576: NARROWER than '..Said'. Prove '..Said' where nothing that the law and all that it calls make is longer than what came in: it says more and counts as full. Else prove '..UptoSaid'. A law counts once. -/
mutual
def uptoBulk {H : Type} : DataW H → Nat
  | .lit (.string bytes) => bytes.length + 1
  | .lit _ => 1
  | .nil => 1
  | .ptr d => uptoBulk d + 1
  | .slice elems spare => uptoBulkAll elems + uptoBulkAll spare + 1
  | .agg parts => uptoBulkAll parts + 1
  | .iface _ d => uptoBulk d + 1
  | .map entries => uptoBulkEntries entries + 1
  | .held _ => 1
def uptoBulkAll {H : Type} : List (DataW H) → Nat
  | [] => 0
  | d :: r => uptoBulk d + uptoBulkAll r
def uptoBulkEntries {H : Type} : List (Lit × DataW H) → Nat
  | [] => 0
  | x :: r => uptoBulkEntry x + uptoBulkEntries r
def uptoBulkEntry {H : Type} : Lit × DataW H → Nat
  | (.string bytes, d) => bytes.length + uptoBulk d + 1
  | (_, d) => uptoBulk d + 1
 end
def uptoSmall : (H : Type) → List (DataW H) → Bool := fun _ ds => decide (uptoBulkAll ds ≤ 1048576)
def OpenSpec.upto (s : _root_.Go.ChangeSpec) : _root_.Go.OpenSpec := { _root_.Go.OpenSpec.ofChange s with cond := some uptoSmall }

/-- 'recyclinglaw03.ClockFormats', WHERE WHAT IT READS IS OF BULK AT MOST 1048576: true; the input reads as it did. -/
def clockFormatsUptoRow : OpenClaim := { program := "ytaogafgadgppnaadoor", sum := "227b8b66f039d018a75904c9ca01cb4cbb8fc81841c1d857b1b63363d583b13b", func := "recycling/recyclinglaw03.ClockFormats", spec := "clockFormats", unfollowed := true, recurses := true, named := ["internal/strconv.uint64pow10", "math/bits.deBruijn32tab", "math/bits.deBruijn64tab"], apart := false, laid := [("math/bits.deBruijn32tab", laid_math_bits_deBruijn32tab), ("math/bits.deBruijn64tab", laid_math_bits_deBruijn64tab), ("internal/strconv.uint64pow10", laid_internal_strconv_uint64pow10)], narrowed := true }
def ClockFormatsUptoSaid : Prop := clockFormatsUptoRow.holds Tryd.pinned (OpenSpec.upto clockFormatsSpec)

/-- 'recyclinglaw03.ClockRoundTrip', WHERE WHAT IT READS IS OF BULK AT MOST 1048576: true; the input reads as it did. -/
def clockRoundTripUptoRow : OpenClaim := { program := "ytaogafgadgppnaadoor", sum := "227b8b66f039d018a75904c9ca01cb4cbb8fc81841c1d857b1b63363d583b13b", func := "recycling/recyclinglaw03.ClockRoundTrip", spec := "clockRoundTrip", unfollowed := true, recurses := true, named := ["internal/strconv.uint64pow10", "math/bits.deBruijn32tab", "math/bits.deBruijn64tab"], apart := false, laid := [("math/bits.deBruijn32tab", laid_math_bits_deBruijn32tab), ("math/bits.deBruijn64tab", laid_math_bits_deBruijn64tab), ("internal/strconv.uint64pow10", laid_internal_strconv_uint64pow10)], narrowed := true }
def ClockRoundTripUptoSaid : Prop := clockRoundTripUptoRow.holds Tryd.pinned (OpenSpec.upto clockRoundTripSpec)

/-- 'recyclinglaw03.ClockDates', WHERE WHAT IT READS IS OF BULK AT MOST 1048576: true; the input reads as it did. -/
def clockDatesUptoRow : OpenClaim := { program := "ytaogafgadgppnaadoor", sum := "227b8b66f039d018a75904c9ca01cb4cbb8fc81841c1d857b1b63363d583b13b", func := "recycling/recyclinglaw03.ClockDates", spec := "clockDates", unfollowed := true, recurses := true, named := ["internal/strconv.uint64pow10", "math/bits.deBruijn32tab", "math/bits.deBruijn64tab"], apart := false, laid := [("math/bits.deBruijn32tab", laid_math_bits_deBruijn32tab), ("math/bits.deBruijn64tab", laid_math_bits_deBruijn64tab), ("internal/strconv.uint64pow10", laid_internal_strconv_uint64pow10)], narrowed := true }
def ClockDatesUptoSaid : Prop := clockDatesUptoRow.holds Tryd.pinned (OpenSpec.upto clockDatesSpec)

/-- 'recyclinglaw03.ClockOpens', WHERE WHAT IT READS IS OF BULK AT MOST 1048576: true; the input reads as it did. -/
def clockOpensUptoRow : OpenClaim := { program := "ytaogafgadgppnaadoor", sum := "227b8b66f039d018a75904c9ca01cb4cbb8fc81841c1d857b1b63363d583b13b", func := "recycling/recyclinglaw03.ClockOpens", spec := "clockOpens", unfollowed := true, recurses := true, named := ["internal/strconv.uint64pow10", "math/bits.deBruijn32tab", "math/bits.deBruijn64tab"], apart := false, laid := [("math/bits.deBruijn32tab", laid_math_bits_deBruijn32tab), ("math/bits.deBruijn64tab", laid_math_bits_deBruijn64tab), ("internal/strconv.uint64pow10", laid_internal_strconv_uint64pow10)], narrowed := true }
def ClockOpensUptoSaid : Prop := clockOpensUptoRow.holds Tryd.pinned (OpenSpec.upto clockOpensSpec)

/-- 'recyclinglaw03.ClockNext', WHERE WHAT IT READS IS OF BULK AT MOST 1048576: true; the input reads as it did. -/
def clockNextUptoRow : OpenClaim := { program := "ytaogafgadgppnaadoor", sum := "227b8b66f039d018a75904c9ca01cb4cbb8fc81841c1d857b1b63363d583b13b", func := "recycling/recyclinglaw03.ClockNext", spec := "clockNext", unfollowed := true, recurses := true, named := ["internal/strconv.uint64pow10", "math/bits.deBruijn32tab", "math/bits.deBruijn64tab"], apart := false, laid := [("math/bits.deBruijn32tab", laid_math_bits_deBruijn32tab), ("math/bits.deBruijn64tab", laid_math_bits_deBruijn64tab), ("internal/strconv.uint64pow10", laid_internal_strconv_uint64pow10)], narrowed := true }
def ClockNextUptoSaid : Prop := clockNextUptoRow.holds Tryd.pinned (OpenSpec.upto clockNextSpec)

/-- 'recyclinglaw03.ClockUnions', WHERE WHAT IT READS IS OF BULK AT MOST 1048576: true; the input reads as it did. -/
def clockUnionsUptoRow : OpenClaim := { program := "ytaogafgadgppnaadoor", sum := "227b8b66f039d018a75904c9ca01cb4cbb8fc81841c1d857b1b63363d583b13b", func := "recycling/recyclinglaw03.ClockUnions", spec := "clockUnions", unfollowed := true, recurses := true, named := ["internal/strconv.uint64pow10", "math/bits.deBruijn32tab", "math/bits.deBruijn64tab"], apart := false, laid := [("math/bits.deBruijn32tab", laid_math_bits_deBruijn32tab), ("math/bits.deBruijn64tab", laid_math_bits_deBruijn64tab), ("internal/strconv.uint64pow10", laid_internal_strconv_uint64pow10)], narrowed := true }
def ClockUnionsUptoSaid : Prop := clockUnionsUptoRow.holds Tryd.pinned (OpenSpec.upto clockUnionsSpec)

/-- 'recyclinglaw03.ClockMerge', WHERE WHAT IT READS IS OF BULK AT MOST 1048576: true; the input reads as it did. -/
def clockMergeUptoRow : OpenClaim := { program := "ytaogafgadgppnaadoor", sum := "227b8b66f039d018a75904c9ca01cb4cbb8fc81841c1d857b1b63363d583b13b", func := "recycling/recyclinglaw03.ClockMerge", spec := "clockMerge", unfollowed := true, recurses := true, named := ["internal/strconv.uint64pow10", "math/bits.deBruijn32tab", "math/bits.deBruijn64tab"], apart := false, laid := [("math/bits.deBruijn32tab", laid_math_bits_deBruijn32tab), ("math/bits.deBruijn64tab", laid_math_bits_deBruijn64tab), ("internal/strconv.uint64pow10", laid_internal_strconv_uint64pow10)], narrowed := true }
def ClockMergeUptoSaid : Prop := clockMergeUptoRow.holds Tryd.pinned (OpenSpec.upto clockMergeSpec)

/-- 'recyclinglaw03.ClockCommons', WHERE WHAT IT READS IS OF BULK AT MOST 1048576: true; the input reads as it did. -/
def clockCommonsUptoRow : OpenClaim := { program := "ytaogafgadgppnaadoor", sum := "227b8b66f039d018a75904c9ca01cb4cbb8fc81841c1d857b1b63363d583b13b", func := "recycling/recyclinglaw03.ClockCommons", spec := "clockCommons", unfollowed := true, recurses := true, named := ["internal/strconv.uint64pow10", "math/bits.deBruijn32tab", "math/bits.deBruijn64tab"], apart := false, laid := [("math/bits.deBruijn32tab", laid_math_bits_deBruijn32tab), ("math/bits.deBruijn64tab", laid_math_bits_deBruijn64tab), ("internal/strconv.uint64pow10", laid_internal_strconv_uint64pow10)], narrowed := true }
def ClockCommonsUptoSaid : Prop := clockCommonsUptoRow.holds Tryd.pinned (OpenSpec.upto clockCommonsSpec)

/-- 'recyclinglaw03.ClockShared', WHERE WHAT IT READS IS OF BULK AT MOST 1048576: true; the input reads as it did. -/
def clockSharedUptoRow : OpenClaim := { program := "ytaogafgadgppnaadoor", sum := "227b8b66f039d018a75904c9ca01cb4cbb8fc81841c1d857b1b63363d583b13b", func := "recycling/recyclinglaw03.ClockShared", spec := "clockShared", unfollowed := true, recurses := true, named := ["internal/strconv.uint64pow10", "math/bits.deBruijn32tab", "math/bits.deBruijn64tab"], apart := false, laid := [("math/bits.deBruijn32tab", laid_math_bits_deBruijn32tab), ("math/bits.deBruijn64tab", laid_math_bits_deBruijn64tab), ("internal/strconv.uint64pow10", laid_internal_strconv_uint64pow10)], narrowed := true }
def ClockSharedUptoSaid : Prop := clockSharedUptoRow.holds Tryd.pinned (OpenSpec.upto clockSharedSpec)

end Rows
end Go.Proofs.YtaogafgadgppnaaDoor
