/- HouseholdSplits answers true for every list of assignments, every container, household and window asked for and every day; no condition. -/
import Derived.Test.YtkknahekpeaoiaaF1
import Derived.Test.YtkknahekpeaoiaaT9
import Derived.ProofKit
namespace Go.Proofs.Ytkknahekpeaoiaa
open Go Go.AI Go.ChangeShapes Go.WideShapes Go.ChangeAt Go.RowKit
theorem householdSplits_own : ownKnob Try.prog.godebug = none := by kernel_rfl
theorem householdSplits_laidOut : laidOutB Try.prog = true := by kernel_rfl
theorem householdSplits_calls (xs : List AV) (h : FitsAll Try.prog 8 Try.f9.params.toList xs) : CallsTo Try.prog 9 xs [.p (.bool true)] := by
  have hp : Try.f9.params.toList = [23, 39, 3] := by kernel_rfl
  rw [hp] at h
  obtain ⟨x1, r1, rfl, h1, x2, r2, rfl, h2, x3, r3, rfl, h3, rfl⟩ := h
  obtain ⟨c1, rfl, p1, q1⟩ := fits_asgs h1
  obtain ⟨c2, rfl, p2, q2⟩ := fits_asked h2
  obtain ⟨c3, rfl, p3⟩ := fitsv_int h3
  exact law9_ok c1 c2 c3
set_option maxRecDepth 100000 in
theorem householdSplits_lifted (os : Os) (started : os.Started) (H : Type) (enc : TypeId × Value → H) :
    ReturnsInHanded {} Try.checked os 9 .any (Rows.householdSplitsSpec.pre6 enc Try.prog Try.f9 Rows.householdSplitsRow.domain false) (Rows.householdSplitsSpec.post enc Try.prog Try.f9 false true false false) := by
  refine returnsInHanded_of_change (C := Try.checked) householdSplits_own started (by kernel_rfl) Try.func9
    (ChangeSpec.witness6 (enc := enc) (C := Try.checked) false ⟨#[], #[.slice none 0 0, .agg #[.int .i64 0, .int .i64 0, .int .i64 0, .int .i64 0], .int .i64 0], []⟩ 8 (by kernel_rfl) (by kernel_rfl) (by kernel_rfl) (by kernel_rfl)) ?_
  intro W base args ds gs before hval hW _ _
  refine post_of_callsTo (P := Try.prog) (n := 8) householdSplits_laidOut (tb := 4) (by kernel_rfl) (by kernel_rfl) rfl (fun ds hd => ?_) (by kernel_rfl) (by kernel_rfl) hval hW householdSplits_calls
  have hp : Try.f9.params.size = 3 := by kernel_rfl
  rw [hp] at hd
  match ds, hd with
  | [_, _, _], _ => rfl
theorem householdSplits_holds : Rows.HouseholdSplitsSaid :=
  OpenClaim.holds_of_wide 9 Try.f9 rfl rfl rfl rfl rfl rfl rfl ⟨rfl, rfl, rfl, rfl, rfl⟩ rfl rfl rfl rfl rfl (by kernel_rfl) Try.func9 (by kernel_rfl)
    (of_decide_eq_true (by kernel_rfl)) (by unfold Func.isWrapper; first | (rw [if_pos (by decide +kernel)]; kernel_rfl) | (rw [if_neg (by decide +kernel)]; exact ⟨rfl, rfl⟩))
    (fun os started H enc _ => householdSplits_lifted os started H enc)
#print axioms householdSplits_holds
end Go.Proofs.Ytkknahekpeaoiaa
