/- HouseholdCovers answers true for every list of assignments, every container, household and window asked for and every moment; no condition. -/
import Derived.Test.YtkknahekpeaoiaaF1
import Derived.Test.YtkknahekpeaoiaaT8
import Derived.ProofKit
namespace Go.Proofs.Ytkknahekpeaoiaa
open Go Go.AI Go.ChangeShapes Go.WideShapes Go.ChangeAt Go.RowKit
theorem householdCovers_own : ownKnob Try.prog.godebug = none := by kernel_rfl
theorem householdCovers_laidOut : laidOutB Try.prog = true := by kernel_rfl
theorem householdCovers_calls (xs : List AV) (h : FitsAll Try.prog 8 Try.f8.params.toList xs) : CallsTo Try.prog 8 xs [.p (.bool true)] := by
  have hp : Try.f8.params.toList = [23, 39, 3] := by kernel_rfl
  rw [hp] at h
  obtain ⟨x1, r1, rfl, h1, x2, r2, rfl, h2, x3, r3, rfl, h3, rfl⟩ := h
  obtain ⟨c1, rfl, p1, q1⟩ := fits_asgs h1
  obtain ⟨c2, rfl, p2, q2⟩ := fits_asked h2
  obtain ⟨c3, rfl, p3⟩ := fitsv_int h3
  exact law8_ok c1 c2 c3
set_option maxRecDepth 100000 in
theorem householdCovers_lifted (os : Os) (started : os.Started) (H : Type) (enc : TypeId × Value → H) :
    ReturnsInHanded {} Try.checked os 8 .any (Rows.householdCoversSpec.pre6 enc Try.prog Try.f8 Rows.householdCoversRow.domain false) (Rows.householdCoversSpec.post enc Try.prog Try.f8 false true false false) := by
  refine returnsInHanded_of_change (C := Try.checked) householdCovers_own started (by kernel_rfl) Try.func8
    (ChangeSpec.witness6 (enc := enc) (C := Try.checked) false ⟨#[], #[.slice none 0 0, .agg #[.int .i64 0, .int .i64 0, .int .i64 0, .int .i64 0], .int .i64 0], []⟩ 8 (by kernel_rfl) (by kernel_rfl) (by kernel_rfl) (by kernel_rfl)) ?_
  intro W base args ds gs before hval hW _ _
  refine post_of_callsTo (P := Try.prog) (n := 8) householdCovers_laidOut (tb := 4) (by kernel_rfl) (by kernel_rfl) rfl (fun ds hd => ?_) (by kernel_rfl) (by kernel_rfl) hval hW householdCovers_calls
  have hp : Try.f8.params.size = 3 := by kernel_rfl
  rw [hp] at hd
  match ds, hd with
  | [_, _, _], _ => rfl
theorem householdCovers_holds : Rows.HouseholdCoversSaid :=
  OpenClaim.holds_of_wide 8 Try.f8 rfl rfl rfl rfl rfl rfl rfl ⟨rfl, rfl, rfl, rfl, rfl⟩ rfl rfl rfl rfl rfl (by kernel_rfl) Try.func8 (by kernel_rfl)
    (of_decide_eq_true (by kernel_rfl)) (by unfold Func.isWrapper; first | (rw [if_pos (by decide +kernel)]; kernel_rfl) | (rw [if_neg (by decide +kernel)]; exact ⟨rfl, rfl⟩))
    (fun os started H enc _ => householdCovers_lifted os started H enc)
#print axioms householdCovers_holds
end Go.Proofs.Ytkknahekpeaoiaa
