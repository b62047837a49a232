/- HouseholdChecks answers true for every list of households, every number of containers and every list of assignments; no condition. -/
import Derived.Test.YtkknahekpeaoiaaF1
import Derived.ProofKit
namespace Go.Proofs.Ytkknahekpeaoiaa
open Go Go.AI Go.ChangeShapes Go.WideShapes Go.ChangeAt Go.RowKit
theorem householdChecks_own : ownKnob Try.prog.godebug = none := by kernel_rfl
theorem householdChecks_laidOut : laidOutB Try.prog = true := by kernel_rfl
theorem householdChecks_calls (xs : List AV) (h : FitsAll Try.prog 8 Try.f3.params.toList xs) : CallsTo Try.prog 3 xs [.p (.bool true)] := by
  have hp : Try.f3.params.toList = [22, 3, 23] := by kernel_rfl
  rw [hp] at h
  obtain ⟨x1, r1, rfl, h1, x2, r2, rfl, h2, x3, r3, rfl, h3, rfl⟩ := h
  obtain ⟨c1, rfl, p1, q1⟩ := fits_houses h1
  obtain ⟨c2, rfl, p2⟩ := fitsv_int h2
  obtain ⟨c3, rfl, p3, q3⟩ := fits_asgs h3
  exact law3_ok c1 c2 c3 p1
set_option maxRecDepth 100000 in
theorem householdChecks_lifted (os : Os) (started : os.Started) (H : Type) (enc : TypeId × Value → H) :
    ReturnsInHanded {} Try.checked os 3 .any (Rows.householdChecksSpec.pre6 enc Try.prog Try.f3 Rows.householdChecksRow.domain false) (Rows.householdChecksSpec.post enc Try.prog Try.f3 false true false false) := by
  refine returnsInHanded_of_change (C := Try.checked) householdChecks_own started (by kernel_rfl) Try.func3
    (ChangeSpec.witness6 (enc := enc) (C := Try.checked) false ⟨#[], #[.slice none 0 0, .int .i64 0, .slice none 0 0], []⟩ 8 (by kernel_rfl) (by kernel_rfl) (by kernel_rfl) (by kernel_rfl)) ?_
  intro W base args ds gs before hval hW _ _
  refine post_of_callsTo (P := Try.prog) (n := 8) householdChecks_laidOut (tb := 4) (by kernel_rfl) (by kernel_rfl) rfl (fun ds hd => ?_) (by kernel_rfl) (by kernel_rfl) hval hW householdChecks_calls
  have hp : Try.f3.params.size = 3 := by kernel_rfl
  rw [hp] at hd
  match ds, hd with
  | [_, _, _], _ => rfl
theorem householdChecks_holds : Rows.HouseholdChecksSaid :=
  OpenClaim.holds_of_wide 3 Try.f3 rfl rfl rfl rfl rfl rfl rfl ⟨rfl, rfl, rfl, rfl, rfl⟩ rfl rfl rfl rfl rfl (by kernel_rfl) Try.func3 (by kernel_rfl)
    (of_decide_eq_true (by kernel_rfl)) (by unfold Func.isWrapper; first | (rw [if_pos (by decide +kernel)]; kernel_rfl) | (rw [if_neg (by decide +kernel)]; exact ⟨rfl, rfl⟩))
    (fun os started H enc _ => householdChecks_lifted os started H enc)
#print axioms householdChecks_holds
end Go.Proofs.Ytkknahekpeaoiaa
