/- HouseholdHolds answers true for every list of assignments, every household and every window; no condition. -/
import Derived.Test.YtkknahekpeaoiaaF1
import Derived.ProofKit
namespace Go.Proofs.Ytkknahekpeaoiaa
open Go Go.AI Go.ChangeShapes Go.WideShapes Go.ChangeAt Go.RowKit
theorem householdHolds_own : ownKnob Try.prog.godebug = none := by kernel_rfl
theorem householdHolds_laidOut : laidOutB Try.prog = true := by kernel_rfl
theorem householdHolds_calls (xs : List AV) (h : FitsAll Try.prog 8 Try.f5.params.toList xs) : CallsTo Try.prog 5 xs [.p (.bool true)] := by
  have hp : Try.f5.params.toList = [23, 3, 33] := by kernel_rfl
  rw [hp] at h
  obtain ⟨x1, r1, rfl, h1, x2, r2, rfl, h2, x3, r3, rfl, h3, rfl⟩ := h
  obtain ⟨c1, rfl, p1, q1⟩ := fits_asgs h1
  obtain ⟨c2, rfl, p2⟩ := fitsv_int h2
  obtain ⟨c3, rfl, p3, q3⟩ := fitsv_win h3
  exact law5_ok c1 c2 c3
set_option maxRecDepth 100000 in
theorem householdHolds_lifted (os : Os) (started : os.Started) (H : Type) (enc : TypeId × Value → H) :
    ReturnsInHanded {} Try.checked os 5 .any (Rows.householdHoldsSpec.pre6 enc Try.prog Try.f5 Rows.householdHoldsRow.domain false) (Rows.householdHoldsSpec.post enc Try.prog Try.f5 false true false false) := by
  refine returnsInHanded_of_change (C := Try.checked) householdHolds_own started (by kernel_rfl) Try.func5
    (ChangeSpec.witness6 (enc := enc) (C := Try.checked) false ⟨#[], #[.slice none 0 0, .int .i64 0, .agg #[.int .i64 0, .int .i64 0]], []⟩ 8 (by kernel_rfl) (by kernel_rfl) (by kernel_rfl) (by kernel_rfl)) ?_
  intro W base args ds gs before hval hW _ _
  refine post_of_callsTo (P := Try.prog) (n := 8) householdHolds_laidOut (tb := 4) (by kernel_rfl) (by kernel_rfl) rfl (fun ds hd => ?_) (by kernel_rfl) (by kernel_rfl) hval hW householdHolds_calls
  have hp : Try.f5.params.size = 3 := by kernel_rfl
  rw [hp] at hd
  match ds, hd with
  | [_, _, _], _ => rfl
theorem householdHolds_holds : Rows.HouseholdHoldsSaid :=
  OpenClaim.holds_of_wide 5 Try.f5 rfl rfl rfl rfl rfl rfl rfl ⟨rfl, rfl, rfl, rfl, rfl⟩ rfl rfl rfl rfl rfl (by kernel_rfl) Try.func5 (by kernel_rfl)
    (of_decide_eq_true (by kernel_rfl)) (by unfold Func.isWrapper; first | (rw [if_pos (by decide +kernel)]; kernel_rfl) | (rw [if_neg (by decide +kernel)]; exact ⟨rfl, rfl⟩))
    (fun os started H enc _ => householdHolds_lifted os started H enc)
#print axioms householdHolds_holds
end Go.Proofs.Ytkknahekpeaoiaa
