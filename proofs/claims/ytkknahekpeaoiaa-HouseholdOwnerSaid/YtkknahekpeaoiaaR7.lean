/- HouseholdOwner answers true for every list of households, every list of assignments, every container and every moment; no condition. -/
import Derived.Test.YtkknahekpeaoiaaF1
import Derived.Test.YtkknahekpeaoiaaT7
import Derived.ProofKit
namespace Go.Proofs.Ytkknahekpeaoiaa
open Go Go.AI Go.ChangeShapes Go.WideShapes Go.ChangeAt Go.RowKit
theorem householdOwner_own : ownKnob Try.prog.godebug = none := by kernel_rfl
theorem householdOwner_laidOut : laidOutB Try.prog = true := by kernel_rfl
theorem householdOwner_calls (xs : List AV) (h : FitsAll Try.prog 8 Try.f7.params.toList xs) : CallsTo Try.prog 7 xs [.p (.bool true)] := by
  have hp : Try.f7.params.toList = [22, 23, 3, 3] := by kernel_rfl
  rw [hp] at h
  obtain ⟨x1, r1, rfl, h1, x2, r2, rfl, h2, x3, r3, rfl, h3, x4, r4, rfl, h4, rfl⟩ := h
  obtain ⟨c1, rfl, p1, q1⟩ := fits_houses h1
  obtain ⟨c2, rfl, p2, q2⟩ := fits_asgs h2
  obtain ⟨c3, rfl, p3⟩ := fitsv_int h3
  obtain ⟨c4, rfl, p4⟩ := fitsv_int h4
  exact law7_ok c1 c2 c3 c4 p1
set_option maxRecDepth 100000 in
theorem householdOwner_lifted (os : Os) (started : os.Started) (H : Type) (enc : TypeId × Value → H) :
    ReturnsInHanded {} Try.checked os 7 .any (Rows.householdOwnerSpec.pre6 enc Try.prog Try.f7 Rows.householdOwnerRow.domain false) (Rows.householdOwnerSpec.post enc Try.prog Try.f7 false true false false) := by
  refine returnsInHanded_of_change (C := Try.checked) householdOwner_own started (by kernel_rfl) Try.func7
    (ChangeSpec.witness6 (enc := enc) (C := Try.checked) false ⟨#[], #[.slice none 0 0, .slice none 0 0, .int .i64 0, .int .i64 0], []⟩ 8 (by kernel_rfl) (by kernel_rfl) (by kernel_rfl) (by kernel_rfl)) ?_
  intro W base args ds gs before hval hW _ _
  refine post_of_callsTo (P := Try.prog) (n := 8) householdOwner_laidOut (tb := 4) (by kernel_rfl) (by kernel_rfl) rfl (fun ds hd => ?_) (by kernel_rfl) (by kernel_rfl) hval hW householdOwner_calls
  have hp : Try.f7.params.size = 4 := by kernel_rfl
  rw [hp] at hd
  match ds, hd with
  | [_, _, _, _], _ => rfl
theorem householdOwner_holds : Rows.HouseholdOwnerSaid :=
  OpenClaim.holds_of_wide 7 Try.f7 rfl rfl rfl rfl rfl rfl rfl ⟨rfl, rfl, rfl, rfl, rfl⟩ rfl rfl rfl rfl rfl (by kernel_rfl) Try.func7 (by kernel_rfl)
    (of_decide_eq_true (by kernel_rfl)) (by unfold Func.isWrapper; first | (rw [if_pos (by decide +kernel)]; kernel_rfl) | (rw [if_neg (by decide +kernel)]; exact ⟨rfl, rfl⟩))
    (fun os started H enc _ => householdOwner_lifted os started H enc)
#print axioms householdOwner_holds
end Go.Proofs.Ytkknahekpeaoiaa
