/- ClearingApplies answers true for every list of positions and every list of payments; no condition. -/
import Derived.Test.YtojenglklffkoaaF1
import Derived.ProofKit
namespace Go.Proofs.Ytojenglklffkoaa
open Go Go.AI Go.ChangeShapes Go.WideShapes Go.ChangeAt Go.RowKit
theorem clearingApplies_own : ownKnob Try.prog.godebug = none := by kernel_rfl
theorem clearingApplies_laidOut : laidOutB Try.prog = true := by kernel_rfl
theorem clearingApplies_calls (xs : List AV) (h : FitsAll Try.prog 8 Try.f5.params.toList xs) : CallsTo Try.prog 5 xs [.p (.bool true)] := by
  have hp : Try.f5.params.toList = [25, 34] := by kernel_rfl
  rw [hp] at h
  obtain ⟨x1, r1, rfl, h1, x2, r2, rfl, h2, rfl⟩ := h
  obtain ⟨c1, rfl, p1, q1⟩ := fits_ints h1
  obtain ⟨c2, rfl, p2, q2⟩ := fits_dues h2
  exact law5_ok c1 c2 p1 p2 q1 q2
set_option maxRecDepth 100000 in
theorem clearingApplies_lifted (os : Os) (started : os.Started) (H : Type) (enc : TypeId × Value → H) :
    ReturnsInHanded {} Try.checked os 5 .any (Rows.clearingAppliesSpec.pre6 enc Try.prog Try.f5 Rows.clearingAppliesRow.domain false) (Rows.clearingAppliesSpec.post enc Try.prog Try.f5 false true false false) := by
  refine returnsInHanded_of_change (C := Try.checked) clearingApplies_own started (by kernel_rfl) Try.func5
    (ChangeSpec.witness6 (enc := enc) (C := Try.checked) false ⟨#[], #[.slice none 0 0, .slice none 0 0], []⟩ 8 (by kernel_rfl) (by kernel_rfl) (by kernel_rfl) (by kernel_rfl)) ?_
  intro W base args ds gs before hval hW _ _
  refine post_of_callsTo (P := Try.prog) (n := 8) clearingApplies_laidOut (tb := 4) (by kernel_rfl) (by kernel_rfl) rfl (fun ds hd => ?_) (by kernel_rfl) (by kernel_rfl) hval hW clearingApplies_calls
  have hp : Try.f5.params.size = 2 := by kernel_rfl
  rw [hp] at hd
  match ds, hd with
  | [_, _], _ => rfl
theorem clearingApplies_holds : Rows.ClearingAppliesSaid :=
  OpenClaim.holds_of_wide 5 Try.f5 rfl rfl rfl rfl rfl rfl rfl ⟨rfl, rfl, rfl, rfl, rfl⟩ rfl rfl rfl rfl rfl (by kernel_rfl) Try.func5 (by kernel_rfl)
    (of_decide_eq_true (by kernel_rfl)) (by unfold Func.isWrapper; first | (rw [if_pos (by decide +kernel)]; kernel_rfl) | (rw [if_neg (by decide +kernel)]; exact ⟨rfl, rfl⟩))
    (fun os started H enc _ => clearingApplies_lifted os started H enc)
#print axioms clearingApplies_holds
end Go.Proofs.Ytojenglklffkoaa
