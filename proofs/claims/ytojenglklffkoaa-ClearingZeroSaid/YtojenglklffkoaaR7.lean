/- ClearingZero answers true for every case; no condition. -/
import Derived.Test.YtojenglklffkoaaF1
import Derived.ProofKit
namespace Go.Proofs.Ytojenglklffkoaa
open Go Go.AI Go.ChangeShapes Go.WideShapes Go.ChangeAt Go.RowKit
theorem clearingZero_own : ownKnob Try.prog.godebug = none := by kernel_rfl
theorem clearingZero_laidOut : laidOutB Try.prog = true := by kernel_rfl
theorem clearingZero_calls (xs : List AV) (h : FitsAll Try.prog 8 Try.f7.params.toList xs) : CallsTo Try.prog 7 xs [.p (.bool true)] := by
  have hp : Try.f7.params.toList = [27] := by kernel_rfl
  rw [hp] at h
  obtain ⟨x1, r1, rfl, h1, rfl⟩ := h
  obtain ⟨c1, rfl, p1, q1⟩ := fits_case h1
  exact law7_ok c1 p1
set_option maxRecDepth 100000 in
theorem clearingZero_lifted (os : Os) (started : os.Started) (H : Type) (enc : TypeId × Value → H) :
    ReturnsInHanded {} Try.checked os 7 .any (Rows.clearingZeroSpec.pre6 enc Try.prog Try.f7 Rows.clearingZeroRow.domain false) (Rows.clearingZeroSpec.post enc Try.prog Try.f7 false true false false) := by
  refine returnsInHanded_of_change (C := Try.checked) clearingZero_own started (by kernel_rfl) Try.func7
    (ChangeSpec.witness6 (enc := enc) (C := Try.checked) false ⟨#[], #[.agg #[.slice none 0 0, .slice none 0 0, .slice none 0 0, .slice none 0 0, .int .i64 0]], []⟩ 8 (by kernel_rfl) (by kernel_rfl) (by kernel_rfl) (by kernel_rfl)) ?_
  intro W base args ds gs before hval hW _ _
  refine post_of_callsTo (P := Try.prog) (n := 8) clearingZero_laidOut (tb := 4) (by kernel_rfl) (by kernel_rfl) rfl (fun ds hd => ?_) (by kernel_rfl) (by kernel_rfl) hval hW clearingZero_calls
  have hp : Try.f7.params.size = 1 := by kernel_rfl
  rw [hp] at hd
  match ds, hd with
  | [_], _ => rfl
theorem clearingZero_holds : Rows.ClearingZeroSaid :=
  OpenClaim.holds_of_wide 7 Try.f7 rfl rfl rfl rfl rfl rfl rfl ⟨rfl, rfl, rfl, rfl, rfl⟩ rfl rfl rfl rfl rfl (by kernel_rfl) Try.func7 (by kernel_rfl)
    (of_decide_eq_true (by kernel_rfl)) (by unfold Func.isWrapper; first | (rw [if_pos (by decide +kernel)]; kernel_rfl) | (rw [if_neg (by decide +kernel)]; exact ⟨rfl, rfl⟩))
    (fun os started H enc _ => clearingZero_lifted os started H enc)
#print axioms clearingZero_holds
end Go.Proofs.Ytojenglklffkoaa
