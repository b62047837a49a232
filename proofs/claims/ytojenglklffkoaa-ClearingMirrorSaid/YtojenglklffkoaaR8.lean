/- ClearingMirror answers true for every list of positions; no condition. -/
import Derived.Test.YtojenglklffkoaaF1
import Derived.ProofKit
namespace Go.Proofs.Ytojenglklffkoaa
open Go Go.AI Go.ChangeShapes Go.WideShapes Go.ChangeAt Go.RowKit
theorem clearingMirror_own : ownKnob Try.prog.godebug = none := by kernel_rfl
theorem clearingMirror_laidOut : laidOutB Try.prog = true := by kernel_rfl
theorem clearingMirror_calls (xs : List AV) (h : FitsAll Try.prog 8 Try.f8.params.toList xs) : CallsTo Try.prog 8 xs [.p (.bool true)] := by
  have hp : Try.f8.params.toList = [25] := by kernel_rfl
  rw [hp] at h
  obtain ⟨x1, r1, rfl, h1, rfl⟩ := h
  obtain ⟨c1, rfl, p1, q1⟩ := fits_ints h1
  exact law8_ok c1 p1 q1
set_option maxRecDepth 100000 in
theorem clearingMirror_lifted (os : Os) (started : os.Started) (H : Type) (enc : TypeId × Value → H) :
    ReturnsInHanded {} Try.checked os 8 .any (Rows.clearingMirrorSpec.pre6 enc Try.prog Try.f8 Rows.clearingMirrorRow.domain false) (Rows.clearingMirrorSpec.post enc Try.prog Try.f8 false true false false) := by
  refine returnsInHanded_of_change (C := Try.checked) clearingMirror_own started (by kernel_rfl) Try.func8
    (ChangeSpec.witness6 (enc := enc) (C := Try.checked) false ⟨#[], #[.slice none 0 0], []⟩ 8 (by kernel_rfl) (by kernel_rfl) (by kernel_rfl) (by kernel_rfl)) ?_
  intro W base args ds gs before hval hW _ _
  refine post_of_callsTo (P := Try.prog) (n := 8) clearingMirror_laidOut (tb := 4) (by kernel_rfl) (by kernel_rfl) rfl (fun ds hd => ?_) (by kernel_rfl) (by kernel_rfl) hval hW clearingMirror_calls
  have hp : Try.f8.params.size = 1 := by kernel_rfl
  rw [hp] at hd
  match ds, hd with
  | [_], _ => rfl
theorem clearingMirror_holds : Rows.ClearingMirrorSaid :=
  OpenClaim.holds_of_wide 8 Try.f8 rfl rfl rfl rfl rfl rfl rfl ⟨rfl, rfl, rfl, rfl, rfl⟩ rfl rfl rfl rfl rfl (by kernel_rfl) Try.func8 (by kernel_rfl)
    (of_decide_eq_true (by kernel_rfl)) (by unfold Func.isWrapper; first | (rw [if_pos (by decide +kernel)]; kernel_rfl) | (rw [if_neg (by decide +kernel)]; exact ⟨rfl, rfl⟩))
    (fun os started H enc _ => clearingMirror_lifted os started H enc)
#print axioms clearingMirror_holds
end Go.Proofs.Ytojenglklffkoaa
