/- FeeOf answers true for every list of fees and every producer; no condition. -/
import Derived.Test.YtnnjhnoocnlmeaaF1
import Derived.Test.YtnnjhnoocnlmeaaXL6
import Derived.ProofKit
namespace Go.Proofs.Ytnnjhnoocnlmeaa
open Go Go.AI Go.ChangeShapes Go.WideShapes Go.ChangeAt Go.RowKit
theorem feeOf_own : ownKnob Try.prog.godebug = none := by kernel_rfl
theorem feeOf_laidOut : laidOutB Try.prog = true := by kernel_rfl
theorem feeOf_calls (xs : List AV) (h : FitsAll Try.prog 8 Try.f6.params.toList xs) : CallsTo Try.prog 6 xs [.p (.bool true)] := by
  have hp : Try.f6.params.toList = [28, 3] := by kernel_rfl
  rw [hp] at h
  obtain ⟨x1, r1, rfl, h1, x2, r2, rfl, h2, rfl⟩ := h
  obtain ⟨c1, rfl, p1, q1⟩ := fits_fees h1
  obtain ⟨c2, rfl, p2⟩ := fitsv_int h2
  exact law6_ok c1 c2 q1
set_option maxRecDepth 100000 in
theorem feeOf_lifted (os : Os) (started : os.Started) (H : Type) (enc : TypeId × Value → H) :
    ReturnsInHanded {} Try.checked os 6 .any (Rows.feeOfSpec.pre6 enc Try.prog Try.f6 Rows.feeOfRow.domain false) (Rows.feeOfSpec.post enc Try.prog Try.f6 false true false false) := by
  refine returnsInHanded_of_change (C := Try.checked) feeOf_own started (by kernel_rfl) Try.func6
    (ChangeSpec.witness6 (enc := enc) (C := Try.checked) false ⟨#[], #[.slice none 0 0, .int .i64 0], []⟩ 8 (by kernel_rfl) (by kernel_rfl) (by kernel_rfl) (by kernel_rfl)) ?_
  intro W base args ds gs before hval hW _ _
  refine post_of_callsTo (P := Try.prog) (n := 8) feeOf_laidOut (tb := 4) (by kernel_rfl) (by kernel_rfl) rfl (fun ds hd => ?_) (by kernel_rfl) (by kernel_rfl) hval hW feeOf_calls glob_none
  have hp : Try.f6.params.size = 2 := by kernel_rfl
  rw [hp] at hd
  match ds, hd with
  | [_, _], _ => rfl
theorem feeOf_holds : Rows.FeeOfSaid :=
  OpenClaim.holds_of_wide 6 Try.f6 rfl rfl rfl rfl rfl rfl rfl ⟨rfl, rfl, rfl, rfl, rfl⟩ rfl rfl rfl rfl rfl (by kernel_rfl) Try.func6 (by kernel_rfl)
    (of_decide_eq_true (by kernel_rfl)) (by unfold Func.isWrapper; first | (rw [if_pos (by decide +kernel)]; kernel_rfl) | (rw [if_neg (by decide +kernel)]; exact ⟨rfl, rfl⟩))
    (fun os started H enc _ => feeOf_lifted os started H enc)
#print axioms feeOf_holds
end Go.Proofs.Ytnnjhnoocnlmeaa
