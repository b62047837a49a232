/- FeeCovering answers true for all costs and every list of fees; no condition. -/
import Derived.Test.YtnnjhnoocnlmeaaF1
import Derived.Test.YtnnjhnoocnlmeaaXL9
import Derived.ProofKit
namespace Go.Proofs.Ytnnjhnoocnlmeaa
open Go Go.AI Go.ChangeShapes Go.WideShapes Go.ChangeAt Go.RowKit
theorem feeCovering_own : ownKnob Try.prog.godebug = none := by kernel_rfl
theorem feeCovering_laidOut : laidOutB Try.prog = true := by kernel_rfl
theorem feeCovering_calls (xs : List AV) (h : FitsAll Try.prog 8 Try.f9.params.toList xs) (z : SzAll Try.prog Try.f9.params.toList xs) : CallsTo Try.prog 9 xs [.p (.bool true)] := by
  have hp : Try.f9.params.toList = [22, 28] := by kernel_rfl
  rw [hp] at h z
  obtain ⟨x1, r1, rfl, h1, x2, r2, rfl, h2, rfl⟩ := h
  obtain ⟨c1, rfl, p1, q1⟩ := fits_ints h1
  obtain ⟨c2, rfl, p2, q2⟩ := fits_fees h2
  exact law9_ok c1 c2 (sz_ints (sz_cons z).1) q2
set_option maxRecDepth 100000 in
theorem feeCovering_lifted (os : Os) (started : os.Started) (H : Type) (enc : TypeId × Value → H) :
    ReturnsInHanded {} Try.checked os 9 .any (Rows.feeCoveringSpec.pre6 enc Try.prog Try.f9 Rows.feeCoveringRow.domain false) (Rows.feeCoveringSpec.post enc Try.prog Try.f9 false true false false) := by
  refine returnsInHanded_of_change_sized (C := Try.checked) feeCovering_own started (by kernel_rfl) Try.func9
    (ChangeSpec.witness6 (enc := enc) (C := Try.checked) false ⟨#[], #[.slice none 0 0, .slice none 0 0], []⟩ 8 (by kernel_rfl) (by kernel_rfl) (by kernel_rfl) (by kernel_rfl)) ?_
  intro W base args ds gs before hval hW _ hz _
  refine post_of_callsToS (P := Try.prog) (n := 8) feeCovering_laidOut (tb := 4) (by kernel_rfl) (by kernel_rfl) rfl (fun ds hd => ?_) (by kernel_rfl) (by kernel_rfl) hval hW hz feeCovering_calls glob_none
  have hp : Try.f9.params.size = 2 := by kernel_rfl
  rw [hp] at hd
  match ds, hd with
  | [_, _], _ => rfl
theorem feeCovering_holds : Rows.FeeCoveringSaid :=
  OpenClaim.holds_of_wide 9 Try.f9 rfl rfl rfl rfl rfl rfl rfl ⟨rfl, rfl, rfl, rfl, rfl⟩ rfl rfl rfl rfl rfl (by kernel_rfl) Try.func9 (by kernel_rfl)
    (of_decide_eq_true (by kernel_rfl)) (by unfold Func.isWrapper; first | (rw [if_pos (by decide +kernel)]; kernel_rfl) | (rw [if_neg (by decide +kernel)]; exact ⟨rfl, rfl⟩))
    (fun os started H enc _ => feeCovering_lifted os started H enc)
#print axioms feeCovering_holds
end Go.Proofs.Ytnnjhnoocnlmeaa
