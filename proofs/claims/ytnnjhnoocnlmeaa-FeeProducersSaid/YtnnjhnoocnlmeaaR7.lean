/- FeeProducers answers true for all costs, every list of placings and all modulations; no condition. -/
import Derived.Test.YtnnjhnoocnlmeaaF1
import Derived.Test.YtnnjhnoocnlmeaaXL7
import Derived.ProofKit
namespace Go.Proofs.Ytnnjhnoocnlmeaa
open Go Go.AI Go.ChangeShapes Go.WideShapes Go.ChangeAt Go.RowKit
theorem feeProducers_own : ownKnob Try.prog.godebug = none := by kernel_rfl
theorem feeProducers_laidOut : laidOutB Try.prog = true := by kernel_rfl
theorem feeProducers_calls (xs : List AV) (h : FitsAll Try.prog 8 Try.f7.params.toList xs) : CallsTo Try.prog 7 xs [.p (.bool true)] := by
  have hp : Try.f7.params.toList = [22, 23, 22] := by kernel_rfl
  rw [hp] at h
  obtain ⟨x1, r1, rfl, h1, x2, r2, rfl, h2, x3, r3, rfl, h3, rfl⟩ := h
  obtain ⟨c1, rfl, p1, q1⟩ := fits_ints h1
  obtain ⟨c2, rfl, p2, q2⟩ := fits_plcs h2
  obtain ⟨c3, rfl, p3, q3⟩ := fits_ints h3
  exact law7_ok c1 c2 c3 q1 q3 q2
set_option maxRecDepth 100000 in
theorem feeProducers_lifted (os : Os) (started : os.Started) (H : Type) (enc : TypeId × Value → H) :
    ReturnsInHanded {} Try.checked os 7 .any (Rows.feeProducersSpec.pre6 enc Try.prog Try.f7 Rows.feeProducersRow.domain false) (Rows.feeProducersSpec.post enc Try.prog Try.f7 false true false false) := by
  refine returnsInHanded_of_change (C := Try.checked) feeProducers_own started (by kernel_rfl) Try.func7
    (ChangeSpec.witness6 (enc := enc) (C := Try.checked) false ⟨#[], #[.slice none 0 0, .slice none 0 0, .slice none 0 0], []⟩ 8 (by kernel_rfl) (by kernel_rfl) (by kernel_rfl) (by kernel_rfl)) ?_
  intro W base args ds gs before hval hW _ _
  refine post_of_callsTo (P := Try.prog) (n := 8) feeProducers_laidOut (tb := 4) (by kernel_rfl) (by kernel_rfl) rfl (fun ds hd => ?_) (by kernel_rfl) (by kernel_rfl) hval hW feeProducers_calls glob_none
  have hp : Try.f7.params.size = 3 := by kernel_rfl
  rw [hp] at hd
  match ds, hd with
  | [_, _, _], _ => rfl
theorem feeProducers_holds : Rows.FeeProducersSaid :=
  OpenClaim.holds_of_wide 7 Try.f7 rfl rfl rfl rfl rfl rfl rfl ⟨rfl, rfl, rfl, rfl, rfl⟩ rfl rfl rfl rfl rfl (by kernel_rfl) Try.func7 (by kernel_rfl)
    (of_decide_eq_true (by kernel_rfl)) (by unfold Func.isWrapper; first | (rw [if_pos (by decide +kernel)]; kernel_rfl) | (rw [if_neg (by decide +kernel)]; exact ⟨rfl, rfl⟩))
    (fun os started H enc _ => feeProducers_lifted os started H enc)
#print axioms feeProducers_holds
end Go.Proofs.Ytnnjhnoocnlmeaa
