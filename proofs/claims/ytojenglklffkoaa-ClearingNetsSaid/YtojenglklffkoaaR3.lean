/- ClearingNets answers true for every case: products, sales, payouts, owners and a number of parties; no condition. -/
import Derived.Test.YtojenglklffkoaaF1
import Derived.ProofKit
namespace Go.Proofs.Ytojenglklffkoaa
open Go Go.AI Go.ChangeShapes Go.WideShapes Go.ChangeAt Go.RowKit
theorem clearingNets_own : ownKnob Try.prog.godebug = none := by kernel_rfl
theorem clearingNets_laidOut : laidOutB Try.prog = true := by kernel_rfl
theorem clearingNets_calls (xs : List AV) (h : FitsAll Try.prog 8 Try.f3.params.toList xs) : CallsTo Try.prog 3 xs [.p (.bool true)] := by
  have hp : Try.f3.params.toList = [27] := by kernel_rfl
  rw [hp] at h
  obtain ⟨x1, r1, rfl, h1, rfl⟩ := h
  obtain ⟨c1, rfl, p1, q1⟩ := fits_case h1
  exact law3_ok c1 p1
set_option maxRecDepth 100000 in
theorem clearingNets_lifted (os : Os) (started : os.Started) (H : Type) (enc : TypeId × Value → H) :
    ReturnsInHanded {} Try.checked os 3 .any (Rows.clearingNetsSpec.pre6 enc Try.prog Try.f3 Rows.clearingNetsRow.domain false) (Rows.clearingNetsSpec.post enc Try.prog Try.f3 false true false false) := by
  refine returnsInHanded_of_change (C := Try.checked) clearingNets_own started (by kernel_rfl) Try.func3
    (ChangeSpec.witness6 (enc := enc) (C := Try.checked) false ⟨#[], #[.agg #[.slice none 0 0, .slice none 0 0, .slice none 0 0, .slice none 0 0, .int .i64 0]], []⟩ 8 (by kernel_rfl) (by kernel_rfl) (by kernel_rfl) (by kernel_rfl)) ?_
  intro W base args ds gs before hval hW _ _
  refine post_of_callsTo (P := Try.prog) (n := 8) clearingNets_laidOut (tb := 4) (by kernel_rfl) (by kernel_rfl) rfl (fun ds hd => ?_) (by kernel_rfl) (by kernel_rfl) hval hW clearingNets_calls
  have hp : Try.f3.params.size = 1 := by kernel_rfl
  rw [hp] at hd
  match ds, hd with
  | [_], _ => rfl
theorem clearingNets_holds : Rows.ClearingNetsSaid :=
  OpenClaim.holds_of_wide 3 Try.f3 rfl rfl rfl rfl rfl rfl rfl ⟨rfl, rfl, rfl, rfl, rfl⟩ rfl rfl rfl rfl rfl (by kernel_rfl) Try.func3 (by kernel_rfl)
    (of_decide_eq_true (by kernel_rfl)) (by unfold Func.isWrapper; first | (rw [if_pos (by decide +kernel)]; kernel_rfl) | (rw [if_neg (by decide +kernel)]; exact ⟨rfl, rfl⟩))
    (fun os started H enc _ => clearingNets_lifted os started H enc)
#print axioms clearingNets_holds
end Go.Proofs.Ytojenglklffkoaa
