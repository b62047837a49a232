/- ClearingAdds answers true for every case and every place at which the payouts are divided; no condition. -/
import Derived.Test.YtojenglklffkoaaF1
import Derived.ProofKit
namespace Go.Proofs.Ytojenglklffkoaa
open Go Go.AI Go.ChangeShapes Go.WideShapes Go.ChangeAt Go.RowKit
theorem clearingAdds_own : ownKnob Try.prog.godebug = none := by kernel_rfl
theorem clearingAdds_laidOut : laidOutB Try.prog = true := by kernel_rfl
theorem clearingAdds_calls (xs : List AV) (h : FitsAll Try.prog 8 Try.f9.params.toList xs) : CallsTo Try.prog 9 xs [.p (.bool true)] := by
  have hp : Try.f9.params.toList = [27, 3] := by kernel_rfl
  rw [hp] at h
  obtain ⟨x1, r1, rfl, h1, x2, r2, rfl, h2, rfl⟩ := h
  obtain ⟨c1, rfl, p1, q1⟩ := fits_case h1
  obtain ⟨c2, rfl, p2⟩ := fitsv_int h2
  exact law9_ok c1 c2 p1 p2 q1
set_option maxRecDepth 100000 in
theorem clearingAdds_lifted (os : Os) (started : os.Started) (H : Type) (enc : TypeId × Value → H) :
    ReturnsInHanded {} Try.checked os 9 .any (Rows.clearingAddsSpec.pre6 enc Try.prog Try.f9 Rows.clearingAddsRow.domain false) (Rows.clearingAddsSpec.post enc Try.prog Try.f9 false true false false) := by
  refine returnsInHanded_of_change (C := Try.checked) clearingAdds_own started (by kernel_rfl) Try.func9
    (ChangeSpec.witness6 (enc := enc) (C := Try.checked) false ⟨#[], #[.agg #[.slice none 0 0, .slice none 0 0, .slice none 0 0, .slice none 0 0, .int .i64 0], .int .i64 0], []⟩ 8 (by kernel_rfl) (by kernel_rfl) (by kernel_rfl) (by kernel_rfl)) ?_
  intro W base args ds gs before hval hW _ _
  refine post_of_callsTo (P := Try.prog) (n := 8) clearingAdds_laidOut (tb := 4) (by kernel_rfl) (by kernel_rfl) rfl (fun ds hd => ?_) (by kernel_rfl) (by kernel_rfl) hval hW clearingAdds_calls
  have hp : Try.f9.params.size = 2 := by kernel_rfl
  rw [hp] at hd
  match ds, hd with
  | [_, _], _ => rfl
theorem clearingAdds_holds : Rows.ClearingAddsSaid :=
  OpenClaim.holds_of_wide 9 Try.f9 rfl rfl rfl rfl rfl rfl rfl ⟨rfl, rfl, rfl, rfl, rfl⟩ rfl rfl rfl rfl rfl (by kernel_rfl) Try.func9 (by kernel_rfl)
    (of_decide_eq_true (by kernel_rfl)) (by unfold Func.isWrapper; first | (rw [if_pos (by decide +kernel)]; kernel_rfl) | (rw [if_neg (by decide +kernel)]; exact ⟨rfl, rfl⟩))
    (fun os started H enc _ => clearingAdds_lifted os started H enc)
#print axioms clearingAdds_holds
end Go.Proofs.Ytojenglklffkoaa
