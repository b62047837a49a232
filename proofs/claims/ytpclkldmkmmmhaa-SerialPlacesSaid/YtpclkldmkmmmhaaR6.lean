/- SerialPlaces: the row, from the contract of its function. -/
import Derived.Test.YtpclkldmkmmmhaaF1
import Derived.ProofKit
namespace Go.Proofs.Ytpclkldmkmmmhaa
open Go Go.AI Go.ChangeShapes Go.WideShapes Go.ChangeAt Go.RowKit
theorem serialPlaces_own : ownKnob Try.prog.godebug = none := by kernel_rfl
theorem serialPlaces_laidOut : laidOutB Try.prog = true := by kernel_rfl
theorem serialPlaces_calls (xs : List AV) (h : FitsAll Try.prog 8 Try.f6.params.toList xs) : CallsTo Try.prog 6 xs [.p (.bool true)] := by
  have hp : Try.f6.params.toList = [22, 23, 36] := by kernel_rfl
  rw [hp] at h
  obtain ⟨x1, r1, rfl, h1, x2, r2, rfl, h2, x3, r3, rfl, h3, rfl⟩ := h
  obtain ⟨ps, rfl, hps, _⟩ := fits_products h1
  obtain ⟨l, rfl, hl, _⟩ := fits_sales h2
  obtain ⟨w, rfl, hw⟩ := fits_win h3
  exact law6_ok ps l w hps hl hw

set_option maxRecDepth 100000 in
theorem serialPlaces_lifted (os : Os) (started : os.Started) (H : Type) (enc : TypeId × Value → H) :
    ReturnsInHanded {} Try.checked os 6 .any (Rows.serialPlacesSpec.pre6 enc Try.prog Try.f6 Rows.serialPlacesRow.domain false) (Rows.serialPlacesSpec.post enc Try.prog Try.f6 false true false false) := by
  refine returnsInHanded_of_change (C := Try.checked) serialPlaces_own started (by kernel_rfl) Try.func6
    (ChangeSpec.witness6 (enc := enc) (C := Try.checked) false ⟨#[], #[.slice none 0 0, .slice none 0 0, .agg #[.int .i64 0, .int .i64 0]], []⟩ 8 (by kernel_rfl) (by kernel_rfl) (by kernel_rfl) (by kernel_rfl)) ?_
  intro W base args ds gs before hval hW _ _
  refine post_of_callsTo (P := Try.prog) (n := 8) serialPlaces_laidOut (tb := 4) (by kernel_rfl) (by kernel_rfl) rfl (fun ds hd => ?_) (by kernel_rfl) (by kernel_rfl) hval hW serialPlaces_calls
  have hp : Try.f6.params.size = 3 := by kernel_rfl
  rw [hp] at hd
  match ds, hd with
  | [_, _, _], _ => rfl
theorem serialPlaces_holds : Rows.SerialPlacesSaid :=
  OpenClaim.holds_of_wide 6 Try.f6 rfl rfl rfl rfl rfl rfl rfl ⟨rfl, rfl, rfl, rfl, rfl⟩ rfl rfl rfl rfl rfl (by kernel_rfl) Try.func6 (by kernel_rfl)
    (of_decide_eq_true (by kernel_rfl)) (by unfold Func.isWrapper; first | (rw [if_pos (by decide +kernel)]; kernel_rfl) | (rw [if_neg (by decide +kernel)]; exact ⟨rfl, rfl⟩))
    (fun os started H enc _ => serialPlaces_lifted os started H enc)
#print axioms serialPlaces_holds
end Go.Proofs.Ytpclkldmkmmmhaa
