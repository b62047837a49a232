/- SerialPlaced: the row, from the contract of its function. -/
import Derived.Test.YtpclkldmkmmmhaaF1
import Derived.Test.YtpclkldmkmmmhaaS22
import Derived.ProofKit
namespace Go.Proofs.Ytpclkldmkmmmhaa
open Go Go.AI Go.ChangeShapes Go.WideShapes Go.ChangeAt Go.RowKit
theorem serialPlaced_own : ownKnob Try.prog.godebug = none := by kernel_rfl
theorem serialPlaced_laidOut : laidOutB Try.prog = true := by kernel_rfl
theorem serialPlaced_calls (xs : List AV) (h : FitsAll Try.prog 8 Try.f8.params.toList xs) : CallsTo Try.prog 8 xs [.p (.bool true)] := by
  have hp : Try.f8.params.toList = [22, 23, 36, 3] := by kernel_rfl
  rw [hp] at h
  obtain ⟨x1, r1, rfl, h1, x2, r2, rfl, h2, x3, r3, rfl, h3, x4, r4, rfl, h4, rfl⟩ := h
  obtain ⟨ps, rfl, hps, _⟩ := fits_products h1
  obtain ⟨l, rfl, hl, _⟩ := fits_sales h2
  obtain ⟨w, rfl, hw⟩ := fits_win h3
  obtain ⟨k, rfl, hk⟩ := fitsv_int h4
  exact law8_ok ps l w k hps hl hw hk

set_option maxRecDepth 100000 in
theorem serialPlaced_lifted (os : Os) (started : os.Started) (H : Type) (enc : TypeId × Value → H) :
    ReturnsInHanded {} Try.checked os 8 .any (Rows.serialPlacedSpec.pre6 enc Try.prog Try.f8 Rows.serialPlacedRow.domain false) (Rows.serialPlacedSpec.post enc Try.prog Try.f8 false true false false) := by
  refine returnsInHanded_of_change (C := Try.checked) serialPlaced_own started (by kernel_rfl) Try.func8
    (ChangeSpec.witness6 (enc := enc) (C := Try.checked) false ⟨#[], #[.slice none 0 0, .slice none 0 0, .agg #[.int .i64 0, .int .i64 0], .int .i64 0], []⟩ 8 (by kernel_rfl) (by kernel_rfl) (by kernel_rfl) (by kernel_rfl)) ?_
  intro W base args ds gs before hval hW _ _
  refine post_of_callsTo (P := Try.prog) (n := 8) serialPlaced_laidOut (tb := 4) (by kernel_rfl) (by kernel_rfl) rfl (fun ds hd => ?_) (by kernel_rfl) (by kernel_rfl) hval hW serialPlaced_calls
  have hp : Try.f8.params.size = 4 := by kernel_rfl
  rw [hp] at hd
  match ds, hd with
  | [_, _, _, _], _ => rfl
theorem serialPlaced_holds : Rows.SerialPlacedSaid :=
  OpenClaim.holds_of_wide 8 Try.f8 rfl rfl rfl rfl rfl rfl rfl ⟨rfl, rfl, rfl, rfl, rfl⟩ rfl rfl rfl rfl rfl (by kernel_rfl) Try.func8 (by kernel_rfl)
    (of_decide_eq_true (by kernel_rfl)) (by unfold Func.isWrapper; first | (rw [if_pos (by decide +kernel)]; kernel_rfl) | (rw [if_neg (by decide +kernel)]; exact ⟨rfl, rfl⟩))
    (fun os started H enc _ => serialPlaced_lifted os started H enc)
#print axioms serialPlaced_holds
end Go.Proofs.Ytpclkldmkmmmhaa
