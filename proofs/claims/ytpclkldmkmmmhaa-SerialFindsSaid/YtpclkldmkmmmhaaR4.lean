/- SerialFinds: the row, from the contract of its function. -/
import Derived.Test.YtpclkldmkmmmhaaF1
import Derived.ProofKit
namespace Go.Proofs.Ytpclkldmkmmmhaa
open Go Go.AI Go.ChangeShapes Go.WideShapes Go.ChangeAt Go.RowKit
theorem serialFinds_own : ownKnob Try.prog.godebug = none := by kernel_rfl
theorem serialFinds_laidOut : laidOutB Try.prog = true := by kernel_rfl
theorem serialFinds_calls (xs : List AV) (h : FitsAll Try.prog 8 Try.f4.params.toList xs) : CallsTo Try.prog 4 xs [.p (.bool true)] := by
  have hp : Try.f4.params.toList = [23, 3] := by kernel_rfl
  rw [hp] at h
  obtain ⟨x1, r1, rfl, h1, x2, r2, rfl, h2, rfl⟩ := h
  obtain ⟨l, rfl, hl, _⟩ := fits_sales h1
  obtain ⟨k, rfl, hk⟩ := fitsv_int h2
  exact law4_ok l k hl hk

set_option maxRecDepth 100000 in
theorem serialFinds_lifted (os : Os) (started : os.Started) (H : Type) (enc : TypeId × Value → H) :
    ReturnsInHanded {} Try.checked os 4 .any (Rows.serialFindsSpec.pre6 enc Try.prog Try.f4 Rows.serialFindsRow.domain false) (Rows.serialFindsSpec.post enc Try.prog Try.f4 false true false false) := by
  refine returnsInHanded_of_change (C := Try.checked) serialFinds_own started (by kernel_rfl) Try.func4
    (ChangeSpec.witness6 (enc := enc) (C := Try.checked) false ⟨#[], #[.slice none 0 0, .int .i64 0], []⟩ 8 (by kernel_rfl) (by kernel_rfl) (by kernel_rfl) (by kernel_rfl)) ?_
  intro W base args ds gs before hval hW _ _
  refine post_of_callsTo (P := Try.prog) (n := 8) serialFinds_laidOut (tb := 4) (by kernel_rfl) (by kernel_rfl) rfl (fun ds hd => ?_) (by kernel_rfl) (by kernel_rfl) hval hW serialFinds_calls
  have hp : Try.f4.params.size = 2 := by kernel_rfl
  rw [hp] at hd
  match ds, hd with
  | [_, _], _ => rfl
theorem serialFinds_holds : Rows.SerialFindsSaid :=
  OpenClaim.holds_of_wide 4 Try.f4 rfl rfl rfl rfl rfl rfl rfl ⟨rfl, rfl, rfl, rfl, rfl⟩ rfl rfl rfl rfl rfl (by kernel_rfl) Try.func4 (by kernel_rfl)
    (of_decide_eq_true (by kernel_rfl)) (by unfold Func.isWrapper; first | (rw [if_pos (by decide +kernel)]; kernel_rfl) | (rw [if_neg (by decide +kernel)]; exact ⟨rfl, rfl⟩))
    (fun os started H enc _ => serialFinds_lifted os started H enc)
#print axioms serialFinds_holds
end Go.Proofs.Ytpclkldmkmmmhaa
