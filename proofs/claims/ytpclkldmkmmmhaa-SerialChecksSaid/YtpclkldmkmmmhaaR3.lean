/- SerialChecks: the row, from the contract of its function. -/
import Derived.Test.YtpclkldmkmmmhaaF1
import Derived.ProofKit
namespace Go.Proofs.Ytpclkldmkmmmhaa
open Go Go.AI Go.ChangeShapes Go.WideShapes Go.ChangeAt Go.RowKit
theorem serialChecks_own : ownKnob Try.prog.godebug = none := by kernel_rfl
theorem serialChecks_laidOut : laidOutB Try.prog = true := by kernel_rfl
theorem serialChecks_calls (xs : List AV) (h : FitsAll Try.prog 8 Try.f3.params.toList xs) : CallsTo Try.prog 3 xs [.p (.bool true)] := by
  have hp : Try.f3.params.toList = [22, 23, 3] := by kernel_rfl
  rw [hp] at h
  obtain ⟨x1, r1, rfl, h1, x2, r2, rfl, h2, x3, r3, rfl, h3, rfl⟩ := h
  obtain ⟨ps, rfl, hps, _⟩ := fits_products h1
  obtain ⟨l, rfl, hl, _⟩ := fits_sales h2
  obtain ⟨k, rfl, hk⟩ := fitsv_int h3
  exact law3_ok ps l k hps hl hk

set_option maxRecDepth 100000 in
theorem serialChecks_lifted (os : Os) (started : os.Started) (H : Type) (enc : TypeId × Value → H) :
    ReturnsInHanded {} Try.checked os 3 .any (Rows.serialChecksSpec.pre6 enc Try.prog Try.f3 Rows.serialChecksRow.domain false) (Rows.serialChecksSpec.post enc Try.prog Try.f3 false true false false) := by
  refine returnsInHanded_of_change (C := Try.checked) serialChecks_own started (by kernel_rfl) Try.func3
    (ChangeSpec.witness6 (enc := enc) (C := Try.checked) false ⟨#[], #[.slice none 0 0, .slice none 0 0, .int .i64 0], []⟩ 8 (by kernel_rfl) (by kernel_rfl) (by kernel_rfl) (by kernel_rfl)) ?_
  intro W base args ds gs before hval hW _ _
  refine post_of_callsTo (P := Try.prog) (n := 8) serialChecks_laidOut (tb := 4) (by kernel_rfl) (by kernel_rfl) rfl (fun ds hd => ?_) (by kernel_rfl) (by kernel_rfl) hval hW serialChecks_calls
  have hp : Try.f3.params.size = 3 := by kernel_rfl
  rw [hp] at hd
  match ds, hd with
  | [_, _, _], _ => rfl
theorem serialChecks_holds : Rows.SerialChecksSaid :=
  OpenClaim.holds_of_wide 3 Try.f3 rfl rfl rfl rfl rfl rfl rfl ⟨rfl, rfl, rfl, rfl, rfl⟩ rfl rfl rfl rfl rfl (by kernel_rfl) Try.func3 (by kernel_rfl)
    (of_decide_eq_true (by kernel_rfl)) (by unfold Func.isWrapper; first | (rw [if_pos (by decide +kernel)]; kernel_rfl) | (rw [if_neg (by decide +kernel)]; exact ⟨rfl, rfl⟩))
    (fun os started H enc _ => serialChecks_lifted os started H enc)
#print axioms serialChecks_holds
end Go.Proofs.Ytpclkldmkmmmhaa
