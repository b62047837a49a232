/- SerialDeposits answers true for every list of products and every list of sales, with no condition. -/
import Derived.Test.YtpclkldmkmmmhaaF1
import Derived.ProofKit
namespace Go.Proofs.Ytpclkldmkmmmhaa
open Go Go.AI Go.ChangeShapes Go.WideShapes Go.ChangeAt Go.RowKit
theorem serialDeposits_own : ownKnob Try.prog.godebug = none := by kernel_rfl
theorem serialDeposits_laidOut : laidOutB Try.prog = true := by kernel_rfl
theorem serialDeposits_calls (xs : List AV) (h : FitsAll Try.prog 8 Try.f5.params.toList xs) : CallsTo Try.prog 5 xs [.p (.bool true)] := by
  have hp : Try.f5.params.toList = [22, 23] := by kernel_rfl
  rw [hp] at h
  obtain ⟨x, r, rfl, h1, y, r', rfl, h2, rfl⟩ := h
  obtain ⟨ps, rfl, hps, _⟩ := fits_products h1
  obtain ⟨l, rfl, hl, _⟩ := fits_sales h2
  exact law5_ok ps l hps hl

set_option maxRecDepth 100000 in
theorem serialDeposits_lifted (os : Os) (started : os.Started) (H : Type) (enc : TypeId × Value → H) :
    ReturnsInHanded {} Try.checked os 5 .any (Rows.serialDepositsSpec.pre6 enc Try.prog Try.f5 Rows.serialDepositsRow.domain false) (Rows.serialDepositsSpec.post enc Try.prog Try.f5 false true false false) := by
  refine returnsInHanded_of_change (C := Try.checked) serialDeposits_own started (by kernel_rfl) Try.func5
    (ChangeSpec.witness6 (enc := enc) (C := Try.checked) false ⟨#[], #[.slice none 0 0, .slice none 0 0], []⟩ 8 (by kernel_rfl) (by kernel_rfl) (by kernel_rfl) (by kernel_rfl)) ?_
  intro W base args ds gs before hval hW _ _
  refine post_of_callsTo (P := Try.prog) (n := 8) serialDeposits_laidOut (tb := 4) (by kernel_rfl) (by kernel_rfl) rfl (fun ds hd => ?_) (by kernel_rfl) (by kernel_rfl) hval hW serialDeposits_calls
  have hp : Try.f5.params.size = 2 := by kernel_rfl
  rw [hp] at hd
  match ds, hd with
  | [_, _], _ => rfl
theorem serialDeposits_holds : Rows.SerialDepositsSaid :=
  OpenClaim.holds_of_wide 5 Try.f5 rfl rfl rfl rfl rfl rfl rfl ⟨rfl, rfl, rfl, rfl, rfl⟩ rfl rfl rfl rfl rfl (by kernel_rfl) Try.func5 (by kernel_rfl)
    (of_decide_eq_true (by kernel_rfl)) (by unfold Func.isWrapper; first | (rw [if_pos (by decide +kernel)]; kernel_rfl) | (rw [if_neg (by decide +kernel)]; exact ⟨rfl, rfl⟩))
    (fun os started H enc _ => serialDeposits_lifted os started H enc)

end Go.Proofs.Ytpclkldmkmmmhaa
