/- SerialOpen: the row, from the contract of its function. -/
import Derived.Test.YtpclkldmkmmmhaaF1
import Derived.Test.YtpclkldmkmmmhaaS20
import Derived.ProofKit
namespace Go.Proofs.Ytpclkldmkmmmhaa
open Go Go.AI Go.ChangeShapes Go.WideShapes Go.ChangeAt Go.RowKit
theorem serialOpen_own : ownKnob Try.prog.godebug = none := by kernel_rfl
theorem serialOpen_laidOut : laidOutB Try.prog = true := by kernel_rfl
theorem serialOpen_calls (xs : List AV) (h : FitsAll Try.prog 8 Try.f9.params.toList xs) : CallsTo Try.prog 9 xs [.p (.bool true)] := by
  have hp : Try.f9.params.toList = [23, 42, 3] := by kernel_rfl
  rw [hp] at h
  obtain ⟨x1, r1, rfl, h1, x2, r2, rfl, h2, x3, r3, rfl, h3, rfl⟩ := h
  obtain ⟨l, rfl, hl, _⟩ := fits_sales h1
  obtain ⟨q, rfl, _, _⟩ := fits_ints h2
  obtain ⟨k, rfl, hk⟩ := fitsv_int h3
  exact law9_ok l q k hl hk

set_option maxRecDepth 100000 in
theorem serialOpen_lifted (os : Os) (started : os.Started) (H : Type) (enc : TypeId × Value → H) :
    ReturnsInHanded {} Try.checked os 9 .any (Rows.serialOpenSpec.pre6 enc Try.prog Try.f9 Rows.serialOpenRow.domain false) (Rows.serialOpenSpec.post enc Try.prog Try.f9 false true false false) := by
  refine returnsInHanded_of_change (C := Try.checked) serialOpen_own started (by kernel_rfl) Try.func9
    (ChangeSpec.witness6 (enc := enc) (C := Try.checked) false ⟨#[], #[.slice none 0 0, .slice none 0 0, .int .i64 0], []⟩ 8 (by kernel_rfl) (by kernel_rfl) (by kernel_rfl) (by kernel_rfl)) ?_
  intro W base args ds gs before hval hW _ _
  refine post_of_callsTo (P := Try.prog) (n := 8) serialOpen_laidOut (tb := 4) (by kernel_rfl) (by kernel_rfl) rfl (fun ds hd => ?_) (by kernel_rfl) (by kernel_rfl) hval hW serialOpen_calls
  have hp : Try.f9.params.size = 3 := by kernel_rfl
  rw [hp] at hd
  match ds, hd with
  | [_, _, _], _ => rfl
theorem serialOpen_holds : Rows.SerialOpenSaid :=
  OpenClaim.holds_of_wide 9 Try.f9 rfl rfl rfl rfl rfl rfl rfl ⟨rfl, rfl, rfl, rfl, rfl⟩ rfl rfl rfl rfl rfl (by kernel_rfl) Try.func9 (by kernel_rfl)
    (of_decide_eq_true (by kernel_rfl)) (by unfold Func.isWrapper; first | (rw [if_pos (by decide +kernel)]; kernel_rfl) | (rw [if_neg (by decide +kernel)]; exact ⟨rfl, rfl⟩))
    (fun os started H enc _ => serialOpen_lifted os started H enc)
#print axioms serialOpen_holds
end Go.Proofs.Ytpclkldmkmmmhaa
