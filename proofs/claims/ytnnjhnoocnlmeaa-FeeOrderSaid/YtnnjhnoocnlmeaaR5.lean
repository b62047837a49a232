/- FeeOrder answers true for all costs, every list of placings, all modulations and every factor; no condition. -/
import Derived.Test.YtnnjhnoocnlmeaaF1
import Derived.Test.YtnnjhnoocnlmeaaXL5
import Derived.ProofKit
namespace Go.Proofs.Ytnnjhnoocnlmeaa
open Go Go.AI Go.ChangeShapes Go.WideShapes Go.ChangeAt Go.RowKit
theorem feeOrder_own : ownKnob Try.prog.godebug = none := by kernel_rfl
theorem feeOrder_laidOut : laidOutB Try.prog = true := by kernel_rfl
theorem feeOrder_calls (xs : List AV) (h : FitsAll Try.prog 8 Try.f5.params.toList xs) (z : SzAll Try.prog Try.f5.params.toList xs) : CallsTo Try.prog 5 xs [.p (.bool true)] := by
  have hp : Try.f5.params.toList = [22, 23, 22, 3] := by kernel_rfl
  rw [hp] at h z
  obtain ⟨x1, r1, rfl, h1, x2, r2, rfl, h2, x3, r3, rfl, h3, x4, r4, rfl, h4, rfl⟩ := h
  obtain ⟨c1, rfl, p1, q1⟩ := fits_ints h1
  obtain ⟨c2, rfl, p2, q2⟩ := fits_plcs h2
  obtain ⟨c3, rfl, p3, q3⟩ := fits_ints h3
  obtain ⟨c4, rfl, p4⟩ := fitsv_int h4
  exact law5_ok c1 c2 c3 c4 q1 q3 q2 (sz_plcs (sz_cons (sz_cons z).2).1)
set_option maxRecDepth 100000 in
theorem feeOrder_lifted (os : Os) (started : os.Started) (H : Type) (enc : TypeId × Value → H) :
    ReturnsInHanded {} Try.checked os 5 .any (Rows.feeOrderSpec.pre6 enc Try.prog Try.f5 Rows.feeOrderRow.domain false) (Rows.feeOrderSpec.post enc Try.prog Try.f5 false true false false) := by
  refine returnsInHanded_of_change_sized (C := Try.checked) feeOrder_own started (by kernel_rfl) Try.func5
    (ChangeSpec.witness6 (enc := enc) (C := Try.checked) false ⟨#[], #[.slice none 0 0, .slice none 0 0, .slice none 0 0, .int .i64 0], []⟩ 8 (by kernel_rfl) (by kernel_rfl) (by kernel_rfl) (by kernel_rfl)) ?_
  intro W base args ds gs before hval hW _ hz _
  refine post_of_callsToS (P := Try.prog) (n := 8) feeOrder_laidOut (tb := 4) (by kernel_rfl) (by kernel_rfl) rfl (fun ds hd => ?_) (by kernel_rfl) (by kernel_rfl) hval hW hz feeOrder_calls glob_none
  have hp : Try.f5.params.size = 4 := by kernel_rfl
  rw [hp] at hd
  match ds, hd with
  | [_, _, _, _], _ => rfl
theorem feeOrder_holds : Rows.FeeOrderSaid :=
  OpenClaim.holds_of_wide 5 Try.f5 rfl rfl rfl rfl rfl rfl rfl ⟨rfl, rfl, rfl, rfl, rfl⟩ rfl rfl rfl rfl rfl (by kernel_rfl) Try.func5 (by kernel_rfl)
    (of_decide_eq_true (by kernel_rfl)) (by unfold Func.isWrapper; first | (rw [if_pos (by decide +kernel)]; kernel_rfl) | (rw [if_neg (by decide +kernel)]; exact ⟨rfl, rfl⟩))
    (fun os started H enc _ => feeOrder_lifted os started H enc)
#print axioms feeOrder_holds
end Go.Proofs.Ytnnjhnoocnlmeaa
