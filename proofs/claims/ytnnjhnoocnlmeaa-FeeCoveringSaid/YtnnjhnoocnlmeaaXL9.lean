import Derived.Test.YtnnjhnoocnlmeaaTB
import Derived.Test.YtnnjhnoocnlmeaaGL9
namespace Go.Proofs.Ytnnjhnoocnlmeaa
open Go Go.AI Go.Proofs
set_option linter.unusedSimpArgs false
set_option linter.unusedVariables false
set_option maxRecDepth 4000
theorem law9_ok (costs : List Int) (l : List Fee) (hc : costs.length * 8 ≤ 140737488355328) (hl : l.length ≤ 9223372036854775807) : CallsTo Try.prog 9 [.sl (costs.map iv), .sl (l.map Fee.av)] [.p (.bool true)] := by
  have ha := covers19_ok costs l (by omega) hl
  have hb := covers20_ok costs l hc hl
  refine f9_calls (Nat.le_of_ble_eq_true rfl) ?_
  simp (maxSteps := 2000000) (disch := omega) only [go_sem]
  (repeat' (first | simp (maxSteps := 2000000) (disch := omega) only [go_sem] | refine callq_1 (by rfl) ha (by rfl) ?_ | refine callq_1 (by rfl) hb (by rfl) ?_ | refine call_1 ha (by rfl) (by rfl) ?_ | refine call_1 hb (by rfl) (by rfl) ?_ | refine callq_1 (by rfl) ex12_ok (by rfl) ?_ | refine call_1 ex12_ok (by rfl) (by rfl) ?_ | refine bin_beq (by kernel_rfl) ?_ | refine gA_dt (fun _ => ?_) (fun g => absurd rfl g)))
end Go.Proofs.Ytnnjhnoocnlmeaa
