import Derived.Test.YtnnjhnoocnlmeaaTB
import Derived.Test.YtnnjhnoocnlmeaaGL6
namespace Go.Proofs.Ytnnjhnoocnlmeaa
open Go Go.AI Go.Proofs
set_option linter.unusedSimpArgs false
set_option linter.unusedVariables false
set_option maxRecDepth 4000
theorem law6_ok (l : List Fee) (q : Int) (hl : l.length ≤ 9223372036854775807) : CallsTo Try.prog 6 [.sl (l.map Fee.av), .int .i64 q] [.p (.bool true)] := by
  have ha := of16_ok l q hl
  have hb := of17_ok l q hl
  refine f6_calls (Nat.le_of_ble_eq_true rfl) ?_
  simp (maxSteps := 2000000) (disch := omega) only [go_sem]
  (repeat' (first | simp (maxSteps := 2000000) (disch := omega) only [go_sem] | refine call_2 ha (by rfl) (by rfl) ?_ | refine call_2 hb (by rfl) (by rfl) ?_ | refine callq_1 (by rfl) ex12_ok (by rfl) ?_ | refine call_1 ex12_ok (by rfl) (by rfl) ?_ | refine gA_dt (fun _ => ?_) (fun g => absurd rfl g)))
end Go.Proofs.Ytnnjhnoocnlmeaa
