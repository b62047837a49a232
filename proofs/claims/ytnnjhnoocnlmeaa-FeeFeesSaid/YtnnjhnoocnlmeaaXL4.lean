import Derived.Test.YtnnjhnoocnlmeaaTB
import Derived.Test.YtnnjhnoocnlmeaaGL4
namespace Go.Proofs.Ytnnjhnoocnlmeaa
open Go Go.AI Go.Proofs
set_option linter.unusedSimpArgs false
set_option linter.unusedVariables false
set_option maxRecDepth 4000
theorem law4_ok (costs : List Int) (l : List Plc) (mod : List Int) (h1 : costs.length ≤ 9223372036854775807) (h2 : mod.length ≤ 9223372036854775807) (h3 : l.length ≤ 9223372036854775807) :
    CallsTo Try.prog 4 [.sl (costs.map iv), .sl (l.map Plc.av), .sl (mod.map iv)] [.p (.bool true)] := by
  have ha := fees13_ok costs l mod h1 h2 h3
  have hb := fees14_ok costs l mod h1 h2 h3
  have hl := outS_len costs l mod
  have hs := same15_ok (outS costs l mod) (outS costs l mod) (by omega)
  rw [decide_eq_true rfl] at hs
  refine f4_calls (Nat.le_of_ble_eq_true rfl) ?_
  simp (maxSteps := 2000000) (disch := omega) only [go_sem]
  (repeat' (first | simp (maxSteps := 2000000) (disch := omega) only [go_sem] | refine call_f2 ha (by rfl) (by rfl) ?_ | refine callv_f2 (by rfl) ha fe_scal rfl ?_ | refine callv_f2 (by rfl) hb fe_scal rfl ?_ | refine callv_1 (by rfl) hs (by rfl) ?_ | refine callq_1 (by rfl) hs (by rfl) ?_ | refine callq_1 (by rfl) ex12_ok (by rfl) ?_ | refine call_1 ex12_ok (by rfl) (by rfl) ?_ | refine gA_dt (fun _ => ?_) (fun g => absurd rfl g)))
end Go.Proofs.Ytnnjhnoocnlmeaa
