import Derived.Test.YtnnjhnoocnlmeaaG2
namespace Go.Proofs.Ytnnjhnoocnlmeaa
open Go Go.AI Go.Proofs
set_option linter.unusedVariables false
set_option linter.defProp false
set_option maxRecDepth 100000
section
variable (K : St → Prop) (Q : Exit → St → Prop) (s : St) (e : List (Nat × AV)) (m m2 : List (Nat × Ob))
/-! ### recycling/recyclinglaw55.FeeCovering -/
noncomputable def f9b : Code := Try.f9.body.getD .skip
noncomputable def f9n : WP := wpA Try.prog f9b
noncomputable def f9n1 := nd Try.prog f9b [1]
noncomputable def f9r1a := ra f9b [1,0]
noncomputable def f9r1 := rs Try.prog f9r1a
def f9r1_0 := mvE f9r1 0 1 0 5
def f9r1_1 := mvE f9r1 1 2 1 6
def f9r1_2 := clE f9r1 2 3 Try.prog 7 20 [.tmp 5, .tmp 6]
def f9r1_3 := mvE f9r1 3 4 0 8
def f9r1_4 := mvE f9r1 4 5 1 9
def f9r1_5 := clE f9r1 5 6 Try.prog 10 19 [.tmp 8, .tmp 9]
def f9r1_6 := biE f9r1 6 7 Try.prog 7 10 11 .eql 4
def f9r1_7 := mvE f9r1 7 8 11 12
def f9r1_8 := gcl f9r1 8 9 12 true Try.prog 13 12 []
def f9r1_9 := pfE f9r1 9 10 12 14 13
def f9r1_10 := mvL f9r1 10 14 4
def f9n1_eq := nrR f9n1 f9r1
noncomputable def f9r0a := ra f9b [0]
noncomputable def f9r0 := rs Try.prog f9r0a
def f9r0_0 := cbL f9r0 0 4 false
def f9n_eq := nrE f9n f9r0 f9n1
theorem f9_calls {xs : List AV} {rs : List RV} (hl : xs.length ≤ 15) (h : Run (f9n (retQ [.tmp 4] rs) ⟨argEnv 0 xs, []⟩)) : CallsTo Try.prog 9 xs rs :=
  callsTo_run (fn := Try.f9) (c := f9b) Try.func9 (by kernel_rfl) (by kernel_rfl) mixed (by kernel_rfl) 15 (by kernel_rfl) (by kernel_rfl) hl h
attribute [go_sem] f9r1_0 f9r1_1 f9r1_2 f9r1_3 f9r1_4 f9r1_5 f9r1_6 f9r1_7 f9r1_8 f9r1_9 f9r1_10 f9n1_eq f9r0_0 f9n_eq
end
end Go.Proofs.Ytnnjhnoocnlmeaa
