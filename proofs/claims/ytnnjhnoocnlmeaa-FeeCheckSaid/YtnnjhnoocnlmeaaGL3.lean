import Derived.Test.YtnnjhnoocnlmeaaG2
namespace Go.Proofs.Ytnnjhnoocnlmeaa
open Go Go.AI Go.Proofs
set_option linter.unusedVariables false
set_option linter.defProp false
set_option maxRecDepth 100000
section
variable (K : St → Prop) (Q : Exit → St → Prop) (s : St) (e : List (Nat × AV)) (m m2 : List (Nat × Ob))
/-! ### recycling/recyclinglaw55.FeeCheck -/
noncomputable def f3b : Code := Try.f3.body.getD .skip
noncomputable def f3n : WP := wpA Try.prog f3b
noncomputable def f3n1 := nd Try.prog f3b [1]
noncomputable def f3r1a := ra f3b [1,0]
noncomputable def f3r1 := rs Try.prog f3r1a
def f3r1_0 := mvE f3r1 0 1 0 7
def f3r1_1 := mvE f3r1 1 2 1 8
def f3r1_2 := mvE f3r1 2 3 2 9
def f3r1_3 := clE f3r1 3 4 Try.prog 10 10 [.tmp 7, .tmp 8, .tmp 9]
def f3r1_4 := mvE f3r1 4 5 0 11
def f3r1_5 := mvE f3r1 5 6 1 12
def f3r1_6 := mvE f3r1 6 7 2 13
def f3r1_7 := clE f3r1 7 8 Try.prog 14 11 [.tmp 11, .tmp 12, .tmp 13]
def f3r1_8 := biE f3r1 8 9 Try.prog 10 14 15 .eql 24
def f3r1_9 := mvE f3r1 9 10 15 16
def f3r1_10 := gcl f3r1 10 11 16 true Try.prog 17 12 []
def f3r1_11 := pfE f3r1 11 12 16 18 17
def f3r1_12 := mvL f3r1 12 18 6
def f3n1_eq := nrR f3n1 f3r1
noncomputable def f3r0a := ra f3b [0]
noncomputable def f3r0 := rs Try.prog f3r0a
def f3r0_0 := cbL f3r0 0 6 false
def f3n_eq := nrE f3n f3r0 f3n1
theorem f3_calls {xs : List AV} {rs : List RV} (hl : xs.length ≤ 19) (h : Run (f3n (retQ [.tmp 6] rs) ⟨argEnv 0 xs, []⟩)) : CallsTo Try.prog 3 xs rs :=
  callsTo_run (fn := Try.f3) (c := f3b) Try.func3 (by kernel_rfl) (by kernel_rfl) mixed (by kernel_rfl) 19 (by kernel_rfl) (by kernel_rfl) hl h
attribute [go_sem] f3r1_0 f3r1_1 f3r1_2 f3r1_3 f3r1_4 f3r1_5 f3r1_6 f3r1_7 f3r1_8 f3r1_9 f3r1_10 f3r1_11 f3r1_12 f3n1_eq f3r0_0 f3n_eq
end
end Go.Proofs.Ytnnjhnoocnlmeaa
