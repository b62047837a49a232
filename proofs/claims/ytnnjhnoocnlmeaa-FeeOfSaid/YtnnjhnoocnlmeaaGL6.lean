import Derived.Test.YtnnjhnoocnlmeaaG2
namespace Go.Proofs.Ytnnjhnoocnlmeaa
open Go Go.AI Go.Proofs
set_option linter.unusedVariables false
set_option linter.defProp false
set_option maxRecDepth 100000
section
variable (K : St → Prop) (Q : Exit → St → Prop) (s : St) (e : List (Nat × AV)) (m m2 : List (Nat × Ob))
/-! ### recycling/recyclinglaw55.FeeOf -/
noncomputable def f6b : Code := Try.f6.body.getD .skip
noncomputable def f6n : WP := wpA Try.prog f6b
noncomputable def f6n1 := nd Try.prog f6b [1]
noncomputable def f6n2 := nd Try.prog f6b [1,1]
noncomputable def f6n3 := nd Try.prog f6b [1,1,1]
noncomputable def f6r3a := ra f6b [1,1,1,0]
noncomputable def f6r3 := rs Try.prog f6r3a
def f6r3_0 := mvE f6r3 0 1 6 21
def f6r3_1 := mvE f6r3 1 2 8 22
def f6r3_2 := biE f6r3 2 3 Try.prog 21 22 23 .eql 24
def f6r3_3 := mvE f6r3 3 4 23 24
def f6r3_4 := gmv f6r3 4 5 24 true 7 25
def f6r3_5 := gmv f6r3 5 6 24 true 5 26
def f6r3_6 := gbi f6r3 6 7 24 true Try.prog 25 26 27 .eql 3
def f6r3_7 := pfE f6r3 7 8 24 28 27
def f6r3_8 := mvE f6r3 8 9 28 29
def f6r3_9 := gcl f6r3 9 10 29 true Try.prog 30 12 []
def f6r3_10 := pfE f6r3 10 11 29 31 30
def f6r3_11 := mvL f6r3 11 31 4
def f6n3_eq := nrR f6n3 f6r3
noncomputable def f6r2a := ra f6b [1,1,0]
noncomputable def f6r2 := rs Try.prog f6r2a
def f6r2_0 := mvE f6r2 0 1 0 16
def f6r2_1 := mvE f6r2 1 2 1 17
def f6r2_2 := clE f6r2 2 3 Try.prog 18 17 [.tmp 16, .tmp 17]
def f6r2_3 := mvE f6r2 3 4 18 15
def f6r2_4 := exE f6r2 4 5 15 19 0
def f6r2_5 := exE f6r2 5 6 15 20 1
def f6r2_6 := mvE f6r2 6 7 19 7
def f6r2_7 := mvL f6r2 7 20 8
def f6n2_eq := nrE f6n2 f6r2 f6n3
noncomputable def f6r1a := ra f6b [1,0]
noncomputable def f6r1 := rs Try.prog f6r1a
def f6r1_0 := mvE f6r1 0 1 0 10
def f6r1_1 := mvE f6r1 1 2 1 11
def f6r1_2 := clE f6r1 2 3 Try.prog 12 16 [.tmp 10, .tmp 11]
def f6r1_3 := mvE f6r1 3 4 12 9
def f6r1_4 := exE f6r1 4 5 9 13 0
def f6r1_5 := exE f6r1 5 6 9 14 1
def f6r1_6 := mvE f6r1 6 7 13 5
def f6r1_7 := mvL f6r1 7 14 6
def f6n1_eq := nrE f6n1 f6r1 f6n2
noncomputable def f6r0a := ra f6b [0]
noncomputable def f6r0 := rs Try.prog f6r0a
def f6r0_0 := cbL f6r0 0 4 false
def f6n_eq := nrE f6n f6r0 f6n1
theorem f6_calls {xs : List AV} {rs : List RV} (hl : xs.length ≤ 32) (h : Run (f6n (retQ [.tmp 4] rs) ⟨argEnv 0 xs, []⟩)) : CallsTo Try.prog 6 xs rs :=
  callsTo_run (fn := Try.f6) (c := f6b) Try.func6 (by kernel_rfl) (by kernel_rfl) mixed (by kernel_rfl) 32 (by kernel_rfl) (by kernel_rfl) hl h
attribute [go_sem] f6r3_0 f6r3_1 f6r3_2 f6r3_3 f6r3_4 f6r3_5 f6r3_6 f6r3_7 f6r3_8 f6r3_9 f6r3_10 f6r3_11 f6n3_eq f6r2_0 f6r2_1 f6r2_2 f6r2_3 f6r2_4 f6r2_5 f6r2_6 f6r2_7 f6n2_eq f6r1_0 f6r1_1 f6r1_2 f6r1_3 f6r1_4 f6r1_5 f6r1_6 f6r1_7 f6n1_eq f6r0_0 f6n_eq
end
end Go.Proofs.Ytnnjhnoocnlmeaa
