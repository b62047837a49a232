import Derived.Test.YtnnjhnoocnlmeaaG2
namespace Go.Proofs.Ytnnjhnoocnlmeaa
open Go Go.AI Go.Proofs
set_option linter.unusedVariables false
set_option linter.defProp false
set_option maxRecDepth 100000
section
variable (K : St → Prop) (Q : Exit → St → Prop) (s : St) (e : List (Nat × AV)) (m m2 : List (Nat × Ob))
/-! ### recycling/recyclinglaw55.FeeFees -/
noncomputable def f4b : Code := Try.f4.body.getD .skip
noncomputable def f4n : WP := wpA Try.prog f4b
noncomputable def f4n1 := nd Try.prog f4b [1]
noncomputable def f4n2 := nd Try.prog f4b [1,1]
noncomputable def f4n3 := nd Try.prog f4b [1,1,1]
noncomputable def f4r3a := ra f4b [1,1,1,0]
noncomputable def f4r3 := rs Try.prog f4r3a
def f4r3_0 := mvE f4r3 0 1 8 25
def f4r3_1 := mvE f4r3 1 2 10 26
def f4r3_2 := biE f4r3 2 3 Try.prog 25 26 27 .eql 24
def f4r3_3 := mvE f4r3 3 4 27 28
def f4r3_4 := gmv f4r3 4 5 28 true 9 29
def f4r3_5 := gmv f4r3 5 6 28 true 7 30
def f4r3_6 := gcl f4r3 6 7 28 true Try.prog 31 15 [.tmp 29, .tmp 30]
def f4r3_7 := pfE f4r3 7 8 28 32 31
def f4r3_8 := mvE f4r3 8 9 32 33
def f4r3_9 := gcl f4r3 9 10 33 true Try.prog 34 12 []
def f4r3_10 := pfE f4r3 10 11 33 35 34
def f4r3_11 := mvL f4r3 11 35 6
def f4n3_eq := nrR f4n3 f4r3
noncomputable def f4r2a := ra f4b [1,1,0]
noncomputable def f4r2 := rs Try.prog f4r2a
def f4r2_0 := mvE f4r2 0 1 0 19
def f4r2_1 := mvE f4r2 1 2 1 20
def f4r2_2 := mvE f4r2 2 3 2 21
def f4r2_3 := clE f4r2 3 4 Try.prog 22 14 [.tmp 19, .tmp 20, .tmp 21]
def f4r2_4 := mvE f4r2 4 5 22 18
def f4r2_5 := exE f4r2 5 6 18 23 0
def f4r2_6 := exE f4r2 6 7 18 24 1
def f4r2_7 := mvE f4r2 7 8 23 9
def f4r2_8 := mvL f4r2 8 24 10
def f4n2_eq := nrE f4n2 f4r2 f4n3
noncomputable def f4r1a := ra f4b [1,0]
noncomputable def f4r1 := rs Try.prog f4r1a
def f4r1_0 := mvE f4r1 0 1 0 12
def f4r1_1 := mvE f4r1 1 2 1 13
def f4r1_2 := mvE f4r1 2 3 2 14
def f4r1_3 := clE f4r1 3 4 Try.prog 15 13 [.tmp 12, .tmp 13, .tmp 14]
def f4r1_4 := mvE f4r1 4 5 15 11
def f4r1_5 := exE f4r1 5 6 11 16 0
def f4r1_6 := exE f4r1 6 7 11 17 1
def f4r1_7 := mvE f4r1 7 8 16 7
def f4r1_8 := mvL f4r1 8 17 8
def f4n1_eq := nrE f4n1 f4r1 f4n2
noncomputable def f4r0a := ra f4b [0]
noncomputable def f4r0 := rs Try.prog f4r0a
def f4r0_0 := cbL f4r0 0 6 false
def f4n_eq := nrE f4n f4r0 f4n1
theorem f4_calls {xs : List AV} {rs : List RV} (hl : xs.length ≤ 36) (h : Run (f4n (retQ [.tmp 6] rs) ⟨argEnv 0 xs, []⟩)) : CallsTo Try.prog 4 xs rs :=
  callsTo_run (fn := Try.f4) (c := f4b) Try.func4 (by kernel_rfl) (by kernel_rfl) mixed (by kernel_rfl) 36 (by kernel_rfl) (by kernel_rfl) hl h
attribute [go_sem] f4r3_0 f4r3_1 f4r3_2 f4r3_3 f4r3_4 f4r3_5 f4r3_6 f4r3_7 f4r3_8 f4r3_9 f4r3_10 f4r3_11 f4n3_eq f4r2_0 f4r2_1 f4r2_2 f4r2_3 f4r2_4 f4r2_5 f4r2_6 f4r2_7 f4r2_8 f4n2_eq f4r1_0 f4r1_1 f4r1_2 f4r1_3 f4r1_4 f4r1_5 f4r1_6 f4r1_7 f4r1_8 f4n1_eq f4r0_0 f4n_eq
end
end Go.Proofs.Ytnnjhnoocnlmeaa
