import Derived.Test.YtnnjhnoocnlmeaaG1
namespace Go.Proofs.Ytnnjhnoocnlmeaa
open Go Go.AI Go.Proofs
set_option linter.unusedVariables false
set_option linter.defProp false
set_option maxRecDepth 100000
section
variable (K : St → Prop) (Q : Exit → St → Prop) (s : St) (e : List (Nat × AV)) (m m2 : List (Nat × Ob))
/-! ### recycling/num.Sum -/
noncomputable def f52b : Code := Try.f52.body.getD .skip
noncomputable def f52n : WP := wpA Try.prog f52b
noncomputable def f52n1 := nd Try.prog f52b [1]
noncomputable def f52n2 := nd Try.prog f52b [1,1]
noncomputable def f52n3 := nd Try.prog f52b [1,1,0]
noncomputable def f52n4 := nd Try.prog f52b [1,1,0,1]
noncomputable def f52L5 := nd Try.prog f52b [1,1,0,1,0]
noncomputable def f52n6 := nd Try.prog f52b [1,1,0,1,0,0]
noncomputable def f52n7 := nd Try.prog f52b [1,1,0,1,0,0,1]
noncomputable def f52n8 := nd Try.prog f52b [1,1,0,1,0,0,1,0]
def f52n8_eq := ncX f52n8 11 0
noncomputable def f52n9 := nd Try.prog f52b [1,1,0,1,0,0,1,1]
noncomputable def f52n10 := nd Try.prog f52b [1,1,0,1,0,0,1,1,0]
noncomputable def f52n11 := nd Try.prog f52b [1,1,0,1,0,0,1,1,0,0]
noncomputable def f52n12 := nd Try.prog f52b [1,1,0,1,0,0,1,1,0,0,1]
noncomputable def f52n13 := nd Try.prog f52b [1,1,0,1,0,0,1,1,0,0,1,0]
noncomputable def f52n14 := nd Try.prog f52b [1,1,0,1,0,0,1,1,0,0,1,0,1]
noncomputable def f52n15 := nd Try.prog f52b [1,1,0,1,0,0,1,1,0,0,1,0,1,0]
noncomputable def f52r6a := ra f52b [1,1,0,1,0,0,1,1,0,0,1,0,1,0,0]
noncomputable def f52r6 := rs Try.prog f52r6a
def f52r6_0 := ciE f52r6 0 1 2 0
def f52r6_1 := ciL f52r6 1 3 1
def f52n15_eq := nrR f52n15 f52r6
def f52n14_eq := ncN f52n14 17 f52n15
noncomputable def f52r5a := ra f52b [1,1,0,1,0,0,1,1,0,0,1,0,0]
noncomputable def f52r5 := rs Try.prog f52r5a
def f52r5_0 := mvE f52r5 0 1 7 14
theorem f52r5_1 : Run (f52r5 1 K ⟨e, m⟩) = Run (withP (St.evp ⟨e, m⟩ [(0, .tmp 14)]) fun vs => bsK 3 1 (.int .i64 0) 1 15 vs (f52r5 2 K) e m) := rk
def f52r5_2 := clE f52r5 2 3 Try.prog 16 68 [.tmp 15]
def f52r5_3 := noL f52r5 3 16 17
def f52n13_eq := nrE f52n13 f52r5 f52n14
noncomputable def f52n16 := nd Try.prog f52b [1,1,0,1,0,0,1,1,0,0,1,1]
noncomputable def f52n17 := nd Try.prog f52b [1,1,0,1,0,0,1,1,0,0,1,1,1]
noncomputable def f52r8a := ra f52b [1,1,0,1,0,0,1,1,0,0,1,1,1]
noncomputable def f52r8 := rs Try.prog f52r8a
def f52r8_0 := mvE f52r8 0 1 5 22
def f52r8_1 := mvE f52r8 1 2 7 23
def f52r8_2 := bnE f52r8 2 3 Try.prog 23 24 .and 3 33554431
def f52r8_3 := biE f52r8 3 4 Try.prog 22 24 25 .add 3
def f52r8_4 := mvL f52r8 4 25 5
def f52n17_eq := nrN f52n17 f52r8
noncomputable def f52r7a := ra f52b [1,1,0,1,0,0,1,1,0,0,1,1,0]
noncomputable def f52r7 := rs Try.prog f52r7a
def f52r7_0 := mvE f52r7 0 1 4 18
def f52r7_1 := mvE f52r7 1 2 7 19
def f52r7_2 := bcE f52r7 2 3 Try.prog 19 20 .shr 3 (.int .u64 25)
def f52r7_3 := biE f52r7 3 4 Try.prog 18 20 21 .add 3
def f52r7_4 := mvL f52r7 4 21 4
def f52n16_eq := nrE f52n16 f52r7 f52n17
def f52n12_eq := ntE f52n12 f52n13 f52n16
noncomputable def f52r4a := ra f52b [1,1,0,1,0,0,1,1,0,0,0]
noncomputable def f52r4 := rs Try.prog f52r4a
def f52r4_0 := iaE f52r4 0 1 1 8 10 12
def f52r4_1 := lsE f52r4 1 2 1 12 13
def f52r4_2 := mvL f52r4 2 13 7
def f52n11_eq := nrE f52n11 f52r4 f52n12
def f52n10_eq := nbE f52n10 f52n11 1
noncomputable def f52n18 := nd Try.prog f52b [1,1,0,1,0,0,1,1,1]
noncomputable def f52r9a := ra f52b [1,1,0,1,0,0,1,1,1]
noncomputable def f52r9 := rs Try.prog f52r9a
def f52r9_0 := bnE f52r9 0 1 Try.prog 10 26 .add 3 1
def f52r9_1 := mvL f52r9 1 26 10
def f52n18_eq := nrN f52n18 f52r9
def f52n9_eq := ntE f52n9 f52n10 f52n18
def f52n7_eq := ntE f52n7 f52n8 f52n9
noncomputable def f52r3a := ra f52b [1,1,0,1,0,0,0]
noncomputable def f52r3 := rs Try.prog f52r3a
def f52r3_0 := biL f52r3 0 Try.prog 10 9 11 .lss 3
def f52n6_eq := nrE f52n6 f52r3 f52n7
theorem f52L5_is : LoopOf f52L5 f52n6 := ⟨Try.prog, subC f52b [1,1,0,1,0,0], by kernel_rfl, by kernel_rfl⟩
def f52n4_eq := nbE f52n4 f52L5 0
noncomputable def f52r2a := ra f52b [1,1,0,0]
noncomputable def f52r2 := rs Try.prog f52r2a
def f52r2_0 := mvE f52r2 0 1 0 8
def f52r2_1 := lnE f52r2 1 2 8 9
def f52r2_2 := ciL f52r2 2 10 0
def f52n3_eq := nrE f52n3 f52r2 f52n4
noncomputable def f52n19 := nd Try.prog f52b [1,1,1]
noncomputable def f52n20 := nd Try.prog f52b [1,1,1,1]
noncomputable def f52n21 := nd Try.prog f52b [1,1,1,1,0]
noncomputable def f52n22 := nd Try.prog f52b [1,1,1,1,0,1]
noncomputable def f52n23 := nd Try.prog f52b [1,1,1,1,0,1,0]
noncomputable def f52r12a := ra f52b [1,1,1,1,0,1,0,0]
noncomputable def f52r12 := rs Try.prog f52r12a
def f52r12_0 := ciE f52r12 0 1 2 0
def f52r12_1 := ciL f52r12 1 3 2
def f52n23_eq := nrR f52n23 f52r12
def f52n22_eq := ncN f52n22 36 f52n23
noncomputable def f52r11a := ra f52b [1,1,1,1,0,0]
noncomputable def f52r11 := rs Try.prog f52r11a
def f52r11_0 := mvE f52r11 0 1 4 31
def f52r11_1 := bnE f52r11 1 2 Try.prog 31 32 .lss 3 (-67108864)
def f52r11_2 := mvE f52r11 2 3 32 33
def f52r11_3 := gmv f52r11 3 4 33 false 4 34
def f52r11_4 := gbn f52r11 4 5 33 false Try.prog 34 35 .gtr 3 67108864
def f52r11_5 := ptL f52r11 5 33 36 35
def f52n21_eq := nrE f52n21 f52r11 f52n22
noncomputable def f52n24 := nd Try.prog f52b [1,1,1,1,1]
noncomputable def f52r13a := ra f52b [1,1,1,1,1,0]
noncomputable def f52r13 := rs Try.prog f52r13a
def f52r13_0 := mvE f52r13 0 1 4 37
def f52r13_1 := bcE f52r13 1 2 Try.prog 37 38 .shl 3 (.int .u64 25)
def f52r13_2 := mvE f52r13 2 3 5 39
def f52r13_3 := bnE f52r13 3 4 Try.prog 39 40 .and 3 33554431
def f52r13_4 := biE f52r13 4 5 Try.prog 38 40 41 .add 3
def f52r13_5 := clE f52r13 5 6 Try.prog 42 69 [.tmp 41]
def f52r13_6 := exE f52r13 6 7 42 43 0
def f52r13_7 := exE f52r13 7 8 42 44 1
def f52r13_8 := mvE f52r13 8 9 43 2
def f52r13_9 := mvL f52r13 9 44 3
def f52n24_eq := nrR f52n24 f52r13
def f52n20_eq := ntE f52n20 f52n21 f52n24
noncomputable def f52r10a := ra f52b [1,1,1,0]
noncomputable def f52r10 := rs Try.prog f52r10a
def f52r10_0 := mvE f52r10 0 1 4 27
def f52r10_1 := mvE f52r10 1 2 5 28
def f52r10_2 := bcE f52r10 2 3 Try.prog 28 29 .shr 3 (.int .u64 25)
def f52r10_3 := biE f52r10 3 4 Try.prog 27 29 30 .add 3
def f52r10_4 := mvL f52r10 4 30 4
def f52n19_eq := nrE f52n19 f52r10 f52n20
def f52n2_eq := ntE f52n2 f52n3 f52n19
noncomputable def f52r1a := ra f52b [1,0]
noncomputable def f52r1 := rs Try.prog f52r1a
def f52r1_0 := ciE f52r1 0 1 4 0
def f52r1_1 := ciL f52r1 1 5 0
def f52n1_eq := nrE f52n1 f52r1 f52n2
noncomputable def f52r0a := ra f52b [0]
noncomputable def f52r0 := rs Try.prog f52r0a
def f52r0_0 := ciE f52r0 0 1 2 0
def f52r0_1 := ciL f52r0 1 3 0
def f52n_eq := nrE f52n f52r0 f52n1
theorem f52_calls {xs : List AV} {rs : List RV} (hl : xs.length ≤ 45) (h : Run (f52n (retQ [.tmp 2, .tmp 3] rs) ⟨argEnv 0 xs, []⟩)) : CallsTo Try.prog 52 xs rs :=
  callsTo_run (fn := Try.f52) (c := f52b) Try.func52 (by kernel_rfl) (by kernel_rfl) mixed (by kernel_rfl) 45 (by kernel_rfl) (by kernel_rfl) hl h
attribute [go_sem] f52n8_eq f52r6_0 f52r6_1 f52n15_eq f52n14_eq f52r5_0 f52r5_1 f52r5_2 f52r5_3 f52n13_eq f52r8_0 f52r8_1 f52r8_2 f52r8_3 f52r8_4 f52n17_eq f52r7_0 f52r7_1 f52r7_2 f52r7_3 f52r7_4 f52n16_eq f52n12_eq f52r4_0 f52r4_1 f52r4_2 f52n11_eq f52n10_eq f52r9_0 f52r9_1 f52n18_eq f52n9_eq f52n7_eq f52r3_0 f52n6_eq f52n4_eq f52r2_0 f52r2_1 f52r2_2 f52n3_eq
attribute [go_sem] f52r12_0 f52r12_1 f52n23_eq f52n22_eq f52r11_0 f52r11_1 f52r11_2 f52r11_3 f52r11_4 f52r11_5 f52n21_eq f52r13_0 f52r13_1 f52r13_2 f52r13_3 f52r13_4 f52r13_5 f52r13_6 f52r13_7 f52r13_8 f52r13_9 f52n24_eq f52n20_eq f52r10_0 f52r10_1 f52r10_2 f52r10_3 f52r10_4 f52n19_eq f52n2_eq f52r1_0 f52r1_1 f52n1_eq f52r0_0 f52r0_1 f52n_eq
/-! ### math/bits.LeadingZeros64 -/
noncomputable def f53b : Code := Try.f53.body.getD .skip
noncomputable def f53n : WP := wpA Try.prog f53b
noncomputable def f53n1 := nd Try.prog f53b [1]
noncomputable def f53r1a := ra f53b [1,0]
noncomputable def f53r1 := rs Try.prog f53r1a
def f53r1_0 := mvE f53r1 0 1 0 3
def f53r1_1 := clE f53r1 1 2 Try.prog 4 51 [.tmp 3]
theorem f53r1_2 : Run (f53r1 2 K ⟨e, m⟩) = Run (withV (some (.int .i64 64)) fun v1 => withV (lk e 4) fun v2 => binA Try.prog .sub 3 v1 v2 (fun x => f53r1 3 K ⟨(5, x) :: e, m⟩)) := rk
def f53r1_3 := mvL f53r1 3 5 2
def f53n1_eq := nrR f53n1 f53r1
noncomputable def f53r0a := ra f53b [0]
noncomputable def f53r0 := rs Try.prog f53r0a
def f53r0_0 := ciL f53r0 0 2 0
def f53n_eq := nrE f53n f53r0 f53n1
theorem f53_calls {xs : List AV} {rs : List RV} (hl : xs.length ≤ 6) (h : Run (f53n (retQ [.tmp 2] rs) ⟨argEnv 0 xs, []⟩)) : CallsTo Try.prog 53 xs rs :=
  callsTo_run (fn := Try.f53) (c := f53b) Try.func53 (by kernel_rfl) (by kernel_rfl) mixed (by kernel_rfl) 6 (by kernel_rfl) (by kernel_rfl) hl h
attribute [go_sem] f53r1_0 f53r1_1 f53r1_2 f53r1_3 f53n1_eq f53r0_0 f53n_eq
/-! ### slices.stableCmpFunc int  -/
noncomputable def f54b : Code := Try.f54.body.getD .skip
noncomputable def f54n : WP := wpA Try.prog f54b
noncomputable def f54n1 := nd Try.prog f54b [1]
noncomputable def f54n2 := nd Try.prog f54b [1,1]
noncomputable def f54n3 := nd Try.prog f54b [1,1,0]
noncomputable def f54L4 := nd Try.prog f54b [1,1,0,0]
noncomputable def f54n5 := nd Try.prog f54b [1,1,0,0,0]
noncomputable def f54n6 := nd Try.prog f54b [1,1,0,0,0,0]
noncomputable def f54n7 := nd Try.prog f54b [1,1,0,0,0,0,1]
def f54n7_eq := ncX f54n7 13 0
noncomputable def f54r2a := ra f54b [1,1,0,0,0,0,0]
noncomputable def f54r2 := rs Try.prog f54r2a
def f54r2_0 := mvE f54r2 0 1 8 11
def f54r2_1 := mvE f54r2 1 2 1 12
def f54r2_2 := biL f54r2 2 Try.prog 11 12 13 .leq 3
def f54n6_eq := nrE f54n6 f54r2 f54n7
noncomputable def f54n8 := nd Try.prog f54b [1,1,0,0,0,1]
noncomputable def f54n9 := nd Try.prog f54b [1,1,0,0,0,1,0]
noncomputable def f54n10 := nd Try.prog f54b [1,1,0,0,0,1,0,1]
noncomputable def f54n11 := nd Try.prog f54b [1,1,0,0,0,1,0,1,1]
noncomputable def f54r5a := ra f54b [1,1,0,0,0,1,0,1,1]
noncomputable def f54r5 := rs Try.prog f54r5a
def f54r5_0 := mvE f54r5 0 1 8 20
def f54r5_1 := mvE f54r5 1 2 6 21
def f54r5_2 := biE f54r5 2 3 Try.prog 20 21 22 .add 3
def f54r5_3 := mvL f54r5 3 22 8
def f54n11_eq := nrN f54n11 f54r5
noncomputable def f54r4a := ra f54b [1,1,0,0,0,1,0,1,0]
noncomputable def f54r4 := rs Try.prog f54r4a
def f54r4_0 := mvE f54r4 0 1 8 19
def f54r4_1 := mvL f54r4 1 19 7
def f54n10_eq := nrE f54n10 f54r4 f54n11
noncomputable def f54r3a := ra f54b [1,1,0,0,0,1,0,0]
noncomputable def f54r3 := rs Try.prog f54r3a
def f54r3_0 := mvE f54r3 0 1 0 14
def f54r3_1 := mvE f54r3 1 2 7 15
def f54r3_2 := mvE f54r3 2 3 8 16
def f54r3_3 := mvE f54r3 3 4 2 17
def f54r3_4 := clL f54r3 4 Try.prog 18 70 [.tmp 14, .tmp 15, .tmp 16, .tmp 17]
def f54n9_eq := nrE f54n9 f54r3 f54n10
def f54n8_eq := nbE f54n8 f54n9 1
def f54n5_eq := ntE f54n5 f54n6 f54n8
theorem f54L4_is : LoopOf f54L4 f54n5 := ⟨Try.prog, subC f54b [1,1,0,0,0], by kernel_rfl, by kernel_rfl⟩
def f54n3_eq := nbE f54n3 f54L4 0
noncomputable def f54n12 := nd Try.prog f54b [1,1,1]
noncomputable def f54n13 := nd Try.prog f54b [1,1,1,1]
noncomputable def f54L14 := nd Try.prog f54b [1,1,1,1,0]
noncomputable def f54n15 := nd Try.prog f54b [1,1,1,1,0,0]
noncomputable def f54n16 := nd Try.prog f54b [1,1,1,1,0,0,0]
noncomputable def f54n17 := nd Try.prog f54b [1,1,1,1,0,0,0,1]
def f54n17_eq := ncX f54n17 30 2
noncomputable def f54r7a := ra f54b [1,1,1,1,0,0,0,0]
noncomputable def f54r7 := rs Try.prog f54r7a
def f54r7_0 := mvE f54r7 0 1 6 28
def f54r7_1 := mvE f54r7 1 2 1 29
def f54r7_2 := biL f54r7 2 Try.prog 28 29 30 .lss 3
def f54n16_eq := nrE f54n16 f54r7 f54n17
noncomputable def f54n18 := nd Try.prog f54b [1,1,1,1,0,0,1]
noncomputable def f54n19 := nd Try.prog f54b [1,1,1,1,0,0,1,0]
noncomputable def f54n20 := nd Try.prog f54b [1,1,1,1,0,0,1,0,1]
noncomputable def f54n21 := nd Try.prog f54b [1,1,1,1,0,0,1,0,1,0]
noncomputable def f54L22 := nd Try.prog f54b [1,1,1,1,0,0,1,0,1,0,0]
noncomputable def f54n23 := nd Try.prog f54b [1,1,1,1,0,0,1,0,1,0,0,0]
noncomputable def f54n24 := nd Try.prog f54b [1,1,1,1,0,0,1,0,1,0,0,0,0]
noncomputable def f54n25 := nd Try.prog f54b [1,1,1,1,0,0,1,0,1,0,0,0,0,1]
def f54n25_eq := ncX f54n25 35 4
noncomputable def f54r9a := ra f54b [1,1,1,1,0,0,1,0,1,0,0,0,0,0]
noncomputable def f54r9 := rs Try.prog f54r9a
def f54r9_0 := mvE f54r9 0 1 8 33
def f54r9_1 := mvE f54r9 1 2 1 34
def f54r9_2 := biL f54r9 2 Try.prog 33 34 35 .leq 3
def f54n24_eq := nrE f54n24 f54r9 f54n25
noncomputable def f54n26 := nd Try.prog f54b [1,1,1,1,0,0,1,0,1,0,0,0,1]
noncomputable def f54n27 := nd Try.prog f54b [1,1,1,1,0,0,1,0,1,0,0,0,1,0]
noncomputable def f54n28 := nd Try.prog f54b [1,1,1,1,0,0,1,0,1,0,0,0,1,0,1]
noncomputable def f54n29 := nd Try.prog f54b [1,1,1,1,0,0,1,0,1,0,0,0,1,0,1,1]
noncomputable def f54r12a := ra f54b [1,1,1,1,0,0,1,0,1,0,0,0,1,0,1,1]
noncomputable def f54r12 := rs Try.prog f54r12a
def f54r12_0 := mvE f54r12 0 1 8 45
def f54r12_1 := mvE f54r12 1 2 6 46
theorem f54r12_2 : Run (f54r12 2 K ⟨e, m⟩) = Run (withV (some (.int .i64 2)) fun v1 => withV (lk e 46) fun v2 => binA Try.prog .mul 3 v1 v2 (fun x => f54r12 3 K ⟨(47, x) :: e, m⟩)) := rk
def f54r12_3 := biE f54r12 3 4 Try.prog 45 47 48 .add 3
def f54r12_4 := mvL f54r12 4 48 8
def f54n29_eq := nrN f54n29 f54r12
noncomputable def f54r11a := ra f54b [1,1,1,1,0,0,1,0,1,0,0,0,1,0,1,0]
noncomputable def f54r11 := rs Try.prog f54r11a
def f54r11_0 := mvE f54r11 0 1 8 44
def f54r11_1 := mvL f54r11 1 44 7
def f54n28_eq := nrE f54n28 f54r11 f54n29
noncomputable def f54r10a := ra f54b [1,1,1,1,0,0,1,0,1,0,0,0,1,0,0]
noncomputable def f54r10 := rs Try.prog f54r10a
def f54r10_0 := mvE f54r10 0 1 0 36
def f54r10_1 := mvE f54r10 1 2 7 37
def f54r10_2 := mvE f54r10 2 3 7 38
def f54r10_3 := mvE f54r10 3 4 6 39
def f54r10_4 := biE f54r10 4 5 Try.prog 38 39 40 .add 3
def f54r10_5 := mvE f54r10 5 6 8 41
def f54r10_6 := mvE f54r10 6 7 2 42
def f54r10_7 := clL f54r10 7 Try.prog 43 71 [.tmp 36, .tmp 37, .tmp 40, .tmp 41, .tmp 42]
def f54n27_eq := nrE f54n27 f54r10 f54n28
def f54n26_eq := nbE f54n26 f54n27 5
def f54n23_eq := ntE f54n23 f54n24 f54n26
theorem f54L22_is : LoopOf f54L22 f54n23 := ⟨Try.prog, subC f54b [1,1,1,1,0,0,1,0,1,0,0,0], by kernel_rfl, by kernel_rfl⟩
def f54n21_eq := nbE f54n21 f54L22 4
noncomputable def f54n30 := nd Try.prog f54b [1,1,1,1,0,0,1,0,1,1]
noncomputable def f54n31 := nd Try.prog f54b [1,1,1,1,0,0,1,0,1,1,0]
noncomputable def f54n32 := nd Try.prog f54b [1,1,1,1,0,0,1,0,1,1,0,1]
noncomputable def f54n33 := nd Try.prog f54b [1,1,1,1,0,0,1,0,1,1,0,1,1]
noncomputable def f54n34 := nd Try.prog f54b [1,1,1,1,0,0,1,0,1,1,0,1,1,0]
noncomputable def f54r15a := ra f54b [1,1,1,1,0,0,1,0,1,1,0,1,1,0]
noncomputable def f54r15 := rs Try.prog f54r15a
def f54r15_0 := mvE f54r15 0 1 0 55
def f54r15_1 := mvE f54r15 1 2 7 56
def f54r15_2 := mvE f54r15 2 3 9 57
def f54r15_3 := mvE f54r15 3 4 1 58
def f54r15_4 := mvE f54r15 4 5 2 59
def f54r15_5 := clL f54r15 5 Try.prog 60 71 [.tmp 55, .tmp 56, .tmp 57, .tmp 58, .tmp 59]
def f54n34_eq := nrN f54n34 f54r15
def f54n33_eq := ncN f54n33 54 f54n34
noncomputable def f54r14a := ra f54b [1,1,1,1,0,0,1,0,1,1,0,1,0]
noncomputable def f54r14 := rs Try.prog f54r14a
def f54r14_0 := mvE f54r14 0 1 9 52
def f54r14_1 := mvE f54r14 1 2 1 53
def f54r14_2 := biL f54r14 2 Try.prog 52 53 54 .lss 3
def f54n32_eq := nrE f54n32 f54r14 f54n33
noncomputable def f54r13a := ra f54b [1,1,1,1,0,0,1,0,1,1,0,0]
noncomputable def f54r13 := rs Try.prog f54r13a
def f54r13_0 := mvE f54r13 0 1 7 49
def f54r13_1 := mvE f54r13 1 2 6 50
def f54r13_2 := biE f54r13 2 3 Try.prog 49 50 51 .add 3
def f54r13_3 := mvL f54r13 3 51 9
def f54n31_eq := nrE f54n31 f54r13 f54n32
noncomputable def f54n35 := nd Try.prog f54b [1,1,1,1,0,0,1,0,1,1,1]
noncomputable def f54r16a := ra f54b [1,1,1,1,0,0,1,0,1,1,1]
noncomputable def f54r16 := rs Try.prog f54r16a
def f54r16_0 := mvE f54r16 0 1 6 61
def f54r16_1 := bnE f54r16 1 2 Try.prog 61 62 .mul 3 2
def f54r16_2 := mvL f54r16 2 62 6
def f54n35_eq := nrN f54n35 f54r16
def f54n30_eq := ntE f54n30 f54n31 f54n35
def f54n20_eq := ntE f54n20 f54n21 f54n30
noncomputable def f54r8a := ra f54b [1,1,1,1,0,0,1,0,0]
noncomputable def f54r8 := rs Try.prog f54r8a
def f54r8_0 := mvE f54r8 0 1 6 31
theorem f54r8_1 : Run (f54r8 1 K ⟨e, m⟩) = Run (withV (some (.int .i64 2)) fun v1 => withV (lk e 31) fun v2 => binA Try.prog .mul 3 v1 v2 (fun x => f54r8 2 K ⟨(32, x) :: e, m⟩)) := rk
def f54r8_2 := ciE f54r8 2 3 7 0
def f54r8_3 := mvL f54r8 3 32 8
def f54n19_eq := nrE f54n19 f54r8 f54n20
def f54n18_eq := nbE f54n18 f54n19 3
def f54n15_eq := ntE f54n15 f54n16 f54n18
theorem f54L14_is : LoopOf f54L14 f54n15 := ⟨Try.prog, subC f54b [1,1,1,1,0,0], by kernel_rfl, by kernel_rfl⟩
def f54n13_eq := nbE f54n13 f54L14 2
noncomputable def f54r6a := ra f54b [1,1,1,0]
noncomputable def f54r6 := rs Try.prog f54r6a
def f54r6_0 := mvE f54r6 0 1 0 23
def f54r6_1 := mvE f54r6 1 2 7 24
def f54r6_2 := mvE f54r6 2 3 1 25
def f54r6_3 := mvE f54r6 3 4 2 26
def f54r6_4 := clL f54r6 4 Try.prog 27 70 [.tmp 23, .tmp 24, .tmp 25, .tmp 26]
def f54n12_eq := nrE f54n12 f54r6 f54n13
def f54n2_eq := ntE f54n2 f54n3 f54n12
noncomputable def f54r1a := ra f54b [1,0]
noncomputable def f54r1 := rs Try.prog f54r1a
def f54r1_0 := mvE f54r1 0 1 6 10
def f54r1_1 := ciE f54r1 1 2 7 0
def f54r1_2 := mvL f54r1 2 10 8
def f54n1_eq := nrE f54n1 f54r1 f54n2
noncomputable def f54r0a := ra f54b [0]
noncomputable def f54r0 := rs Try.prog f54r0a
def f54r0_0 := ciL f54r0 0 6 20
def f54n_eq := nrE f54n f54r0 f54n1
theorem f54_calls {xs : List AV} {rs : List RV} (hl : xs.length ≤ 63) (h : Run (f54n (retQ [] rs) ⟨argEnv 0 xs, []⟩)) : CallsTo Try.prog 54 xs rs :=
  callsTo_run (fn := Try.f54) (c := f54b) Try.func54 (by kernel_rfl) (by kernel_rfl) mixed (by kernel_rfl) 63 (by kernel_rfl) (by kernel_rfl) hl h
theorem f54_sorts {e k : Nat} {xs rest ys : List AV} (hl : rest.length + 1 ≤ 63) (hys : ∀ c ∈ flat ys, c.scal = true) (h : Run (f54n (sQ e k ys) ⟨argEnv 0 (.own 1000 :: rest), [(1000, .arr e k xs)]⟩)) : SortsTo Try.prog 54 e k xs rest ys :=
  sortsTo_run (fn := Try.f54) (c := f54b) Try.func54 (by kernel_rfl) (by kernel_rfl) mixed (by kernel_rfl) 63 (by kernel_rfl) (by kernel_rfl) hl (by decide) hys h
attribute [go_sem] f54n7_eq f54r2_0 f54r2_1 f54r2_2 f54n6_eq f54r5_0 f54r5_1 f54r5_2 f54r5_3 f54n11_eq f54r4_0 f54r4_1 f54n10_eq f54r3_0 f54r3_1 f54r3_2 f54r3_3 f54r3_4 f54n9_eq f54n8_eq f54n5_eq f54n3_eq f54n17_eq f54r7_0 f54r7_1 f54r7_2 f54n16_eq f54n25_eq f54r9_0 f54r9_1 f54r9_2 f54n24_eq f54r12_0 f54r12_1 f54r12_2 f54r12_3 f54r12_4 f54n29_eq f54r11_0 f54r11_1
attribute [go_sem] f54n28_eq f54r10_0 f54r10_1 f54r10_2 f54r10_3 f54r10_4 f54r10_5 f54r10_6 f54r10_7 f54n27_eq f54n26_eq f54n23_eq f54n21_eq f54r15_0 f54r15_1 f54r15_2 f54r15_3 f54r15_4 f54r15_5 f54n34_eq f54n33_eq f54r14_0 f54r14_1 f54r14_2 f54n32_eq f54r13_0 f54r13_1 f54r13_2 f54r13_3 f54n31_eq f54r16_0 f54r16_1 f54r16_2 f54n35_eq f54n30_eq f54n20_eq f54r8_0 f54r8_1 f54r8_2 f54r8_3
attribute [go_sem] f54n19_eq f54n18_eq f54n15_eq f54n13_eq f54r6_0 f54r6_1 f54r6_2 f54r6_3 f54r6_4 f54n12_eq f54n2_eq f54r1_0 f54r1_1 f54r1_2 f54n1_eq f54r0_0 f54n_eq
/-! ### recycling/num.in -/
noncomputable def f68b : Code := Try.f68.body.getD .skip
noncomputable def f68n : WP := wpA Try.prog f68b
noncomputable def f68n1 := nd Try.prog f68b [1]
noncomputable def f68n2 := nd Try.prog f68b [1,0]
noncomputable def f68n3 := nd Try.prog f68b [1,0,1]
noncomputable def f68L4 := nd Try.prog f68b [1,0,1,0]
noncomputable def f68n5 := nd Try.prog f68b [1,0,1,0,0]
noncomputable def f68n6 := nd Try.prog f68b [1,0,1,0,0,1]
noncomputable def f68n7 := nd Try.prog f68b [1,0,1,0,0,1,0]
def f68n7_eq := ncX f68n7 8 0
noncomputable def f68n8 := nd Try.prog f68b [1,0,1,0,0,1,1]
noncomputable def f68n9 := nd Try.prog f68b [1,0,1,0,0,1,1,0]
noncomputable def f68n10 := nd Try.prog f68b [1,0,1,0,0,1,1,0,0]
noncomputable def f68n11 := nd Try.prog f68b [1,0,1,0,0,1,1,0,0,1]
noncomputable def f68n12 := nd Try.prog f68b [1,0,1,0,0,1,1,0,0,1,1]
noncomputable def f68n13 := nd Try.prog f68b [1,0,1,0,0,1,1,0,0,1,1,0]
noncomputable def f68r5a := ra f68b [1,0,1,0,0,1,1,0,0,1,1,0,0]
noncomputable def f68r5 := rs Try.prog f68r5a
def f68r5_0 := cbL f68r5 0 2 false
def f68n13_eq := nrR f68n13 f68r5
def f68n12_eq := ncN f68n12 16 f68n13
noncomputable def f68r4a := ra f68b [1,0,1,0,0,1,1,0,0,1,0]
noncomputable def f68r4 := rs Try.prog f68r4a
def f68r4_0 := mvE f68r4 0 1 4 11
def f68r4_1 := bnE f68r4 1 2 Try.prog 11 12 .lss 3 (-1125899906842624)
def f68r4_2 := mvE f68r4 2 3 12 13
def f68r4_3 := gmv f68r4 3 4 13 false 4 14
def f68r4_4 := gbn f68r4 4 5 13 false Try.prog 14 15 .gtr 3 1125899906842624
def f68r4_5 := ptL f68r4 5 13 16 15
def f68n11_eq := nrE f68n11 f68r4 f68n12
noncomputable def f68r3a := ra f68b [1,0,1,0,0,1,1,0,0,0]
noncomputable def f68r3 := rs Try.prog f68r3a
def f68r3_0 := iaE f68r3 0 1 1 5 7 9
def f68r3_1 := lsE f68r3 1 2 1 9 10
def f68r3_2 := mvL f68r3 2 10 4
def f68n10_eq := nrE f68n10 f68r3 f68n11
def f68n9_eq := nbE f68n9 f68n10 1
noncomputable def f68n14 := nd Try.prog f68b [1,0,1,0,0,1,1,1]
noncomputable def f68r6a := ra f68b [1,0,1,0,0,1,1,1]
noncomputable def f68r6 := rs Try.prog f68r6a
def f68r6_0 := bnE f68r6 0 1 Try.prog 7 17 .add 3 1
def f68r6_1 := mvL f68r6 1 17 7
def f68n14_eq := nrN f68n14 f68r6
def f68n8_eq := ntE f68n8 f68n9 f68n14
def f68n6_eq := ntE f68n6 f68n7 f68n8
noncomputable def f68r2a := ra f68b [1,0,1,0,0,0]
noncomputable def f68r2 := rs Try.prog f68r2a
def f68r2_0 := biL f68r2 0 Try.prog 7 6 8 .lss 3
def f68n5_eq := nrE f68n5 f68r2 f68n6
theorem f68L4_is : LoopOf f68L4 f68n5 := ⟨Try.prog, subC f68b [1,0,1,0,0], by kernel_rfl, by kernel_rfl⟩
def f68n3_eq := nbE f68n3 f68L4 0
noncomputable def f68r1a := ra f68b [1,0,0]
noncomputable def f68r1 := rs Try.prog f68r1a
def f68r1_0 := mvE f68r1 0 1 0 5
def f68r1_1 := lnE f68r1 1 2 5 6
def f68r1_2 := ciL f68r1 2 7 0
def f68n2_eq := nrE f68n2 f68r1 f68n3
noncomputable def f68n15 := nd Try.prog f68b [1,1]
noncomputable def f68r7a := ra f68b [1,1,0]
noncomputable def f68r7 := rs Try.prog f68r7a
def f68r7_0 := cbL f68r7 0 2 true
def f68n15_eq := nrR f68n15 f68r7
def f68n1_eq := ntE f68n1 f68n2 f68n15
noncomputable def f68r0a := ra f68b [0]
noncomputable def f68r0 := rs Try.prog f68r0a
def f68r0_0 := cbL f68r0 0 2 false
def f68n_eq := nrE f68n f68r0 f68n1
theorem f68_calls {xs : List AV} {rs : List RV} (hl : xs.length ≤ 18) (h : Run (f68n (retQ [.tmp 2] rs) ⟨argEnv 0 xs, []⟩)) : CallsTo Try.prog 68 xs rs :=
  callsTo_run (fn := Try.f68) (c := f68b) Try.func68 (by kernel_rfl) (by kernel_rfl) mixed (by kernel_rfl) 18 (by kernel_rfl) (by kernel_rfl) hl h
attribute [go_sem] f68n7_eq f68r5_0 f68n13_eq f68n12_eq f68r4_0 f68r4_1 f68r4_2 f68r4_3 f68r4_4 f68r4_5 f68n11_eq f68r3_0 f68r3_1 f68r3_2 f68n10_eq f68n9_eq f68r6_0 f68r6_1 f68n14_eq f68n8_eq f68n6_eq f68r2_0 f68n5_eq f68n3_eq f68r1_0 f68r1_1 f68r1_2 f68n2_eq f68r7_0 f68n15_eq f68n1_eq f68r0_0 f68n_eq
/-! ### recycling/num.checked -/
noncomputable def f69b : Code := Try.f69.body.getD .skip
noncomputable def f69n : WP := wpA Try.prog f69b
noncomputable def f69n1 := nd Try.prog f69b [1]
noncomputable def f69n2 := nd Try.prog f69b [1,0]
noncomputable def f69n3 := nd Try.prog f69b [1,0,1]
noncomputable def f69n4 := nd Try.prog f69b [1,0,1,0]
noncomputable def f69r2a := ra f69b [1,0,1,0,0]
noncomputable def f69r2 := rs Try.prog f69r2a
def f69r2_0 := ciE f69r2 0 1 2 0
def f69r2_1 := ciL f69r2 1 3 2
def f69n4_eq := nrR f69n4 f69r2
def f69n3_eq := ncN f69n3 7 f69n4
noncomputable def f69r1a := ra f69b [1,0,0]
noncomputable def f69r1 := rs Try.prog f69r1a
def f69r1_0 := mvE f69r1 0 1 0 4
theorem f69r1_1 : Run (f69r1 1 K ⟨e, m⟩) = Run (withP (St.evp ⟨e, m⟩ [(0, .tmp 4)]) fun vs => bsK 3 1 (.int .i64 0) 1 5 vs (f69r1 2 K) e m) := rk
def f69r1_2 := clE f69r1 2 3 Try.prog 6 68 [.tmp 5]
def f69r1_3 := noL f69r1 3 6 7
def f69n2_eq := nrE f69n2 f69r1 f69n3
noncomputable def f69n5 := nd Try.prog f69b [1,1]
noncomputable def f69r3a := ra f69b [1,1,0]
noncomputable def f69r3 := rs Try.prog f69r3a
def f69r3_0 := mvE f69r3 0 1 0 8
def f69r3_1 := mvE f69r3 1 2 8 2
def f69r3_2 := ciL f69r3 2 3 0
def f69n5_eq := nrR f69n5 f69r3
def f69n1_eq := ntE f69n1 f69n2 f69n5
noncomputable def f69r0a := ra f69b [0]
noncomputable def f69r0 := rs Try.prog f69r0a
def f69r0_0 := ciE f69r0 0 1 2 0
def f69r0_1 := ciL f69r0 1 3 0
def f69n_eq := nrE f69n f69r0 f69n1
theorem f69_calls {xs : List AV} {rs : List RV} (hl : xs.length ≤ 9) (h : Run (f69n (retQ [.tmp 2, .tmp 3] rs) ⟨argEnv 0 xs, []⟩)) : CallsTo Try.prog 69 xs rs :=
  callsTo_run (fn := Try.f69) (c := f69b) Try.func69 (by kernel_rfl) (by kernel_rfl) mixed (by kernel_rfl) 9 (by kernel_rfl) (by kernel_rfl) hl h
attribute [go_sem] f69r2_0 f69r2_1 f69n4_eq f69n3_eq f69r1_0 f69r1_1 f69r1_2 f69r1_3 f69n2_eq f69r3_0 f69r3_1 f69r3_2 f69n5_eq f69n1_eq f69r0_0 f69r0_1 f69n_eq
/-! ### slices.insertionSortCmpFunc int  -/
noncomputable def f70b : Code := Try.f70.body.getD .skip
noncomputable def f70n : WP := wpA Try.prog f70b
noncomputable def f70n1 := nd Try.prog f70b [1]
noncomputable def f70L2 := nd Try.prog f70b [1,0]
noncomputable def f70n3 := nd Try.prog f70b [1,0,0]
noncomputable def f70n4 := nd Try.prog f70b [1,0,0,0]
noncomputable def f70n5 := nd Try.prog f70b [1,0,0,0,1]
def f70n5_eq := ncX f70n5 14 0
noncomputable def f70r1a := ra f70b [1,0,0,0,0]
noncomputable def f70r1 := rs Try.prog f70r1a
def f70r1_0 := mvE f70r1 0 1 8 12
def f70r1_1 := mvE f70r1 1 2 2 13
def f70r1_2 := biL f70r1 2 Try.prog 12 13 14 .lss 3
def f70n4_eq := nrE f70n4 f70r1 f70n5
noncomputable def f70n6 := nd Try.prog f70b [1,0,0,1]
noncomputable def f70n7 := nd Try.prog f70b [1,0,0,1,0]
noncomputable def f70n8 := nd Try.prog f70b [1,0,0,1,0,0]
noncomputable def f70n9 := nd Try.prog f70b [1,0,0,1,0,0,1]
noncomputable def f70L10 := nd Try.prog f70b [1,0,0,1,0,0,1,0]
noncomputable def f70n11 := nd Try.prog f70b [1,0,0,1,0,0,1,0,0]
noncomputable def f70n12 := nd Try.prog f70b [1,0,0,1,0,0,1,0,0,0]
noncomputable def f70n13 := nd Try.prog f70b [1,0,0,1,0,0,1,0,0,0,1]
def f70n13_eq := ncX f70n13 34 2
noncomputable def f70r4a := ra f70b [1,0,0,1,0,0,1,0,0,0,0]
noncomputable def f70r4 (i : Nat) : SP := opsQ Try.prog f70r4a (f70r4a.toList.drop i)
theorem f70r4wr : cutAt f70r4a = none := by kernel_rfl
theorem f70r4lex : Region.lexB .any f70r4a = true := by kernel_rfl
theorem f70r4my : manyB f70r4a = false := by kernel_rfl
def f70r4_0 := mvE f70r4 0 1 9 18
def f70r4_1 := mvE f70r4 1 2 1 19
def f70r4_2 := biE f70r4 2 3 Try.prog 18 19 20 .gtr 3
def f70r4_3 := mvE f70r4 3 4 20 21
def f70r4_4 := gmv f70r4 4 5 21 true 3 22
def f70r4_5 := gmv f70r4 5 6 21 true 0 23
def f70r4_6 := gmv f70r4 6 7 21 true 9 24
def f70r4_7 := gia f70r4 7 8 21 true 1 23 24 25
def f70r4_8 := gls f70r4 8 9 21 true 1 25 26
def f70r4_9 := gmv f70r4 9 10 21 true 0 27
def f70r4_10 := gmv f70r4 10 11 21 true 9 28
def f70r4_11 := gbn f70r4 11 12 21 true Try.prog 28 29 .sub 3 1
def f70r4_12 := gia f70r4 12 13 21 true 1 27 29 30
def f70r4_13 := gls f70r4 13 14 21 true 1 30 31
theorem f70r4_14 : Run (f70r4 14 K ⟨e, m⟩) = Run (gN e m (f70r4 15 K) 21 32 true fun e => withV (lk e 22) fun v1 => withVs (St.evs ⟨e, m⟩ [.tmp 26, .tmp 31]) fun vs => callQ Try.prog (some 32) v1 vs (f70r4 15 K) ⟨e, m⟩) := rk
def f70r4_15 := gbn f70r4 15 16 21 true Try.prog 32 33 .lss 3 0
def f70r4_16 := pfL f70r4 16 21 34 33
theorem f70n12_eq : Run (f70n12 Q s) = Run (f70r4 0 (f70n13 Q) s) := run_eq (Eq.trans (b := drawA Try.prog f70r4a (f70n13 Q) s) (by kernel_rfl) (Eq.trans (draw_q f70r4wr f70r4lex f70r4my) (by kernel_rfl)))
noncomputable def f70n14 := nd Try.prog f70b [1,0,0,1,0,0,1,0,0,1]
noncomputable def f70n15 := nd Try.prog f70b [1,0,0,1,0,0,1,0,0,1,0]
noncomputable def f70n16 := nd Try.prog f70b [1,0,0,1,0,0,1,0,0,1,0,0]
noncomputable def f70r6a := ra f70b [1,0,0,1,0,0,1,0,0,1,0,0]
noncomputable def f70r6w (id i : Nat) : SP := opsW Try.prog f70r6a 15 id i (f70r6a.toList.drop i)
noncomputable def f70r6x (i : Nat) : SP := opsX Try.prog (f70r6a.toList.drop i)
noncomputable def f70r6q (id i : Nat) : SP := opsL Try.prog f70r6a 15 id i ((f70r6a.toList.take 15).drop i)
theorem f70r6wr : cutAt f70r6a = some 15 := by kernel_rfl
theorem f70r6tl : (Region.lexTailB .any f70r6a 15 && (f70r6a.toList.take 15).all noCall) = false := by kernel_rfl
theorem f70r6mv : (lexMoveB .any f70r6a 15 && (f70r6a.toList.take 15).all noCall && tailB f70r6a 15) = false := by kernel_rfl
theorem f70r6cb : callB f70r6a 15 = false := by kernel_rfl
theorem f70r6so : stoB f70r6a 15 = true := by kernel_rfl
noncomputable def f70r6M : SP := movS Try.prog f70r6a 15
theorem f70r6_at (id : Nat) {K : St → Prop} {s : St} (h : Run (f70r6q id 0 (f70r6w id 15 K) s)) : Run (f70r6M K s) := Exists.intro id h
theorem f70r6_x (id : Nat) : Run (f70r6w id 16 K ⟨e, m⟩) = Run (f70r6x 16 K ⟨e, m⟩) := rk
theorem f70r6_0 (id : Nat) : Run (f70r6q id 0 K ⟨e, m⟩) = Run (mvT e m (f70r6q id 1 K) 0 37) := rk
theorem f70r6_1 (id : Nat) : Run (f70r6q id 1 K ⟨e, m⟩) = Run (mvT e m (f70r6q id 2 K) 9 38) := rk
theorem f70r6_2 (id : Nat) : Run (f70r6q id 2 K ⟨e, m⟩) = Run (withV (lk e 0) fun v1 => (fun x => d2K x (withV (lk e 0) fun v1 => (fun y => e2K x y (f70r6q id 3 K ⟨(39, x) :: e, m⟩)) v1)) v1) := rk
theorem f70r6_3 (id : Nat) : Run (f70r6q id 3 K ⟨e, m⟩) = Run (withV (lk e 9) fun v1 => (fun x => d2K x (withV (lk e 9) fun v1 => (fun y => e2K x y (f70r6q id 4 K ⟨(40, x) :: e, m⟩)) v1)) v1) := rk
theorem f70r6_4 (id : Nat) : Run (f70r6q id 4 K ⟨e, m⟩) = Run (withV (lk e 40) fun v1 => withV (some (.int .i64 1)) fun v2 => binA Try.prog .sub 3 v1 v2 (fun x => d2K x (withV (lk e 40) fun v1 => withV (some (.int .i64 1)) fun v2 => binA Try.prog .sub 3 v1 v2 (fun y => e2K x y (f70r6q id 5 K ⟨(41, x) :: e, m⟩))))) := rk
theorem f70r6_5 (id : Nat) : Run (f70r6q id 5 K ⟨e, m⟩) = Run (mvT e m (f70r6q id 6 K) 0 42) := rk
theorem f70r6_6 (id : Nat) : Run (f70r6q id 6 K ⟨e, m⟩) = Run (mvT e m (f70r6q id 7 K) 9 43) := rk
theorem f70r6_7 (id : Nat) : Run (f70r6q id 7 K ⟨e, m⟩) = Run (biC e m Try.prog (f70r6q id 8 K) 43 44 .sub 3 (.int .i64 1)) := rk
theorem f70r6_8 (id : Nat) : Run (f70r6q id 8 K ⟨e, m⟩) = Run (iaT e m (f70r6q id 9 K) 1 42 44 45) := rk
theorem f70r6_9 (id : Nat) : Run (f70r6q id 9 K ⟨e, m⟩) = Run (lsT e m (f70r6q id 10 K) 1 45 46) := rk
theorem f70r6_10 (id : Nat) : Run (f70r6q id 10 K ⟨e, m⟩) = Run (mvT e m (f70r6q id 11 K) 0 47) := rk
theorem f70r6_11 (id : Nat) : Run (f70r6q id 11 K ⟨e, m⟩) = Run (mvT e m (f70r6q id 12 K) 9 48) := rk
theorem f70r6_12 (id : Nat) : Run (f70r6q id 12 K ⟨e, m⟩) = Run (iaT e m (f70r6q id 13 K) 1 47 48 49) := rk
theorem f70r6_13 (id : Nat) : Run (f70r6q id 13 K ⟨e, m⟩) = Run (lsT e m (f70r6q id 14 K) 1 49 50) := rk
theorem f70r6_14 (id : Nat) : Run (f70r6q id 14 K ⟨e, m⟩) = Run (iaT e m K 1 37 38 51) := rk
theorem f70r6_15 (id : Nat) : Run (f70r6w id 15 K ⟨e, m⟩) = Run (withV (lk e 51) fun v1 => withV (lk e 46) fun v2 => stW m 1 id v1 v2 (fun m' => f70r6w id 16 K ⟨e, m'⟩)) := rk
theorem f70r6_16 : Run (f70r6x 16 K ⟨e, m⟩) = Run (iaT e m (f70r6x 17 K) 1 39 41 52) := rk
theorem f70r6_17 : Run (f70r6x 17 K ⟨e, m⟩) = Run (withV (lk e 52) fun v1 => withV (lk e 50) fun v2 => stK m 1 v1 v2 (fun m' => K ⟨e, m'⟩)) := rk
theorem f70n16_eq : Run (f70n16 Q s) = Run (f70r6M (Q .normal) s) := run_eq (Eq.trans (b := drawA Try.prog f70r6a (Q .normal) s) (by kernel_rfl) (Eq.trans (draw_late f70r6wr f70r6tl f70r6mv f70r6cb f70r6so) (by kernel_rfl)))
def f70n15_eq := nbE f70n15 f70n16 3
noncomputable def f70n17 := nd Try.prog f70b [1,0,0,1,0,0,1,0,0,1,1]
noncomputable def f70r5a := ra f70b [1,0,0,1,0,0,1,0,0,1,1]
noncomputable def f70r5 := rs Try.prog f70r5a
def f70r5_0 := mvE f70r5 0 1 9 35
def f70r5_1 := bnE f70r5 1 2 Try.prog 35 36 .sub 3 1
def f70r5_2 := mvL f70r5 2 36 9
def f70n17_eq := nrN f70n17 f70r5
def f70n14_eq := ntE f70n14 f70n15 f70n17
def f70n11_eq := ntE f70n11 f70n12 f70n14
theorem f70L10_is : LoopOf f70L10 f70n11 := ⟨Try.prog, subC f70b [1,0,0,1,0,0,1,0,0], by kernel_rfl, by kernel_rfl⟩
def f70n9_eq := nbE f70n9 f70L10 2
noncomputable def f70r3a := ra f70b [1,0,0,1,0,0,0]
noncomputable def f70r3 := rs Try.prog f70r3a
def f70r3_0 := mvE f70r3 0 1 8 17
def f70r3_1 := mvL f70r3 1 17 9
def f70n8_eq := nrE f70n8 f70r3 f70n9
def f70n7_eq := nbE f70n7 f70n8 1
noncomputable def f70n18 := nd Try.prog f70b [1,0,0,1,1]
noncomputable def f70r2a := ra f70b [1,0,0,1,1]
noncomputable def f70r2 := rs Try.prog f70r2a
def f70r2_0 := mvE f70r2 0 1 8 15
def f70r2_1 := bnE f70r2 1 2 Try.prog 15 16 .add 3 1
def f70r2_2 := mvL f70r2 2 16 8
def f70n18_eq := nrN f70n18 f70r2
def f70n6_eq := ntE f70n6 f70n7 f70n18
def f70n3_eq := ntE f70n3 f70n4 f70n6
theorem f70L2_is : LoopOf f70L2 f70n3 := ⟨Try.prog, subC f70b [1,0,0], by kernel_rfl, by kernel_rfl⟩
def f70n1_eq := nbE f70n1 f70L2 0
noncomputable def f70r0a := ra f70b [0]
noncomputable def f70r0 := rs Try.prog f70r0a
def f70r0_0 := mvE f70r0 0 1 1 10
def f70r0_1 := bnE f70r0 1 2 Try.prog 10 11 .add 3 1
def f70r0_2 := mvL f70r0 2 11 8
def f70n_eq := nrE f70n f70r0 f70n1
theorem f70_calls {xs : List AV} {rs : List RV} (hl : xs.length ≤ 53) (h : Run (f70n (retQ [] rs) ⟨argEnv 0 xs, []⟩)) : CallsTo Try.prog 70 xs rs :=
  callsTo_run (fn := Try.f70) (c := f70b) Try.func70 (by kernel_rfl) (by kernel_rfl) mixed (by kernel_rfl) 53 (by kernel_rfl) (by kernel_rfl) hl h
theorem f70_sorts {e k : Nat} {xs rest ys : List AV} (hl : rest.length + 1 ≤ 53) (hys : ∀ c ∈ flat ys, c.scal = true) (h : Run (f70n (sQ e k ys) ⟨argEnv 0 (.own 1000 :: rest), [(1000, .arr e k xs)]⟩)) : SortsTo Try.prog 70 e k xs rest ys :=
  sortsTo_run (fn := Try.f70) (c := f70b) Try.func70 (by kernel_rfl) (by kernel_rfl) mixed (by kernel_rfl) 53 (by kernel_rfl) (by kernel_rfl) hl (by decide) hys h
attribute [go_sem] f70n5_eq f70r1_0 f70r1_1 f70r1_2 f70n4_eq f70n13_eq f70r4_0 f70r4_1 f70r4_2 f70r4_3 f70r4_4 f70r4_5 f70r4_6 f70r4_7 f70r4_8 f70r4_9 f70r4_10 f70r4_11 f70r4_12 f70r4_13 f70r4_14 f70r4_15 f70r4_16 f70n12_eq f70r6_x f70r6_0 f70r6_1 f70r6_2 f70r6_3 f70r6_4 f70r6_5 f70r6_6 f70r6_7 f70r6_8 f70r6_9 f70r6_10 f70r6_11 f70r6_12 f70r6_13 f70r6_14
attribute [go_sem] f70r6_15 f70r6_16 f70r6_17 f70n16_eq f70n15_eq f70r5_0 f70r5_1 f70r5_2 f70n17_eq f70n14_eq f70n11_eq f70n9_eq f70r3_0 f70r3_1 f70n8_eq f70n7_eq f70r2_0 f70r2_1 f70r2_2 f70n18_eq f70n6_eq f70n3_eq f70n1_eq f70r0_0 f70r0_1 f70r0_2 f70n_eq
/-! ### slices.symMergeCmpFunc int  -/
noncomputable def f71b : Code := Try.f71.body.getD .skip
noncomputable def f71n : WP := wpA Try.prog f71b
noncomputable def f71n1 := nd Try.prog f71b [0]
noncomputable def f71n2 := nd Try.prog f71b [0,1]
noncomputable def f71n3 := nd Try.prog f71b [0,1,0]
noncomputable def f71n4 := nd Try.prog f71b [0,1,0,1]
noncomputable def f71n5 := nd Try.prog f71b [0,1,0,1,1]
noncomputable def f71n6 := nd Try.prog f71b [0,1,0,1,1,0]
noncomputable def f71L7 := nd Try.prog f71b [0,1,0,1,1,0,0]
noncomputable def f71n8 := nd Try.prog f71b [0,1,0,1,1,0,0,0]
noncomputable def f71n9 := nd Try.prog f71b [0,1,0,1,1,0,0,0,0]
noncomputable def f71n10 := nd Try.prog f71b [0,1,0,1,1,0,0,0,0,1]
def f71n10_eq := ncX f71n10 33 0
noncomputable def f71r3a := ra f71b [0,1,0,1,1,0,0,0,0,0]
noncomputable def f71r3 := rs Try.prog f71r3a
def f71r3_0 := mvE f71r3 0 1 10 31
def f71r3_1 := mvE f71r3 1 2 11 32
def f71r3_2 := biL f71r3 2 Try.prog 31 32 33 .lss 3
def f71n9_eq := nrE f71n9 f71r3 f71n10
noncomputable def f71n11 := nd Try.prog f71b [0,1,0,1,1,0,0,0,1]
noncomputable def f71n12 := nd Try.prog f71b [0,1,0,1,1,0,0,0,1,0]
noncomputable def f71n13 := nd Try.prog f71b [0,1,0,1,1,0,0,0,1,0,1]
noncomputable def f71n14 := nd Try.prog f71b [0,1,0,1,1,0,0,0,1,0,1,1]
noncomputable def f71n15 := nd Try.prog f71b [0,1,0,1,1,0,0,0,1,0,1,1,0]
noncomputable def f71r6a := ra f71b [0,1,0,1,1,0,0,0,1,0,1,1,0]
noncomputable def f71r6 := rs Try.prog f71r6a
def f71r6_0 := mvE f71r6 0 1 12 51
def f71r6_1 := bnE f71r6 1 2 Try.prog 51 52 .add 3 1
def f71r6_2 := mvL f71r6 2 52 10
def f71n15_eq := nrN f71n15 f71r6
noncomputable def f71n16 := nd Try.prog f71b [0,1,0,1,1,0,0,0,1,0,1,1,1]
noncomputable def f71r7a := ra f71b [0,1,0,1,1,0,0,0,1,0,1,1,1]
noncomputable def f71r7 := rs Try.prog f71r7a
def f71r7_0 := mvE f71r7 0 1 12 53
def f71r7_1 := mvL f71r7 1 53 11
def f71n16_eq := nrN f71n16 f71r7
def f71n14_eq := ncC f71n14 50 f71n15 f71n16
noncomputable def f71r5a := ra f71b [0,1,0,1,1,0,0,0,1,0,1,0]
noncomputable def f71r5 (i : Nat) : SP := opsQ Try.prog f71r5a (f71r5a.toList.drop i)
theorem f71r5wr : cutAt f71r5a = none := by kernel_rfl
theorem f71r5lex : Region.lexB .any f71r5a = true := by kernel_rfl
theorem f71r5my : manyB f71r5a = false := by kernel_rfl
def f71r5_0 := mvE f71r5 0 1 4 40
def f71r5_1 := mvE f71r5 1 2 0 41
def f71r5_2 := mvE f71r5 2 3 12 42
def f71r5_3 := iaE f71r5 3 4 1 41 42 43
def f71r5_4 := lsE f71r5 4 5 1 43 44
def f71r5_5 := mvE f71r5 5 6 0 45
def f71r5_6 := mvE f71r5 6 7 1 46
def f71r5_7 := iaE f71r5 7 8 1 45 46 47
def f71r5_8 := lsE f71r5 8 9 1 47 48
theorem f71r5_9 : Run (f71r5 9 K ⟨e, m⟩) = Run (withV (lk e 40) fun v1 => withVs (St.evs ⟨e, m⟩ [.tmp 44, .tmp 48]) fun vs => callQ Try.prog (some 49) v1 vs (f71r5 10 K) ⟨e, m⟩) := rk
def f71r5_10 := bnL f71r5 10 Try.prog 49 50 .lss 3 0
theorem f71n13_eq : Run (f71n13 Q s) = Run (f71r5 0 (f71n14 Q) s) := run_eq (Eq.trans (b := drawA Try.prog f71r5a (f71n14 Q) s) (by kernel_rfl) (Eq.trans (draw_q f71r5wr f71r5lex f71r5my) (by kernel_rfl)))
noncomputable def f71r4a := ra f71b [0,1,0,1,1,0,0,0,1,0,0]
noncomputable def f71r4 := rs Try.prog f71r4a
def f71r4_0 := mvE f71r4 0 1 10 34
def f71r4_1 := mvE f71r4 1 2 11 35
def f71r4_2 := biE f71r4 2 3 Try.prog 34 35 36 .add 3
theorem f71r4_3 : Run (f71r4 3 K ⟨e, m⟩) = Run (withV (lk e 36) fun v1 => convK (some .u64) false v1 (fun x => f71r4 4 K ⟨(37, x) :: e, m⟩)) := rk
def f71r4_4 := bcE f71r4 4 5 Try.prog 37 38 .shr 62 (.int .u64 1)
theorem f71r4_5 : Run (f71r4 5 K ⟨e, m⟩) = Run (withV (lk e 38) fun v1 => convK (some .i64) false v1 (fun x => f71r4 6 K ⟨(39, x) :: e, m⟩)) := rk
def f71r4_6 := mvL f71r4 6 39 12
def f71n12_eq := nrE f71n12 f71r4 f71n13
def f71n11_eq := nbE f71n11 f71n12 1
def f71n8_eq := ntE f71n8 f71n9 f71n11
theorem f71L7_is : LoopOf f71L7 f71n8 := ⟨Try.prog, subC f71b [0,1,0,1,1,0,0,0], by kernel_rfl, by kernel_rfl⟩
def f71n6_eq := nbE f71n6 f71L7 0
noncomputable def f71n17 := nd Try.prog f71b [0,1,0,1,1,1]
noncomputable def f71n18 := nd Try.prog f71b [0,1,0,1,1,1,0]
noncomputable def f71n19 := nd Try.prog f71b [0,1,0,1,1,1,0,1]
noncomputable def f71L20 := nd Try.prog f71b [0,1,0,1,1,1,0,1,0]
noncomputable def f71n21 := nd Try.prog f71b [0,1,0,1,1,1,0,1,0,0]
noncomputable def f71n22 := nd Try.prog f71b [0,1,0,1,1,1,0,1,0,0,0]
noncomputable def f71n23 := nd Try.prog f71b [0,1,0,1,1,1,0,1,0,0,0,1]
def f71n23_eq := ncX f71n23 58 2
noncomputable def f71r9a := ra f71b [0,1,0,1,1,1,0,1,0,0,0,0]
noncomputable def f71r9 := rs Try.prog f71r9a
def f71r9_0 := mvE f71r9 0 1 13 55
def f71r9_1 := mvE f71r9 1 2 10 56
def f71r9_2 := bnE f71r9 2 3 Try.prog 56 57 .sub 3 1
def f71r9_3 := biL f71r9 3 Try.prog 55 57 58 .lss 3
def f71n22_eq := nrE f71n22 f71r9 f71n23
noncomputable def f71n24 := nd Try.prog f71b [0,1,0,1,1,1,0,1,0,0,1]
noncomputable def f71n25 := nd Try.prog f71b [0,1,0,1,1,1,0,1,0,0,1,0]
noncomputable def f71n26 := nd Try.prog f71b [0,1,0,1,1,1,0,1,0,0,1,0,0]
noncomputable def f71r11a := ra f71b [0,1,0,1,1,1,0,1,0,0,1,0,0]
noncomputable def f71r11w (id i : Nat) : SP := opsW Try.prog f71r11a 15 id i (f71r11a.toList.drop i)
noncomputable def f71r11x (i : Nat) : SP := opsX Try.prog (f71r11a.toList.drop i)
noncomputable def f71r11q (id i : Nat) : SP := opsL Try.prog f71r11a 15 id i ((f71r11a.toList.take 15).drop i)
theorem f71r11wr : cutAt f71r11a = some 15 := by kernel_rfl
theorem f71r11tl : (Region.lexTailB .any f71r11a 15 && (f71r11a.toList.take 15).all noCall) = false := by kernel_rfl
theorem f71r11mv : (lexMoveB .any f71r11a 15 && (f71r11a.toList.take 15).all noCall && tailB f71r11a 15) = false := by kernel_rfl
theorem f71r11cb : callB f71r11a 15 = false := by kernel_rfl
theorem f71r11so : stoB f71r11a 15 = true := by kernel_rfl
noncomputable def f71r11M : SP := movS Try.prog f71r11a 15
theorem f71r11_at (id : Nat) {K : St → Prop} {s : St} (h : Run (f71r11q id 0 (f71r11w id 15 K) s)) : Run (f71r11M K s) := Exists.intro id h
theorem f71r11_x (id : Nat) : Run (f71r11w id 16 K ⟨e, m⟩) = Run (f71r11x 16 K ⟨e, m⟩) := rk
theorem f71r11_0 (id : Nat) : Run (f71r11q id 0 K ⟨e, m⟩) = Run (mvT e m (f71r11q id 1 K) 0 61) := rk
theorem f71r11_1 (id : Nat) : Run (f71r11q id 1 K ⟨e, m⟩) = Run (mvT e m (f71r11q id 2 K) 13 62) := rk
theorem f71r11_2 (id : Nat) : Run (f71r11q id 2 K ⟨e, m⟩) = Run (withV (lk e 0) fun v1 => (fun x => d2K x (withV (lk e 0) fun v1 => (fun y => e2K x y (f71r11q id 3 K ⟨(63, x) :: e, m⟩)) v1)) v1) := rk
theorem f71r11_3 (id : Nat) : Run (f71r11q id 3 K ⟨e, m⟩) = Run (withV (lk e 13) fun v1 => (fun x => d2K x (withV (lk e 13) fun v1 => (fun y => e2K x y (f71r11q id 4 K ⟨(64, x) :: e, m⟩)) v1)) v1) := rk
theorem f71r11_4 (id : Nat) : Run (f71r11q id 4 K ⟨e, m⟩) = Run (withV (lk e 64) fun v1 => withV (some (.int .i64 1)) fun v2 => binA Try.prog .add 3 v1 v2 (fun x => d2K x (withV (lk e 64) fun v1 => withV (some (.int .i64 1)) fun v2 => binA Try.prog .add 3 v1 v2 (fun y => e2K x y (f71r11q id 5 K ⟨(65, x) :: e, m⟩))))) := rk
theorem f71r11_5 (id : Nat) : Run (f71r11q id 5 K ⟨e, m⟩) = Run (mvT e m (f71r11q id 6 K) 0 66) := rk
theorem f71r11_6 (id : Nat) : Run (f71r11q id 6 K ⟨e, m⟩) = Run (mvT e m (f71r11q id 7 K) 13 67) := rk
theorem f71r11_7 (id : Nat) : Run (f71r11q id 7 K ⟨e, m⟩) = Run (biC e m Try.prog (f71r11q id 8 K) 67 68 .add 3 (.int .i64 1)) := rk
theorem f71r11_8 (id : Nat) : Run (f71r11q id 8 K ⟨e, m⟩) = Run (iaT e m (f71r11q id 9 K) 1 66 68 69) := rk
theorem f71r11_9 (id : Nat) : Run (f71r11q id 9 K ⟨e, m⟩) = Run (lsT e m (f71r11q id 10 K) 1 69 70) := rk
theorem f71r11_10 (id : Nat) : Run (f71r11q id 10 K ⟨e, m⟩) = Run (mvT e m (f71r11q id 11 K) 0 71) := rk
theorem f71r11_11 (id : Nat) : Run (f71r11q id 11 K ⟨e, m⟩) = Run (mvT e m (f71r11q id 12 K) 13 72) := rk
theorem f71r11_12 (id : Nat) : Run (f71r11q id 12 K ⟨e, m⟩) = Run (iaT e m (f71r11q id 13 K) 1 71 72 73) := rk
theorem f71r11_13 (id : Nat) : Run (f71r11q id 13 K ⟨e, m⟩) = Run (lsT e m (f71r11q id 14 K) 1 73 74) := rk
theorem f71r11_14 (id : Nat) : Run (f71r11q id 14 K ⟨e, m⟩) = Run (iaT e m K 1 61 62 75) := rk
theorem f71r11_15 (id : Nat) : Run (f71r11w id 15 K ⟨e, m⟩) = Run (withV (lk e 75) fun v1 => withV (lk e 70) fun v2 => stW m 1 id v1 v2 (fun m' => f71r11w id 16 K ⟨e, m'⟩)) := rk
theorem f71r11_16 : Run (f71r11x 16 K ⟨e, m⟩) = Run (iaT e m (f71r11x 17 K) 1 63 65 76) := rk
theorem f71r11_17 : Run (f71r11x 17 K ⟨e, m⟩) = Run (withV (lk e 76) fun v1 => withV (lk e 74) fun v2 => stK m 1 v1 v2 (fun m' => K ⟨e, m'⟩)) := rk
theorem f71n26_eq : Run (f71n26 Q s) = Run (f71r11M (Q .normal) s) := run_eq (Eq.trans (b := drawA Try.prog f71r11a (Q .normal) s) (by kernel_rfl) (Eq.trans (draw_late f71r11wr f71r11tl f71r11mv f71r11cb f71r11so) (by kernel_rfl)))
def f71n25_eq := nbE f71n25 f71n26 3
noncomputable def f71n27 := nd Try.prog f71b [0,1,0,1,1,1,0,1,0,0,1,1]
noncomputable def f71r10a := ra f71b [0,1,0,1,1,1,0,1,0,0,1,1]
noncomputable def f71r10 := rs Try.prog f71r10a
def f71r10_0 := mvE f71r10 0 1 13 59
def f71r10_1 := bnE f71r10 1 2 Try.prog 59 60 .add 3 1
def f71r10_2 := mvL f71r10 2 60 13
def f71n27_eq := nrN f71n27 f71r10
def f71n24_eq := ntE f71n24 f71n25 f71n27
def f71n21_eq := ntE f71n21 f71n22 f71n24
theorem f71L20_is : LoopOf f71L20 f71n21 := ⟨Try.prog, subC f71b [0,1,0,1,1,1,0,1,0,0], by kernel_rfl, by kernel_rfl⟩
def f71n19_eq := nbE f71n19 f71L20 2
noncomputable def f71r8a := ra f71b [0,1,0,1,1,1,0,0]
noncomputable def f71r8 := rs Try.prog f71r8a
def f71r8_0 := mvE f71r8 0 1 1 54
def f71r8_1 := mvL f71r8 1 54 13
def f71n18_eq := nrE f71n18 f71r8 f71n19
theorem f71n17_eq : Run (f71n17 Q s) = Run (f71n18 (thenA (Q .ret) Q) s) := rk
def f71n5_eq := ntE f71n5 f71n6 f71n17
noncomputable def f71r2a := ra f71b [0,1,0,1,0]
noncomputable def f71r2 := rs Try.prog f71r2a
def f71r2_0 := mvE f71r2 0 1 3 30
def f71r2_1 := mvL f71r2 1 30 11
def f71n4_eq := nrE f71n4 f71r2 f71n5
noncomputable def f71r1a := ra f71b [0,1,0,0]
noncomputable def f71r1 := rs Try.prog f71r1a
def f71r1_0 := mvE f71r1 0 1 2 29
def f71r1_1 := mvL f71r1 1 29 10
def f71n3_eq := nrE f71n3 f71r1 f71n4
def f71n2_eq := ncN f71n2 28 f71n3
noncomputable def f71r0a := ra f71b [0,0]
noncomputable def f71r0 := rs Try.prog f71r0a
def f71r0_0 := mvE f71r0 0 1 2 25
def f71r0_1 := mvE f71r0 1 2 1 26
def f71r0_2 := biE f71r0 2 3 Try.prog 25 26 27 .sub 3
def f71r0_3 := bnL f71r0 3 Try.prog 27 28 .eql 3 1
def f71n1_eq := nrE f71n1 f71r0 f71n2
noncomputable def f71n28 := nd Try.prog f71b [1]
noncomputable def f71n29 := nd Try.prog f71b [1,0]
noncomputable def f71n30 := nd Try.prog f71b [1,0,1]
noncomputable def f71n31 := nd Try.prog f71b [1,0,1,0]
noncomputable def f71n32 := nd Try.prog f71b [1,0,1,0,1]
noncomputable def f71n33 := nd Try.prog f71b [1,0,1,0,1,1]
noncomputable def f71n34 := nd Try.prog f71b [1,0,1,0,1,1,0]
noncomputable def f71L35 := nd Try.prog f71b [1,0,1,0,1,1,0,0]
noncomputable def f71n36 := nd Try.prog f71b [1,0,1,0,1,1,0,0,0]
noncomputable def f71n37 := nd Try.prog f71b [1,0,1,0,1,1,0,0,0,0]
noncomputable def f71n38 := nd Try.prog f71b [1,0,1,0,1,1,0,0,0,0,1]
def f71n38_eq := ncX f71n38 85 4
noncomputable def f71r15a := ra f71b [1,0,1,0,1,1,0,0,0,0,0]
noncomputable def f71r15 := rs Try.prog f71r15a
def f71r15_0 := mvE f71r15 0 1 14 83
def f71r15_1 := mvE f71r15 1 2 15 84
def f71r15_2 := biL f71r15 2 Try.prog 83 84 85 .lss 3
def f71n37_eq := nrE f71n37 f71r15 f71n38
noncomputable def f71n39 := nd Try.prog f71b [1,0,1,0,1,1,0,0,0,1]
noncomputable def f71n40 := nd Try.prog f71b [1,0,1,0,1,1,0,0,0,1,0]
noncomputable def f71n41 := nd Try.prog f71b [1,0,1,0,1,1,0,0,0,1,0,1]
noncomputable def f71n42 := nd Try.prog f71b [1,0,1,0,1,1,0,0,0,1,0,1,1]
noncomputable def f71n43 := nd Try.prog f71b [1,0,1,0,1,1,0,0,0,1,0,1,1,0]
noncomputable def f71r18a := ra f71b [1,0,1,0,1,1,0,0,0,1,0,1,1,0]
noncomputable def f71r18 := rs Try.prog f71r18a
def f71r18_0 := mvE f71r18 0 1 16 104
def f71r18_1 := bnE f71r18 1 2 Try.prog 104 105 .add 3 1
def f71r18_2 := mvL f71r18 2 105 14
def f71n43_eq := nrN f71n43 f71r18
noncomputable def f71n44 := nd Try.prog f71b [1,0,1,0,1,1,0,0,0,1,0,1,1,1]
noncomputable def f71r19a := ra f71b [1,0,1,0,1,1,0,0,0,1,0,1,1,1]
noncomputable def f71r19 := rs Try.prog f71r19a
def f71r19_0 := mvE f71r19 0 1 16 106
def f71r19_1 := mvL f71r19 1 106 15
def f71n44_eq := nrN f71n44 f71r19
def f71n42_eq := ncC f71n42 103 f71n43 f71n44
noncomputable def f71r17a := ra f71b [1,0,1,0,1,1,0,0,0,1,0,1,0]
noncomputable def f71r17 (i : Nat) : SP := opsQ Try.prog f71r17a (f71r17a.toList.drop i)
theorem f71r17wr : cutAt f71r17a = none := by kernel_rfl
theorem f71r17lex : Region.lexB .any f71r17a = true := by kernel_rfl
theorem f71r17my : manyB f71r17a = false := by kernel_rfl
def f71r17_0 := mvE f71r17 0 1 4 92
def f71r17_1 := mvE f71r17 1 2 0 93
def f71r17_2 := mvE f71r17 2 3 2 94
def f71r17_3 := iaE f71r17 3 4 1 93 94 95
def f71r17_4 := lsE f71r17 4 5 1 95 96
def f71r17_5 := mvE f71r17 5 6 0 97
def f71r17_6 := mvE f71r17 6 7 16 98
def f71r17_7 := iaE f71r17 7 8 1 97 98 99
def f71r17_8 := lsE f71r17 8 9 1 99 100
theorem f71r17_9 : Run (f71r17 9 K ⟨e, m⟩) = Run (withV (lk e 92) fun v1 => withVs (St.evs ⟨e, m⟩ [.tmp 96, .tmp 100]) fun vs => callQ Try.prog (some 101) v1 vs (f71r17 10 K) ⟨e, m⟩) := rk
def f71r17_10 := bnE f71r17 10 11 Try.prog 101 102 .lss 3 0
def f71r17_11 := noL f71r17 11 102 103
theorem f71n41_eq : Run (f71n41 Q s) = Run (f71r17 0 (f71n42 Q) s) := run_eq (Eq.trans (b := drawA Try.prog f71r17a (f71n42 Q) s) (by kernel_rfl) (Eq.trans (draw_q f71r17wr f71r17lex f71r17my) (by kernel_rfl)))
noncomputable def f71r16a := ra f71b [1,0,1,0,1,1,0,0,0,1,0,0]
noncomputable def f71r16 := rs Try.prog f71r16a
def f71r16_0 := mvE f71r16 0 1 14 86
def f71r16_1 := mvE f71r16 1 2 15 87
def f71r16_2 := biE f71r16 2 3 Try.prog 86 87 88 .add 3
theorem f71r16_3 : Run (f71r16 3 K ⟨e, m⟩) = Run (withV (lk e 88) fun v1 => convK (some .u64) false v1 (fun x => f71r16 4 K ⟨(89, x) :: e, m⟩)) := rk
def f71r16_4 := bcE f71r16 4 5 Try.prog 89 90 .shr 62 (.int .u64 1)
theorem f71r16_5 : Run (f71r16 5 K ⟨e, m⟩) = Run (withV (lk e 90) fun v1 => convK (some .i64) false v1 (fun x => f71r16 6 K ⟨(91, x) :: e, m⟩)) := rk
def f71r16_6 := mvL f71r16 6 91 16
def f71n40_eq := nrE f71n40 f71r16 f71n41
def f71n39_eq := nbE f71n39 f71n40 5
def f71n36_eq := ntE f71n36 f71n37 f71n39
theorem f71L35_is : LoopOf f71L35 f71n36 := ⟨Try.prog, subC f71b [1,0,1,0,1,1,0,0,0], by kernel_rfl, by kernel_rfl⟩
def f71n34_eq := nbE f71n34 f71L35 4
noncomputable def f71n45 := nd Try.prog f71b [1,0,1,0,1,1,1]
noncomputable def f71n46 := nd Try.prog f71b [1,0,1,0,1,1,1,0]
noncomputable def f71n47 := nd Try.prog f71b [1,0,1,0,1,1,1,0,1]
noncomputable def f71L48 := nd Try.prog f71b [1,0,1,0,1,1,1,0,1,0]
noncomputable def f71n49 := nd Try.prog f71b [1,0,1,0,1,1,1,0,1,0,0]
noncomputable def f71n50 := nd Try.prog f71b [1,0,1,0,1,1,1,0,1,0,0,0]
noncomputable def f71n51 := nd Try.prog f71b [1,0,1,0,1,1,1,0,1,0,0,0,1]
def f71n51_eq := ncX f71n51 110 6
noncomputable def f71r21a := ra f71b [1,0,1,0,1,1,1,0,1,0,0,0,0]
noncomputable def f71r21 := rs Try.prog f71r21a
def f71r21_0 := mvE f71r21 0 1 17 108
def f71r21_1 := mvE f71r21 1 2 14 109
def f71r21_2 := biL f71r21 2 Try.prog 108 109 110 .gtr 3
def f71n50_eq := nrE f71n50 f71r21 f71n51
noncomputable def f71n52 := nd Try.prog f71b [1,0,1,0,1,1,1,0,1,0,0,1]
noncomputable def f71n53 := nd Try.prog f71b [1,0,1,0,1,1,1,0,1,0,0,1,0]
noncomputable def f71n54 := nd Try.prog f71b [1,0,1,0,1,1,1,0,1,0,0,1,0,0]
noncomputable def f71r23a := ra f71b [1,0,1,0,1,1,1,0,1,0,0,1,0,0]
noncomputable def f71r23w (id i : Nat) : SP := opsW Try.prog f71r23a 15 id i (f71r23a.toList.drop i)
noncomputable def f71r23x (i : Nat) : SP := opsX Try.prog (f71r23a.toList.drop i)
noncomputable def f71r23q (id i : Nat) : SP := opsL Try.prog f71r23a 15 id i ((f71r23a.toList.take 15).drop i)
theorem f71r23wr : cutAt f71r23a = some 15 := by kernel_rfl
theorem f71r23tl : (Region.lexTailB .any f71r23a 15 && (f71r23a.toList.take 15).all noCall) = false := by kernel_rfl
theorem f71r23mv : (lexMoveB .any f71r23a 15 && (f71r23a.toList.take 15).all noCall && tailB f71r23a 15) = false := by kernel_rfl
theorem f71r23cb : callB f71r23a 15 = false := by kernel_rfl
theorem f71r23so : stoB f71r23a 15 = true := by kernel_rfl
noncomputable def f71r23M : SP := movS Try.prog f71r23a 15
theorem f71r23_at (id : Nat) {K : St → Prop} {s : St} (h : Run (f71r23q id 0 (f71r23w id 15 K) s)) : Run (f71r23M K s) := Exists.intro id h
theorem f71r23_x (id : Nat) : Run (f71r23w id 16 K ⟨e, m⟩) = Run (f71r23x 16 K ⟨e, m⟩) := rk
theorem f71r23_0 (id : Nat) : Run (f71r23q id 0 K ⟨e, m⟩) = Run (mvT e m (f71r23q id 1 K) 0 113) := rk
theorem f71r23_1 (id : Nat) : Run (f71r23q id 1 K ⟨e, m⟩) = Run (mvT e m (f71r23q id 2 K) 17 114) := rk
theorem f71r23_2 (id : Nat) : Run (f71r23q id 2 K ⟨e, m⟩) = Run (withV (lk e 0) fun v1 => (fun x => d2K x (withV (lk e 0) fun v1 => (fun y => e2K x y (f71r23q id 3 K ⟨(115, x) :: e, m⟩)) v1)) v1) := rk
theorem f71r23_3 (id : Nat) : Run (f71r23q id 3 K ⟨e, m⟩) = Run (withV (lk e 17) fun v1 => (fun x => d2K x (withV (lk e 17) fun v1 => (fun y => e2K x y (f71r23q id 4 K ⟨(116, x) :: e, m⟩)) v1)) v1) := rk
theorem f71r23_4 (id : Nat) : Run (f71r23q id 4 K ⟨e, m⟩) = Run (withV (lk e 116) fun v1 => withV (some (.int .i64 1)) fun v2 => binA Try.prog .sub 3 v1 v2 (fun x => d2K x (withV (lk e 116) fun v1 => withV (some (.int .i64 1)) fun v2 => binA Try.prog .sub 3 v1 v2 (fun y => e2K x y (f71r23q id 5 K ⟨(117, x) :: e, m⟩))))) := rk
theorem f71r23_5 (id : Nat) : Run (f71r23q id 5 K ⟨e, m⟩) = Run (mvT e m (f71r23q id 6 K) 0 118) := rk
theorem f71r23_6 (id : Nat) : Run (f71r23q id 6 K ⟨e, m⟩) = Run (mvT e m (f71r23q id 7 K) 17 119) := rk
theorem f71r23_7 (id : Nat) : Run (f71r23q id 7 K ⟨e, m⟩) = Run (biC e m Try.prog (f71r23q id 8 K) 119 120 .sub 3 (.int .i64 1)) := rk
theorem f71r23_8 (id : Nat) : Run (f71r23q id 8 K ⟨e, m⟩) = Run (iaT e m (f71r23q id 9 K) 1 118 120 121) := rk
theorem f71r23_9 (id : Nat) : Run (f71r23q id 9 K ⟨e, m⟩) = Run (lsT e m (f71r23q id 10 K) 1 121 122) := rk
theorem f71r23_10 (id : Nat) : Run (f71r23q id 10 K ⟨e, m⟩) = Run (mvT e m (f71r23q id 11 K) 0 123) := rk
theorem f71r23_11 (id : Nat) : Run (f71r23q id 11 K ⟨e, m⟩) = Run (mvT e m (f71r23q id 12 K) 17 124) := rk
theorem f71r23_12 (id : Nat) : Run (f71r23q id 12 K ⟨e, m⟩) = Run (iaT e m (f71r23q id 13 K) 1 123 124 125) := rk
theorem f71r23_13 (id : Nat) : Run (f71r23q id 13 K ⟨e, m⟩) = Run (lsT e m (f71r23q id 14 K) 1 125 126) := rk
theorem f71r23_14 (id : Nat) : Run (f71r23q id 14 K ⟨e, m⟩) = Run (iaT e m K 1 113 114 127) := rk
theorem f71r23_15 (id : Nat) : Run (f71r23w id 15 K ⟨e, m⟩) = Run (withV (lk e 127) fun v1 => withV (lk e 122) fun v2 => stW m 1 id v1 v2 (fun m' => f71r23w id 16 K ⟨e, m'⟩)) := rk
theorem f71r23_16 : Run (f71r23x 16 K ⟨e, m⟩) = Run (iaT e m (f71r23x 17 K) 1 115 117 128) := rk
theorem f71r23_17 : Run (f71r23x 17 K ⟨e, m⟩) = Run (withV (lk e 128) fun v1 => withV (lk e 126) fun v2 => stK m 1 v1 v2 (fun m' => K ⟨e, m'⟩)) := rk
theorem f71n54_eq : Run (f71n54 Q s) = Run (f71r23M (Q .normal) s) := run_eq (Eq.trans (b := drawA Try.prog f71r23a (Q .normal) s) (by kernel_rfl) (Eq.trans (draw_late f71r23wr f71r23tl f71r23mv f71r23cb f71r23so) (by kernel_rfl)))
def f71n53_eq := nbE f71n53 f71n54 7
noncomputable def f71n55 := nd Try.prog f71b [1,0,1,0,1,1,1,0,1,0,0,1,1]
noncomputable def f71r22a := ra f71b [1,0,1,0,1,1,1,0,1,0,0,1,1]
noncomputable def f71r22 := rs Try.prog f71r22a
def f71r22_0 := mvE f71r22 0 1 17 111
def f71r22_1 := bnE f71r22 1 2 Try.prog 111 112 .sub 3 1
def f71r22_2 := mvL f71r22 2 112 17
def f71n55_eq := nrN f71n55 f71r22
def f71n52_eq := ntE f71n52 f71n53 f71n55
def f71n49_eq := ntE f71n49 f71n50 f71n52
theorem f71L48_is : LoopOf f71L48 f71n49 := ⟨Try.prog, subC f71b [1,0,1,0,1,1,1,0,1,0,0], by kernel_rfl, by kernel_rfl⟩
def f71n47_eq := nbE f71n47 f71L48 6
noncomputable def f71r20a := ra f71b [1,0,1,0,1,1,1,0,0]
noncomputable def f71r20 := rs Try.prog f71r20a
def f71r20_0 := mvE f71r20 0 1 2 107
def f71r20_1 := mvL f71r20 1 107 17
def f71n46_eq := nrE f71n46 f71r20 f71n47
theorem f71n45_eq : Run (f71n45 Q s) = Run (f71n46 (thenA (Q .ret) Q) s) := rk
def f71n33_eq := ntE f71n33 f71n34 f71n45
noncomputable def f71r14a := ra f71b [1,0,1,0,1,0]
noncomputable def f71r14 := rs Try.prog f71r14a
def f71r14_0 := mvE f71r14 0 1 2 82
def f71r14_1 := mvL f71r14 1 82 15
def f71n32_eq := nrE f71n32 f71r14 f71n33
noncomputable def f71r13a := ra f71b [1,0,1,0,0]
noncomputable def f71r13 := rs Try.prog f71r13a
def f71r13_0 := mvE f71r13 0 1 1 81
def f71r13_1 := mvL f71r13 1 81 14
def f71n31_eq := nrE f71n31 f71r13 f71n32
def f71n30_eq := ncN f71n30 80 f71n31
noncomputable def f71r12a := ra f71b [1,0,0]
noncomputable def f71r12 := rs Try.prog f71r12a
def f71r12_0 := mvE f71r12 0 1 3 77
def f71r12_1 := mvE f71r12 1 2 2 78
def f71r12_2 := biE f71r12 2 3 Try.prog 77 78 79 .sub 3
def f71r12_3 := bnL f71r12 3 Try.prog 79 80 .eql 3 1
def f71n29_eq := nrE f71n29 f71r12 f71n30
noncomputable def f71n56 := nd Try.prog f71b [1,1]
noncomputable def f71n57 := nd Try.prog f71b [1,1,1]
noncomputable def f71n58 := nd Try.prog f71b [1,1,1,1]
noncomputable def f71n59 := nd Try.prog f71b [1,1,1,1,1]
noncomputable def f71n60 := nd Try.prog f71b [1,1,1,1,1,0]
noncomputable def f71n61 := nd Try.prog f71b [1,1,1,1,1,0,1]
noncomputable def f71n62 := nd Try.prog f71b [1,1,1,1,1,0,1,0]
noncomputable def f71n63 := nd Try.prog f71b [1,1,1,1,1,0,1,0,1]
noncomputable def f71r29a := ra f71b [1,1,1,1,1,0,1,0,1]
noncomputable def f71r29 := rs Try.prog f71r29a
def f71r29_0 := mvE f71r29 0 1 18 144
def f71r29_1 := mvL f71r29 1 144 21
def f71n63_eq := nrN f71n63 f71r29
noncomputable def f71r28a := ra f71b [1,1,1,1,1,0,1,0,0]
noncomputable def f71r28 := rs Try.prog f71r28a
def f71r28_0 := mvE f71r28 0 1 19 141
def f71r28_1 := mvE f71r28 1 2 3 142
def f71r28_2 := biE f71r28 2 3 Try.prog 141 142 143 .sub 3
def f71r28_3 := mvL f71r28 3 143 20
def f71n62_eq := nrE f71n62 f71r28 f71n63
noncomputable def f71n64 := nd Try.prog f71b [1,1,1,1,1,0,1,1]
noncomputable def f71n65 := nd Try.prog f71b [1,1,1,1,1,0,1,1,1]
noncomputable def f71r31a := ra f71b [1,1,1,1,1,0,1,1,1]
noncomputable def f71r31 := rs Try.prog f71r31a
def f71r31_0 := mvE f71r31 0 1 2 146
def f71r31_1 := mvL f71r31 1 146 21
def f71n65_eq := nrN f71n65 f71r31
noncomputable def f71r30a := ra f71b [1,1,1,1,1,0,1,1,0]
noncomputable def f71r30 := rs Try.prog f71r30a
def f71r30_0 := mvE f71r30 0 1 1 145
def f71r30_1 := mvL f71r30 1 145 20
def f71n64_eq := nrE f71n64 f71r30 f71n65
def f71n61_eq := ncC f71n61 140 f71n62 f71n64
noncomputable def f71r27a := ra f71b [1,1,1,1,1,0,0]
noncomputable def f71r27 := rs Try.prog f71r27a
def f71r27_0 := mvE f71r27 0 1 2 138
def f71r27_1 := mvE f71r27 1 2 18 139
def f71r27_2 := biL f71r27 2 Try.prog 138 139 140 .gtr 3
def f71n60_eq := nrE f71n60 f71r27 f71n61
noncomputable def f71n66 := nd Try.prog f71b [1,1,1,1,1,1]
noncomputable def f71n67 := nd Try.prog f71b [1,1,1,1,1,1,1]
noncomputable def f71n68 := nd Try.prog f71b [1,1,1,1,1,1,1,0]
noncomputable def f71L69 := nd Try.prog f71b [1,1,1,1,1,1,1,0,0]
noncomputable def f71n70 := nd Try.prog f71b [1,1,1,1,1,1,1,0,0,0]
noncomputable def f71n71 := nd Try.prog f71b [1,1,1,1,1,1,1,0,0,0,0]
noncomputable def f71n72 := nd Try.prog f71b [1,1,1,1,1,1,1,0,0,0,0,1]
def f71n72_eq := ncX f71n72 151 8
noncomputable def f71r33a := ra f71b [1,1,1,1,1,1,1,0,0,0,0,0]
noncomputable def f71r33 := rs Try.prog f71r33a
def f71r33_0 := mvE f71r33 0 1 20 149
def f71r33_1 := mvE f71r33 1 2 21 150
def f71r33_2 := biL f71r33 2 Try.prog 149 150 151 .lss 3
def f71n71_eq := nrE f71n71 f71r33 f71n72
noncomputable def f71n73 := nd Try.prog f71b [1,1,1,1,1,1,1,0,0,0,1]
noncomputable def f71n74 := nd Try.prog f71b [1,1,1,1,1,1,1,0,0,0,1,0]
noncomputable def f71n75 := nd Try.prog f71b [1,1,1,1,1,1,1,0,0,0,1,0,1]
noncomputable def f71n76 := nd Try.prog f71b [1,1,1,1,1,1,1,0,0,0,1,0,1,1]
noncomputable def f71n77 := nd Try.prog f71b [1,1,1,1,1,1,1,0,0,0,1,0,1,1,0]
noncomputable def f71r36a := ra f71b [1,1,1,1,1,1,1,0,0,0,1,0,1,1,0]
noncomputable def f71r36 := rs Try.prog f71r36a
def f71r36_0 := mvE f71r36 0 1 23 172
def f71r36_1 := bnE f71r36 1 2 Try.prog 172 173 .add 3 1
def f71r36_2 := mvL f71r36 2 173 20
def f71n77_eq := nrN f71n77 f71r36
noncomputable def f71n78 := nd Try.prog f71b [1,1,1,1,1,1,1,0,0,0,1,0,1,1,1]
noncomputable def f71r37a := ra f71b [1,1,1,1,1,1,1,0,0,0,1,0,1,1,1]
noncomputable def f71r37 := rs Try.prog f71r37a
def f71r37_0 := mvE f71r37 0 1 23 174
def f71r37_1 := mvL f71r37 1 174 21
def f71n78_eq := nrN f71n78 f71r37
def f71n76_eq := ncC f71n76 171 f71n77 f71n78
noncomputable def f71r35a := ra f71b [1,1,1,1,1,1,1,0,0,0,1,0,1,0]
noncomputable def f71r35 (i : Nat) : SP := opsQ Try.prog f71r35a (f71r35a.toList.drop i)
theorem f71r35wr : cutAt f71r35a = none := by kernel_rfl
theorem f71r35lex : Region.lexB .any f71r35a = true := by kernel_rfl
theorem f71r35my : manyB f71r35a = false := by kernel_rfl
def f71r35_0 := mvE f71r35 0 1 4 158
def f71r35_1 := mvE f71r35 1 2 0 159
def f71r35_2 := mvE f71r35 2 3 22 160
def f71r35_3 := mvE f71r35 3 4 23 161
def f71r35_4 := biE f71r35 4 5 Try.prog 160 161 162 .sub 3
def f71r35_5 := iaE f71r35 5 6 1 159 162 163
def f71r35_6 := lsE f71r35 6 7 1 163 164
def f71r35_7 := mvE f71r35 7 8 0 165
def f71r35_8 := mvE f71r35 8 9 23 166
def f71r35_9 := iaE f71r35 9 10 1 165 166 167
def f71r35_10 := lsE f71r35 10 11 1 167 168
theorem f71r35_11 : Run (f71r35 11 K ⟨e, m⟩) = Run (withV (lk e 158) fun v1 => withVs (St.evs ⟨e, m⟩ [.tmp 164, .tmp 168]) fun vs => callQ Try.prog (some 169) v1 vs (f71r35 12 K) ⟨e, m⟩) := rk
def f71r35_12 := bnE f71r35 12 13 Try.prog 169 170 .lss 3 0
def f71r35_13 := noL f71r35 13 170 171
theorem f71n75_eq : Run (f71n75 Q s) = Run (f71r35 0 (f71n76 Q) s) := run_eq (Eq.trans (b := drawA Try.prog f71r35a (f71n76 Q) s) (by kernel_rfl) (Eq.trans (draw_q f71r35wr f71r35lex f71r35my) (by kernel_rfl)))
noncomputable def f71r34a := ra f71b [1,1,1,1,1,1,1,0,0,0,1,0,0]
noncomputable def f71r34 := rs Try.prog f71r34a
def f71r34_0 := mvE f71r34 0 1 20 152
def f71r34_1 := mvE f71r34 1 2 21 153
def f71r34_2 := biE f71r34 2 3 Try.prog 152 153 154 .add 3
theorem f71r34_3 : Run (f71r34 3 K ⟨e, m⟩) = Run (withV (lk e 154) fun v1 => convK (some .u64) false v1 (fun x => f71r34 4 K ⟨(155, x) :: e, m⟩)) := rk
def f71r34_4 := bcE f71r34 4 5 Try.prog 155 156 .shr 62 (.int .u64 1)
theorem f71r34_5 : Run (f71r34 5 K ⟨e, m⟩) = Run (withV (lk e 156) fun v1 => convK (some .i64) false v1 (fun x => f71r34 6 K ⟨(157, x) :: e, m⟩)) := rk
def f71r34_6 := mvL f71r34 6 157 23
def f71n74_eq := nrE f71n74 f71r34 f71n75
def f71n73_eq := nbE f71n73 f71n74 9
def f71n70_eq := ntE f71n70 f71n71 f71n73
theorem f71L69_is : LoopOf f71L69 f71n70 := ⟨Try.prog, subC f71b [1,1,1,1,1,1,1,0,0,0], by kernel_rfl, by kernel_rfl⟩
def f71n68_eq := nbE f71n68 f71L69 8
noncomputable def f71n79 := nd Try.prog f71b [1,1,1,1,1,1,1,1]
noncomputable def f71n80 := nd Try.prog f71b [1,1,1,1,1,1,1,1,1]
noncomputable def f71n81 := nd Try.prog f71b [1,1,1,1,1,1,1,1,1,0]
noncomputable def f71n82 := nd Try.prog f71b [1,1,1,1,1,1,1,1,1,0,1]
noncomputable def f71n83 := nd Try.prog f71b [1,1,1,1,1,1,1,1,1,0,1,0]
noncomputable def f71r40a := ra f71b [1,1,1,1,1,1,1,1,1,0,1,0]
noncomputable def f71r40 := rs Try.prog f71r40a
def f71r40_0 := mvE f71r40 0 1 0 186
def f71r40_1 := mvE f71r40 1 2 20 187
def f71r40_2 := mvE f71r40 2 3 2 188
def f71r40_3 := mvE f71r40 3 4 24 189
def f71r40_4 := mvE f71r40 4 5 4 190
def f71r40_5 := clL f71r40 5 Try.prog 191 76 [.tmp 186, .tmp 187, .tmp 188, .tmp 189, .tmp 190]
def f71n83_eq := nrN f71n83 f71r40
def f71n82_eq := ncN f71n82 185 f71n83
noncomputable def f71r39a := ra f71b [1,1,1,1,1,1,1,1,1,0,0]
noncomputable def f71r39 := rs Try.prog f71r39a
def f71r39_0 := mvE f71r39 0 1 20 178
def f71r39_1 := mvE f71r39 1 2 2 179
def f71r39_2 := biE f71r39 2 3 Try.prog 178 179 180 .lss 3
def f71r39_3 := mvE f71r39 3 4 180 181
def f71r39_4 := gmv f71r39 4 5 181 true 2 182
def f71r39_5 := gmv f71r39 5 6 181 true 24 183
def f71r39_6 := gbi f71r39 6 7 181 true Try.prog 182 183 184 .lss 3
def f71r39_7 := pfL f71r39 7 181 185 184
def f71n81_eq := nrE f71n81 f71r39 f71n82
noncomputable def f71n84 := nd Try.prog f71b [1,1,1,1,1,1,1,1,1,1]
noncomputable def f71n85 := nd Try.prog f71b [1,1,1,1,1,1,1,1,1,1,0]
noncomputable def f71n86 := nd Try.prog f71b [1,1,1,1,1,1,1,1,1,1,0,1]
noncomputable def f71n87 := nd Try.prog f71b [1,1,1,1,1,1,1,1,1,1,0,1,0]
noncomputable def f71r42a := ra f71b [1,1,1,1,1,1,1,1,1,1,0,1,0]
noncomputable def f71r42 := rs Try.prog f71r42a
def f71r42_0 := mvE f71r42 0 1 0 200
def f71r42_1 := mvE f71r42 1 2 1 201
def f71r42_2 := mvE f71r42 2 3 20 202
def f71r42_3 := mvE f71r42 3 4 18 203
def f71r42_4 := mvE f71r42 4 5 4 204
def f71r42_5 := clL f71r42 5 Try.prog 205 71 [.tmp 200, .tmp 201, .tmp 202, .tmp 203, .tmp 204]
def f71n87_eq := nrN f71n87 f71r42
def f71n86_eq := ncN f71n86 199 f71n87
noncomputable def f71r41a := ra f71b [1,1,1,1,1,1,1,1,1,1,0,0]
noncomputable def f71r41 := rs Try.prog f71r41a
def f71r41_0 := mvE f71r41 0 1 1 192
def f71r41_1 := mvE f71r41 1 2 20 193
def f71r41_2 := biE f71r41 2 3 Try.prog 192 193 194 .lss 3
def f71r41_3 := mvE f71r41 3 4 194 195
def f71r41_4 := gmv f71r41 4 5 195 true 20 196
def f71r41_5 := gmv f71r41 5 6 195 true 18 197
def f71r41_6 := gbi f71r41 6 7 195 true Try.prog 196 197 198 .lss 3
def f71r41_7 := pfL f71r41 7 195 199 198
def f71n85_eq := nrE f71n85 f71r41 f71n86
noncomputable def f71n88 := nd Try.prog f71b [1,1,1,1,1,1,1,1,1,1,1]
noncomputable def f71n89 := nd Try.prog f71b [1,1,1,1,1,1,1,1,1,1,1,1]
noncomputable def f71n90 := nd Try.prog f71b [1,1,1,1,1,1,1,1,1,1,1,1,0]
noncomputable def f71r44a := ra f71b [1,1,1,1,1,1,1,1,1,1,1,1,0]
noncomputable def f71r44 := rs Try.prog f71r44a
def f71r44_0 := mvE f71r44 0 1 0 214
def f71r44_1 := mvE f71r44 1 2 18 215
def f71r44_2 := mvE f71r44 2 3 24 216
def f71r44_3 := mvE f71r44 3 4 3 217
def f71r44_4 := mvE f71r44 4 5 4 218
def f71r44_5 := clL f71r44 5 Try.prog 219 71 [.tmp 214, .tmp 215, .tmp 216, .tmp 217, .tmp 218]
def f71n90_eq := nrN f71n90 f71r44
def f71n89_eq := ncN f71n89 213 f71n90
noncomputable def f71r43a := ra f71b [1,1,1,1,1,1,1,1,1,1,1,0]
noncomputable def f71r43 := rs Try.prog f71r43a
def f71r43_0 := mvE f71r43 0 1 18 206
def f71r43_1 := mvE f71r43 1 2 24 207
def f71r43_2 := biE f71r43 2 3 Try.prog 206 207 208 .lss 3
def f71r43_3 := mvE f71r43 3 4 208 209
def f71r43_4 := gmv f71r43 4 5 209 true 24 210
def f71r43_5 := gmv f71r43 5 6 209 true 3 211
def f71r43_6 := gbi f71r43 6 7 209 true Try.prog 210 211 212 .lss 3
def f71r43_7 := pfL f71r43 7 209 213 212
def f71n88_eq := nrE f71n88 f71r43 f71n89
def f71n84_eq := ntE f71n84 f71n85 f71n88
def f71n80_eq := ntE f71n80 f71n81 f71n84
noncomputable def f71r38a := ra f71b [1,1,1,1,1,1,1,1,0]
noncomputable def f71r38 := rs Try.prog f71r38a
def f71r38_0 := mvE f71r38 0 1 19 175
def f71r38_1 := mvE f71r38 1 2 20 176
def f71r38_2 := biE f71r38 2 3 Try.prog 175 176 177 .sub 3
def f71r38_3 := mvL f71r38 3 177 24
def f71n79_eq := nrE f71n79 f71r38 f71n80
def f71n67_eq := ntE f71n67 f71n68 f71n79
noncomputable def f71r32a := ra f71b [1,1,1,1,1,1,0]
noncomputable def f71r32 := rs Try.prog f71r32a
def f71r32_0 := mvE f71r32 0 1 19 147
def f71r32_1 := bnE f71r32 1 2 Try.prog 147 148 .sub 3 1
def f71r32_2 := mvL f71r32 2 148 22
def f71n66_eq := nrE f71n66 f71r32 f71n67
def f71n59_eq := ntE f71n59 f71n60 f71n66
noncomputable def f71r26a := ra f71b [1,1,1,1,0]
noncomputable def f71r26 := rs Try.prog f71r26a
def f71r26_0 := ciE f71r26 0 1 20 0
def f71r26_1 := ciL f71r26 1 21 0
def f71n58_eq := nrE f71n58 f71r26 f71n59
noncomputable def f71r25a := ra f71b [1,1,1,0]
noncomputable def f71r25 := rs Try.prog f71r25a
def f71r25_0 := mvE f71r25 0 1 18 135
def f71r25_1 := mvE f71r25 1 2 2 136
def f71r25_2 := biE f71r25 2 3 Try.prog 135 136 137 .add 3
def f71r25_3 := mvL f71r25 3 137 19
def f71n57_eq := nrE f71n57 f71r25 f71n58
noncomputable def f71r24a := ra f71b [1,1,0]
noncomputable def f71r24 := rs Try.prog f71r24a
def f71r24_0 := mvE f71r24 0 1 1 129
def f71r24_1 := mvE f71r24 1 2 3 130
def f71r24_2 := biE f71r24 2 3 Try.prog 129 130 131 .add 3
theorem f71r24_3 : Run (f71r24 3 K ⟨e, m⟩) = Run (withV (lk e 131) fun v1 => convK (some .u64) false v1 (fun x => f71r24 4 K ⟨(132, x) :: e, m⟩)) := rk
def f71r24_4 := bcE f71r24 4 5 Try.prog 132 133 .shr 62 (.int .u64 1)
theorem f71r24_5 : Run (f71r24 5 K ⟨e, m⟩) = Run (withV (lk e 133) fun v1 => convK (some .i64) false v1 (fun x => f71r24 6 K ⟨(134, x) :: e, m⟩)) := rk
def f71r24_6 := mvL f71r24 6 134 18
def f71n56_eq := nrE f71n56 f71r24 f71n57
def f71n28_eq := ntE f71n28 f71n29 f71n56
def f71n_eq := ntE f71n f71n1 f71n28
theorem f71_calls {xs : List AV} {rs : List RV} (hl : xs.length ≤ 220) (h : Run (f71n (retQ [] rs) ⟨argEnv 0 xs, []⟩)) : CallsTo Try.prog 71 xs rs :=
  callsTo_run (fn := Try.f71) (c := f71b) Try.func71 (by kernel_rfl) (by kernel_rfl) mixed (by kernel_rfl) 220 (by kernel_rfl) (by kernel_rfl) hl h
theorem f71_sorts {e k : Nat} {xs rest ys : List AV} (hl : rest.length + 1 ≤ 220) (hys : ∀ c ∈ flat ys, c.scal = true) (h : Run (f71n (sQ e k ys) ⟨argEnv 0 (.own 1000 :: rest), [(1000, .arr e k xs)]⟩)) : SortsTo Try.prog 71 e k xs rest ys :=
  sortsTo_run (fn := Try.f71) (c := f71b) Try.func71 (by kernel_rfl) (by kernel_rfl) mixed (by kernel_rfl) 220 (by kernel_rfl) (by kernel_rfl) hl (by decide) hys h
attribute [go_sem] f71n10_eq f71r3_0 f71r3_1 f71r3_2 f71n9_eq f71r6_0 f71r6_1 f71r6_2 f71n15_eq f71r7_0 f71r7_1 f71n16_eq f71n14_eq f71r5_0 f71r5_1 f71r5_2 f71r5_3 f71r5_4 f71r5_5 f71r5_6 f71r5_7 f71r5_8 f71r5_9 f71r5_10 f71n13_eq f71r4_0 f71r4_1 f71r4_2 f71r4_3 f71r4_4 f71r4_5 f71r4_6 f71n12_eq f71n11_eq f71n8_eq f71n6_eq f71n23_eq f71r9_0 f71r9_1 f71r9_2
attribute [go_sem] f71r9_3 f71n22_eq f71r11_x f71r11_0 f71r11_1 f71r11_2 f71r11_3 f71r11_4 f71r11_5 f71r11_6 f71r11_7 f71r11_8 f71r11_9 f71r11_10 f71r11_11 f71r11_12 f71r11_13 f71r11_14 f71r11_15 f71r11_16 f71r11_17 f71n26_eq f71n25_eq f71r10_0 f71r10_1 f71r10_2 f71n27_eq f71n24_eq f71n21_eq f71n19_eq f71r8_0 f71r8_1 f71n18_eq f71n17_eq f71n5_eq f71r2_0 f71r2_1 f71n4_eq f71r1_0 f71r1_1
attribute [go_sem] f71n3_eq f71n2_eq f71r0_0 f71r0_1 f71r0_2 f71r0_3 f71n1_eq f71n38_eq f71r15_0 f71r15_1 f71r15_2 f71n37_eq f71r18_0 f71r18_1 f71r18_2 f71n43_eq f71r19_0 f71r19_1 f71n44_eq f71n42_eq f71r17_0 f71r17_1 f71r17_2 f71r17_3 f71r17_4 f71r17_5 f71r17_6 f71r17_7 f71r17_8 f71r17_9 f71r17_10 f71r17_11 f71n41_eq f71r16_0 f71r16_1 f71r16_2 f71r16_3 f71r16_4 f71r16_5 f71r16_6
attribute [go_sem] f71n40_eq f71n39_eq f71n36_eq f71n34_eq f71n51_eq f71r21_0 f71r21_1 f71r21_2 f71n50_eq f71r23_x f71r23_0 f71r23_1 f71r23_2 f71r23_3 f71r23_4 f71r23_5 f71r23_6 f71r23_7 f71r23_8 f71r23_9 f71r23_10 f71r23_11 f71r23_12 f71r23_13 f71r23_14 f71r23_15 f71r23_16 f71r23_17 f71n54_eq f71n53_eq f71r22_0 f71r22_1 f71r22_2 f71n55_eq f71n52_eq f71n49_eq f71n47_eq f71r20_0 f71r20_1 f71n46_eq
attribute [go_sem] f71n45_eq f71n33_eq f71r14_0 f71r14_1 f71n32_eq f71r13_0 f71r13_1 f71n31_eq f71n30_eq f71r12_0 f71r12_1 f71r12_2 f71r12_3 f71n29_eq f71r29_0 f71r29_1 f71n63_eq f71r28_0 f71r28_1 f71r28_2 f71r28_3 f71n62_eq f71r31_0 f71r31_1 f71n65_eq f71r30_0 f71r30_1 f71n64_eq f71n61_eq f71r27_0 f71r27_1 f71r27_2 f71n60_eq f71n72_eq f71r33_0 f71r33_1 f71r33_2 f71n71_eq f71r36_0 f71r36_1
attribute [go_sem] f71r36_2 f71n77_eq f71r37_0 f71r37_1 f71n78_eq f71n76_eq f71r35_0 f71r35_1 f71r35_2 f71r35_3 f71r35_4 f71r35_5 f71r35_6 f71r35_7 f71r35_8 f71r35_9 f71r35_10 f71r35_11 f71r35_12 f71r35_13 f71n75_eq f71r34_0 f71r34_1 f71r34_2 f71r34_3 f71r34_4 f71r34_5 f71r34_6 f71n74_eq f71n73_eq f71n70_eq f71n68_eq f71r40_0 f71r40_1 f71r40_2 f71r40_3 f71r40_4 f71r40_5 f71n83_eq f71n82_eq
attribute [go_sem] f71r39_0 f71r39_1 f71r39_2 f71r39_3 f71r39_4 f71r39_5 f71r39_6 f71r39_7 f71n81_eq f71r42_0 f71r42_1 f71r42_2 f71r42_3 f71r42_4 f71r42_5 f71n87_eq f71n86_eq f71r41_0 f71r41_1 f71r41_2 f71r41_3 f71r41_4 f71r41_5 f71r41_6 f71r41_7 f71n85_eq f71r44_0 f71r44_1 f71r44_2 f71r44_3 f71r44_4 f71r44_5 f71n90_eq f71n89_eq f71r43_0 f71r43_1 f71r43_2 f71r43_3 f71r43_4 f71r43_5
attribute [go_sem] f71r43_6 f71r43_7 f71n88_eq f71n84_eq f71n80_eq f71r38_0 f71r38_1 f71r38_2 f71r38_3 f71n79_eq f71n67_eq f71r32_0 f71r32_1 f71r32_2 f71n66_eq f71n59_eq f71r26_0 f71r26_1 f71n58_eq f71r25_0 f71r25_1 f71r25_2 f71r25_3 f71n57_eq f71r24_0 f71r24_1 f71r24_2 f71r24_3 f71r24_4 f71r24_5 f71r24_6 f71n56_eq f71n28_eq f71n_eq
/-! ### slices.rotateCmpFunc int  -/
noncomputable def f76b : Code := Try.f76.body.getD .skip
noncomputable def f76n : WP := wpA Try.prog f76b
noncomputable def f76n1 := nd Try.prog f76b [1]
noncomputable def f76n2 := nd Try.prog f76b [1,1]
noncomputable def f76n3 := nd Try.prog f76b [1,1,0]
noncomputable def f76L4 := nd Try.prog f76b [1,1,0,0]
noncomputable def f76n5 := nd Try.prog f76b [1,1,0,0,0]
noncomputable def f76n6 := nd Try.prog f76b [1,1,0,0,0,0]
noncomputable def f76n7 := nd Try.prog f76b [1,1,0,0,0,0,1]
def f76n7_eq := ncX f76n7 20 0
noncomputable def f76r2a := ra f76b [1,1,0,0,0,0,0]
noncomputable def f76r2 := rs Try.prog f76r2a
def f76r2_0 := mvE f76r2 0 1 10 18
def f76r2_1 := mvE f76r2 1 2 11 19
def f76r2_2 := biL f76r2 2 Try.prog 18 19 20 .neq 3
def f76n6_eq := nrE f76n6 f76r2 f76n7
noncomputable def f76n8 := nd Try.prog f76b [1,1,0,0,0,1]
noncomputable def f76n9 := nd Try.prog f76b [1,1,0,0,0,1,0]
noncomputable def f76n10 := nd Try.prog f76b [1,1,0,0,0,1,0,1]
noncomputable def f76n11 := nd Try.prog f76b [1,1,0,0,0,1,0,1,0]
noncomputable def f76n12 := nd Try.prog f76b [1,1,0,0,0,1,0,1,0,1]
noncomputable def f76r5a := ra f76b [1,1,0,0,0,1,0,1,0,1]
noncomputable def f76r5 := rs Try.prog f76r5a
def f76r5_0 := mvE f76r5 0 1 10 32
def f76r5_1 := mvE f76r5 1 2 11 33
def f76r5_2 := biE f76r5 2 3 Try.prog 32 33 34 .sub 3
def f76r5_3 := mvL f76r5 3 34 10
def f76n12_eq := nrN f76n12 f76r5
noncomputable def f76r4a := ra f76b [1,1,0,0,0,1,0,1,0,0]
noncomputable def f76r4 := rs Try.prog f76r4a
def f76r4_0 := mvE f76r4 0 1 0 24
def f76r4_1 := mvE f76r4 1 2 2 25
def f76r4_2 := mvE f76r4 2 3 10 26
def f76r4_3 := biE f76r4 3 4 Try.prog 25 26 27 .sub 3
def f76r4_4 := mvE f76r4 4 5 2 28
def f76r4_5 := mvE f76r4 5 6 11 29
def f76r4_6 := mvE f76r4 6 7 4 30
def f76r4_7 := clL f76r4 7 Try.prog 31 78 [.tmp 24, .tmp 27, .tmp 28, .tmp 29, .tmp 30]
def f76n11_eq := nrE f76n11 f76r4 f76n12
noncomputable def f76n13 := nd Try.prog f76b [1,1,0,0,0,1,0,1,1]
noncomputable def f76n14 := nd Try.prog f76b [1,1,0,0,0,1,0,1,1,1]
noncomputable def f76r7a := ra f76b [1,1,0,0,0,1,0,1,1,1]
noncomputable def f76r7 := rs Try.prog f76r7a
def f76r7_0 := mvE f76r7 0 1 11 47
def f76r7_1 := mvE f76r7 1 2 10 48
def f76r7_2 := biE f76r7 2 3 Try.prog 47 48 49 .sub 3
def f76r7_3 := mvL f76r7 3 49 11
def f76n14_eq := nrN f76n14 f76r7
noncomputable def f76r6a := ra f76b [1,1,0,0,0,1,0,1,1,0]
noncomputable def f76r6 := rs Try.prog f76r6a
def f76r6_0 := mvE f76r6 0 1 0 35
def f76r6_1 := mvE f76r6 1 2 2 36
def f76r6_2 := mvE f76r6 2 3 10 37
def f76r6_3 := biE f76r6 3 4 Try.prog 36 37 38 .sub 3
def f76r6_4 := mvE f76r6 4 5 2 39
def f76r6_5 := mvE f76r6 5 6 11 40
def f76r6_6 := biE f76r6 6 7 Try.prog 39 40 41 .add 3
def f76r6_7 := mvE f76r6 7 8 10 42
def f76r6_8 := biE f76r6 8 9 Try.prog 41 42 43 .sub 3
def f76r6_9 := mvE f76r6 9 10 10 44
def f76r6_10 := mvE f76r6 10 11 4 45
def f76r6_11 := clL f76r6 11 Try.prog 46 78 [.tmp 35, .tmp 38, .tmp 43, .tmp 44, .tmp 45]
def f76n13_eq := nrE f76n13 f76r6 f76n14
def f76n10_eq := ncC f76n10 23 f76n11 f76n13
noncomputable def f76r3a := ra f76b [1,1,0,0,0,1,0,0]
noncomputable def f76r3 := rs Try.prog f76r3a
def f76r3_0 := mvE f76r3 0 1 10 21
def f76r3_1 := mvE f76r3 1 2 11 22
def f76r3_2 := biL f76r3 2 Try.prog 21 22 23 .gtr 3
def f76n9_eq := nrE f76n9 f76r3 f76n10
def f76n8_eq := nbE f76n8 f76n9 1
def f76n5_eq := ntE f76n5 f76n6 f76n8
theorem f76L4_is : LoopOf f76L4 f76n5 := ⟨Try.prog, subC f76b [1,1,0,0,0], by kernel_rfl, by kernel_rfl⟩
def f76n3_eq := nbE f76n3 f76L4 0
noncomputable def f76n15 := nd Try.prog f76b [1,1,1]
noncomputable def f76r8a := ra f76b [1,1,1]
noncomputable def f76r8 := rs Try.prog f76r8a
def f76r8_0 := mvE f76r8 0 1 0 50
def f76r8_1 := mvE f76r8 1 2 2 51
def f76r8_2 := mvE f76r8 2 3 10 52
def f76r8_3 := biE f76r8 3 4 Try.prog 51 52 53 .sub 3
def f76r8_4 := mvE f76r8 4 5 2 54
def f76r8_5 := mvE f76r8 5 6 10 55
def f76r8_6 := mvE f76r8 6 7 4 56
def f76r8_7 := clL f76r8 7 Try.prog 57 78 [.tmp 50, .tmp 53, .tmp 54, .tmp 55, .tmp 56]
def f76n15_eq := nrN f76n15 f76r8
def f76n2_eq := ntE f76n2 f76n3 f76n15
noncomputable def f76r1a := ra f76b [1,0]
noncomputable def f76r1 := rs Try.prog f76r1a
def f76r1_0 := mvE f76r1 0 1 3 15
def f76r1_1 := mvE f76r1 1 2 2 16
def f76r1_2 := biE f76r1 2 3 Try.prog 15 16 17 .sub 3
def f76r1_3 := mvL f76r1 3 17 11
def f76n1_eq := nrE f76n1 f76r1 f76n2
noncomputable def f76r0a := ra f76b [0]
noncomputable def f76r0 := rs Try.prog f76r0a
def f76r0_0 := mvE f76r0 0 1 2 12
def f76r0_1 := mvE f76r0 1 2 1 13
def f76r0_2 := biE f76r0 2 3 Try.prog 12 13 14 .sub 3
def f76r0_3 := mvL f76r0 3 14 10
def f76n_eq := nrE f76n f76r0 f76n1
theorem f76_calls {xs : List AV} {rs : List RV} (hl : xs.length ≤ 58) (h : Run (f76n (retQ [] rs) ⟨argEnv 0 xs, []⟩)) : CallsTo Try.prog 76 xs rs :=
  callsTo_run (fn := Try.f76) (c := f76b) Try.func76 (by kernel_rfl) (by kernel_rfl) mixed (by kernel_rfl) 58 (by kernel_rfl) (by kernel_rfl) hl h
theorem f76_sorts {e k : Nat} {xs rest ys : List AV} (hl : rest.length + 1 ≤ 58) (hys : ∀ c ∈ flat ys, c.scal = true) (h : Run (f76n (sQ e k ys) ⟨argEnv 0 (.own 1000 :: rest), [(1000, .arr e k xs)]⟩)) : SortsTo Try.prog 76 e k xs rest ys :=
  sortsTo_run (fn := Try.f76) (c := f76b) Try.func76 (by kernel_rfl) (by kernel_rfl) mixed (by kernel_rfl) 58 (by kernel_rfl) (by kernel_rfl) hl (by decide) hys h
attribute [go_sem] f76n7_eq f76r2_0 f76r2_1 f76r2_2 f76n6_eq f76r5_0 f76r5_1 f76r5_2 f76r5_3 f76n12_eq f76r4_0 f76r4_1 f76r4_2 f76r4_3 f76r4_4 f76r4_5 f76r4_6 f76r4_7 f76n11_eq f76r7_0 f76r7_1 f76r7_2 f76r7_3 f76n14_eq f76r6_0 f76r6_1 f76r6_2 f76r6_3 f76r6_4 f76r6_5 f76r6_6 f76r6_7 f76r6_8 f76r6_9 f76r6_10 f76r6_11 f76n13_eq f76n10_eq f76r3_0 f76r3_1
attribute [go_sem] f76r3_2 f76n9_eq f76n8_eq f76n5_eq f76n3_eq f76r8_0 f76r8_1 f76r8_2 f76r8_3 f76r8_4 f76r8_5 f76r8_6 f76r8_7 f76n15_eq f76n2_eq f76r1_0 f76r1_1 f76r1_2 f76r1_3 f76n1_eq f76r0_0 f76r0_1 f76r0_2 f76r0_3 f76n_eq
/-! ### slices.swapRangeCmpFunc int  -/
noncomputable def f78b : Code := Try.f78.body.getD .skip
noncomputable def f78n : WP := wpA Try.prog f78b
noncomputable def f78n1 := nd Try.prog f78b [1]
noncomputable def f78L2 := nd Try.prog f78b [1,0]
noncomputable def f78n3 := nd Try.prog f78b [1,0,0]
noncomputable def f78n4 := nd Try.prog f78b [1,0,0,0]
noncomputable def f78n5 := nd Try.prog f78b [1,0,0,0,1]
def f78n5_eq := ncX f78n5 13 0
noncomputable def f78r1a := ra f78b [1,0,0,0,0]
noncomputable def f78r1 := rs Try.prog f78r1a
def f78r1_0 := mvE f78r1 0 1 10 11
def f78r1_1 := mvE f78r1 1 2 3 12
def f78r1_2 := biL f78r1 2 Try.prog 11 12 13 .lss 3
def f78n4_eq := nrE f78n4 f78r1 f78n5
noncomputable def f78n6 := nd Try.prog f78b [1,0,0,1]
noncomputable def f78n7 := nd Try.prog f78b [1,0,0,1,0]
noncomputable def f78n8 := nd Try.prog f78b [1,0,0,1,0,0]
noncomputable def f78r3a := ra f78b [1,0,0,1,0,0]
noncomputable def f78r3w (id i : Nat) : SP := opsW Try.prog f78r3a 21 id i (f78r3a.toList.drop i)
noncomputable def f78r3x (i : Nat) : SP := opsX Try.prog (f78r3a.toList.drop i)
noncomputable def f78r3q (id i : Nat) : SP := opsL Try.prog f78r3a 21 id i ((f78r3a.toList.take 21).drop i)
theorem f78r3wr : cutAt f78r3a = some 21 := by kernel_rfl
theorem f78r3tl : (Region.lexTailB .any f78r3a 21 && (f78r3a.toList.take 21).all noCall) = false := by kernel_rfl
theorem f78r3mv : (lexMoveB .any f78r3a 21 && (f78r3a.toList.take 21).all noCall && tailB f78r3a 21) = false := by kernel_rfl
theorem f78r3cb : callB f78r3a 21 = false := by kernel_rfl
theorem f78r3so : stoB f78r3a 21 = true := by kernel_rfl
noncomputable def f78r3M : SP := movS Try.prog f78r3a 21
theorem f78r3_at (id : Nat) {K : St → Prop} {s : St} (h : Run (f78r3q id 0 (f78r3w id 21 K) s)) : Run (f78r3M K s) := Exists.intro id h
theorem f78r3_x (id : Nat) : Run (f78r3w id 22 K ⟨e, m⟩) = Run (f78r3x 22 K ⟨e, m⟩) := rk
theorem f78r3_0 (id : Nat) : Run (f78r3q id 0 K ⟨e, m⟩) = Run (mvT e m (f78r3q id 1 K) 0 16) := rk
theorem f78r3_1 (id : Nat) : Run (f78r3q id 1 K ⟨e, m⟩) = Run (mvT e m (f78r3q id 2 K) 1 17) := rk
theorem f78r3_2 (id : Nat) : Run (f78r3q id 2 K ⟨e, m⟩) = Run (mvT e m (f78r3q id 3 K) 10 18) := rk
theorem f78r3_3 (id : Nat) : Run (f78r3q id 3 K ⟨e, m⟩) = Run (biT e m Try.prog (f78r3q id 4 K) 17 18 19 .add 3) := rk
theorem f78r3_4 (id : Nat) : Run (f78r3q id 4 K ⟨e, m⟩) = Run (withV (lk e 0) fun v1 => (fun x => d2K x (withV (lk e 0) fun v1 => (fun y => e2K x y (f78r3q id 5 K ⟨(20, x) :: e, m⟩)) v1)) v1) := rk
theorem f78r3_5 (id : Nat) : Run (f78r3q id 5 K ⟨e, m⟩) = Run (withV (lk e 2) fun v1 => (fun x => d2K x (withV (lk e 2) fun v1 => (fun y => e2K x y (f78r3q id 6 K ⟨(21, x) :: e, m⟩)) v1)) v1) := rk
theorem f78r3_6 (id : Nat) : Run (f78r3q id 6 K ⟨e, m⟩) = Run (withV (lk e 10) fun v1 => (fun x => d2K x (withV (lk e 10) fun v1 => (fun y => e2K x y (f78r3q id 7 K ⟨(22, x) :: e, m⟩)) v1)) v1) := rk
theorem f78r3_7 (id : Nat) : Run (f78r3q id 7 K ⟨e, m⟩) = Run (withV (lk e 21) fun v1 => withV (lk e 22) fun v2 => binA Try.prog .add 3 v1 v2 (fun x => d2K x (withV (lk e 21) fun v1 => withV (lk e 22) fun v2 => binA Try.prog .add 3 v1 v2 (fun y => e2K x y (f78r3q id 8 K ⟨(23, x) :: e, m⟩))))) := rk
theorem f78r3_8 (id : Nat) : Run (f78r3q id 8 K ⟨e, m⟩) = Run (mvT e m (f78r3q id 9 K) 0 24) := rk
theorem f78r3_9 (id : Nat) : Run (f78r3q id 9 K ⟨e, m⟩) = Run (mvT e m (f78r3q id 10 K) 2 25) := rk
theorem f78r3_10 (id : Nat) : Run (f78r3q id 10 K ⟨e, m⟩) = Run (mvT e m (f78r3q id 11 K) 10 26) := rk
theorem f78r3_11 (id : Nat) : Run (f78r3q id 11 K ⟨e, m⟩) = Run (biT e m Try.prog (f78r3q id 12 K) 25 26 27 .add 3) := rk
theorem f78r3_12 (id : Nat) : Run (f78r3q id 12 K ⟨e, m⟩) = Run (iaT e m (f78r3q id 13 K) 1 24 27 28) := rk
theorem f78r3_13 (id : Nat) : Run (f78r3q id 13 K ⟨e, m⟩) = Run (lsT e m (f78r3q id 14 K) 1 28 29) := rk
theorem f78r3_14 (id : Nat) : Run (f78r3q id 14 K ⟨e, m⟩) = Run (mvT e m (f78r3q id 15 K) 0 30) := rk
theorem f78r3_15 (id : Nat) : Run (f78r3q id 15 K ⟨e, m⟩) = Run (mvT e m (f78r3q id 16 K) 1 31) := rk
theorem f78r3_16 (id : Nat) : Run (f78r3q id 16 K ⟨e, m⟩) = Run (mvT e m (f78r3q id 17 K) 10 32) := rk
theorem f78r3_17 (id : Nat) : Run (f78r3q id 17 K ⟨e, m⟩) = Run (biT e m Try.prog (f78r3q id 18 K) 31 32 33 .add 3) := rk
theorem f78r3_18 (id : Nat) : Run (f78r3q id 18 K ⟨e, m⟩) = Run (iaT e m (f78r3q id 19 K) 1 30 33 34) := rk
theorem f78r3_19 (id : Nat) : Run (f78r3q id 19 K ⟨e, m⟩) = Run (lsT e m (f78r3q id 20 K) 1 34 35) := rk
theorem f78r3_20 (id : Nat) : Run (f78r3q id 20 K ⟨e, m⟩) = Run (iaT e m K 1 16 19 36) := rk
theorem f78r3_21 (id : Nat) : Run (f78r3w id 21 K ⟨e, m⟩) = Run (withV (lk e 36) fun v1 => withV (lk e 29) fun v2 => stW m 1 id v1 v2 (fun m' => f78r3w id 22 K ⟨e, m'⟩)) := rk
theorem f78r3_22 : Run (f78r3x 22 K ⟨e, m⟩) = Run (iaT e m (f78r3x 23 K) 1 20 23 37) := rk
theorem f78r3_23 : Run (f78r3x 23 K ⟨e, m⟩) = Run (withV (lk e 37) fun v1 => withV (lk e 35) fun v2 => stK m 1 v1 v2 (fun m' => K ⟨e, m'⟩)) := rk
theorem f78n8_eq : Run (f78n8 Q s) = Run (f78r3M (Q .normal) s) := run_eq (Eq.trans (b := drawA Try.prog f78r3a (Q .normal) s) (by kernel_rfl) (Eq.trans (draw_late f78r3wr f78r3tl f78r3mv f78r3cb f78r3so) (by kernel_rfl)))
def f78n7_eq := nbE f78n7 f78n8 1
noncomputable def f78n9 := nd Try.prog f78b [1,0,0,1,1]
noncomputable def f78r2a := ra f78b [1,0,0,1,1]
noncomputable def f78r2 := rs Try.prog f78r2a
def f78r2_0 := mvE f78r2 0 1 10 14
def f78r2_1 := bnE f78r2 1 2 Try.prog 14 15 .add 3 1
def f78r2_2 := mvL f78r2 2 15 10
def f78n9_eq := nrN f78n9 f78r2
def f78n6_eq := ntE f78n6 f78n7 f78n9
def f78n3_eq := ntE f78n3 f78n4 f78n6
theorem f78L2_is : LoopOf f78L2 f78n3 := ⟨Try.prog, subC f78b [1,0,0], by kernel_rfl, by kernel_rfl⟩
def f78n1_eq := nbE f78n1 f78L2 0
noncomputable def f78r0a := ra f78b [0]
noncomputable def f78r0 := rs Try.prog f78r0a
def f78r0_0 := ciL f78r0 0 10 0
def f78n_eq := nrE f78n f78r0 f78n1
theorem f78_calls {xs : List AV} {rs : List RV} (hl : xs.length ≤ 38) (h : Run (f78n (retQ [] rs) ⟨argEnv 0 xs, []⟩)) : CallsTo Try.prog 78 xs rs :=
  callsTo_run (fn := Try.f78) (c := f78b) Try.func78 (by kernel_rfl) (by kernel_rfl) mixed (by kernel_rfl) 38 (by kernel_rfl) (by kernel_rfl) hl h
theorem f78_sorts {e k : Nat} {xs rest ys : List AV} (hl : rest.length + 1 ≤ 38) (hys : ∀ c ∈ flat ys, c.scal = true) (h : Run (f78n (sQ e k ys) ⟨argEnv 0 (.own 1000 :: rest), [(1000, .arr e k xs)]⟩)) : SortsTo Try.prog 78 e k xs rest ys :=
  sortsTo_run (fn := Try.f78) (c := f78b) Try.func78 (by kernel_rfl) (by kernel_rfl) mixed (by kernel_rfl) 38 (by kernel_rfl) (by kernel_rfl) hl (by decide) hys h
attribute [go_sem] f78n5_eq f78r1_0 f78r1_1 f78r1_2 f78n4_eq f78r3_x f78r3_0 f78r3_1 f78r3_2 f78r3_3 f78r3_4 f78r3_5 f78r3_6 f78r3_7 f78r3_8 f78r3_9 f78r3_10 f78r3_11 f78r3_12 f78r3_13 f78r3_14 f78r3_15 f78r3_16 f78r3_17 f78r3_18 f78r3_19 f78r3_20 f78r3_21 f78r3_22 f78r3_23 f78n8_eq f78n7_eq f78r2_0 f78r2_1 f78r2_2 f78n9_eq f78n6_eq f78n3_eq f78n1_eq f78r0_0
attribute [go_sem] f78n_eq
end
end Go.Proofs.Ytnnjhnoocnlmeaa
