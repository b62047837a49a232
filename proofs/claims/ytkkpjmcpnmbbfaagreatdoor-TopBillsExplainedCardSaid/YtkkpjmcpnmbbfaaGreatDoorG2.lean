/- The steps of each function of the call, second part (printed by a program). -/
import Derived.Test.YtkkpjmcpnmbbfaaGreatDoorG1
namespace Go.Proofs.YtkkpjmcpnmbbfaaGreatDoor
open Go Go.AI Go.Proofs
set_option linter.unusedSectionVars false
set_option linter.unusedVariables false
set_option linter.defProp false
set_option maxRecDepth 100000
section
variable [Dr] (K : St → Prop) (Q : Exit → St → Prop) (s : St) (e : List (Nat × AV)) (m m2 : List (Nat × Ob))
noncomputable def f39b : Code := Tryz.f39.body.getD .skip
def f39d := ndB Tryz.prog f39b
def f39s := rsB Tryz.prog f39b
def f39n : WP := wpA Tryz.prog f39b
def f39n1 := f39d 3
def f39n2 := f39d 6
def f39n3 := f39d 13
def f39n4 := f39d 26
def f39r2 := f39s 52
def f39r2_0 := ciL f39r2 0 6 8
def f39n4_eq := nrR f39n4 f39r2
def f39n3_eq := ncN f39n3 15 f39n4
def f39r1 := f39s 12
def f39r1_0 := mvE f39r1 0 1 0 13
def f39r1_1 := lnE f39r1 1 2 13 14
def f39r1_2 := bnL f39r1 2 Tryz.prog 14 15 .gtr 3 512
def f39n2_eq := nrE f39n2 f39r1 f39n3
def f39n5 := f39d 7
def f39n6 := f39d 14
def f39n7 := f39d 29
def f39L8 := f39d 58
def f39n9 := f39d 116
def f39n10 := f39d 233
def f39n11 := f39d 466
def f39n11_eq := ncX f39n11 19 0
def f39n12 := f39d 467
def f39n13 := f39d 934
def f39n14 := f39d 1868
def f39n15 := f39d 3737
def f39n16 := f39d 7475
def f39n17 := f39d 14951
def f39n18 := f39d 29902
def f39r8 := f39s 59804
def f39r8_0 := mvE f39r8 0 1 9 28
def f39r8_1 := mvL f39r8 1 28 6
def f39n18_eq := nrR f39n18 f39r8
def f39n17_eq := ncN f39n17 27 f39n18
def f39r7 := f39s 14950
def f39r7_0 := mvE f39r7 0 1 9 26
def f39r7_1 := bnL f39r7 1 Tryz.prog 26 27 .neq 30 0
def f39n16_eq := nrE f39n16 f39r7 f39n17
def f39r6 := f39s 7474
def f39r6_0 := lgE f39r6 0 1 7 8 22
def f39r6_1 := mvE f39r6 1 2 1 23
def f39r6_2 := mvE f39r6 2 3 2 24
def f39r6_3 := clE f39r6 3 4 Tryz.prog 25 74 [.tmp 22, .tmp 23, .tmp 24]
def f39r6_4 := mvL f39r6 4 25 9
def f39n15_eq := nrE f39n15 f39r6 f39n16
def f39r5 := f39s 3736
def f39r5_0 := iaE f39r5 0 1 7 16 18 20
def f39r5_1 := lgE f39r5 1 2 7 20 21
def f39r5_2 := alE f39r5 2 3 8 [.int .i64 0, .int .i64 0, .int .i64 0, .int .i64 0, .int .i64 0, .int .i64 0, .bool false]
def f39r5_3 := stL f39r5 3 7 8 21
def f39n14_eq := nrE f39n14 f39r5 f39n15
def f39n13_eq := nbE f39n13 f39n14 1
def f39n19 := f39d 935
def f39r9 := f39s 935
def f39r9_0 := bnE f39r9 0 1 Tryz.prog 18 29 .add 3 1
def f39r9_1 := mvL f39r9 1 29 18
def f39n19_eq := nrN f39n19 f39r9
def f39n12_eq := ntE f39n12 f39n13 f39n19
def f39n10_eq := ntE f39n10 f39n11 f39n12
def f39r4 := f39s 232
def f39r4_0 := biL f39r4 0 Tryz.prog 18 17 19 .lss 3
def f39n9_eq := nrE f39n9 f39r4 f39n10
def f39L8_is := loE f39L8 f39n9 Tryz.prog f39b 116
def f39n7_eq := nbE f39n7 f39L8 0
def f39r3 := f39s 28
def f39r3_0 := mvE f39r3 0 1 0 16
def f39r3_1 := lnE f39r3 1 2 16 17
def f39r3_2 := ciL f39r3 2 18 0
def f39n6_eq := nrE f39n6 f39r3 f39n7
def f39n20 := f39d 15
def f39n21 := f39d 31
def f39n22 := f39d 62
def f39n23 := f39d 125
def f39L24 := f39d 250
def f39n25 := f39d 500
def f39n26 := f39d 1001
def f39n27 := f39d 2002
def f39n27_eq := ncX f39n27 34 2
def f39n28 := f39d 2003
def f39n29 := f39d 4006
def f39n30 := f39d 8012
def f39n31 := f39d 16025
def f39n32 := f39d 32050
def f39n33 := f39d 64101
def f39n34 := f39d 128202
def f39r15 := f39s 256404
def f39r15_0 := ciL f39r15 0 6 6
def f39n34_eq := nrR f39n34 f39r15
def f39n33_eq := ncN f39n33 40 f39n34
def f39r14 := f39s 64100
def f39r14_0 := mvE f39r14 0 1 10 37
def f39r14_1 := faE f39r14 1 2 0 12 38
def f39r14_2 := lsE f39r14 2 3 1 38 39
theorem f39r14_3 : Run (f39r14 3 K ⟨e, m⟩) = Run (withV (lk e 37) fun v1 => withV (lk e 39) fun v2 => lookupA Tryz.prog ⟨e, m⟩ 137 v1 v2 false (fun x => K ⟨(40, x) :: e, m⟩)) := rk
def f39n32_eq := nrE f39n32 f39r14 f39n33
def f39n35 := f39d 32051
def f39r16 := f39s 32051
def f39r16_0 := mvE f39r16 0 1 10 41
def f39r16_1 := faE f39r16 1 2 0 12 42
def f39r16_2 := lsE f39r16 2 3 1 42 43
theorem f39r16_3 : Run (f39r16 3 K ⟨e, m⟩) = Run (withV (lk e 41) fun v1 => withV (lk e 43) fun v2 => withV (some (.bool true)) fun v3 => mapSetA Tryz.prog 137 v1 v2 v3 K ⟨e, m⟩) := rk
def f39n35_eq := nrN f39n35 f39r16
def f39n31_eq := ntE f39n31 f39n32 f39n35
def f39r13 := f39s 16024
def f39r13_0 := iaE f39r13 0 1 7 31 33 35
def f39r13_1 := lgE f39r13 1 2 7 35 36
def f39r13_2 := alE f39r13 2 3 12 [.int .i64 0, .int .i64 0, .int .i64 0, .int .i64 0, .int .i64 0, .int .i64 0, .bool false]
def f39r13_3 := stL f39r13 3 7 12 36
def f39n30_eq := nrE f39n30 f39r13 f39n31
def f39n29_eq := nbE f39n29 f39n30 3
def f39n36 := f39d 4007
def f39r17 := f39s 4007
def f39r17_0 := bnE f39r17 0 1 Tryz.prog 33 44 .add 3 1
def f39r17_1 := mvL f39r17 1 44 33
def f39n36_eq := nrN f39n36 f39r17
def f39n28_eq := ntE f39n28 f39n29 f39n36
def f39n26_eq := ntE f39n26 f39n27 f39n28
def f39r12 := f39s 1000
def f39r12_0 := biL f39r12 0 Tryz.prog 33 32 34 .lss 3
def f39n25_eq := nrE f39n25 f39r12 f39n26
def f39L24_is := loE f39L24 f39n25 Tryz.prog f39b 500
def f39n23_eq := nbE f39n23 f39L24 2
def f39r11 := f39s 124
def f39r11_0 := mvE f39r11 0 1 0 31
def f39r11_1 := lnE f39r11 1 2 31 32
def f39r11_2 := ciL f39r11 2 33 0
def f39n22_eq := nrE f39n22 f39r11 f39n23
def f39n37 := f39d 63
def f39r18 := f39s 126
def f39r18_0 := ciL f39r18 0 6 0
def f39n37_eq := nrR f39n37 f39r18
def f39n21_eq := ntE f39n21 f39n22 f39n37
def f39r10 := f39s 30
theorem f39r10_0 : Run (f39r10 0 K ⟨e, m⟩) = Run (f39r10 1 K ⟨(30, .mp 30) :: killE 30 e, (30, .mp []) :: killM 30 m⟩) := rk
def f39r10_1 := mvL f39r10 1 30 10
def f39n20_eq := nrE f39n20 f39r10 f39n21
def f39n5_eq := ntE f39n5 f39n6 f39n20
def f39n1_eq := ntE f39n1 f39n2 f39n5
def f39r0 := f39s 2
def f39r0_0 := ciL f39r0 0 6 0
def f39n_eq := nrE f39n f39r0 f39n1
def f39_calls := caE Tryz.prog 39 Tryz.f39 f39b f39n 45 [.tmp 6] Tryz.func39 mixed
attribute [go_sem] f39r2_0 f39n4_eq f39n3_eq f39r1_0 f39r1_1 f39r1_2 f39n2_eq f39n11_eq f39r8_0 f39r8_1 f39n18_eq f39n17_eq f39r7_0 f39r7_1 f39n16_eq f39r6_0 f39r6_1 f39r6_2 f39r6_3 f39r6_4 f39n15_eq f39r5_0 f39r5_1 f39r5_2 f39r5_3 f39n14_eq f39n13_eq f39r9_0 f39r9_1 f39n19_eq f39n12_eq f39n10_eq f39r4_0 f39n9_eq f39n7_eq f39r3_0 f39r3_1 f39r3_2 f39n6_eq f39n27_eq
attribute [go_sem] f39r15_0 f39n34_eq f39n33_eq f39r14_0 f39r14_1 f39r14_2 f39r14_3 f39n32_eq f39r16_0 f39r16_1 f39r16_2 f39r16_3 f39n35_eq f39n31_eq f39r13_0 f39r13_1 f39r13_2 f39r13_3 f39n30_eq f39n29_eq f39r17_0 f39r17_1 f39n36_eq f39n28_eq f39n26_eq f39r12_0 f39n25_eq f39n23_eq f39r11_0 f39r11_1 f39r11_2 f39n22_eq f39r18_0 f39n37_eq f39n21_eq f39r10_0 f39r10_1 f39n20_eq f39n5_eq f39n1_eq
attribute [go_sem] f39r0_0 f39n_eq
noncomputable def f40b : Code := Tryz.f40.body.getD .skip
def f40d := ndB Tryz.prog f40b
def f40s := rsB Tryz.prog f40b
def f40n : WP := wpA Tryz.prog f40b
def f40n1 := f40d 3
def f40n2 := f40d 6
def f40n3 := f40d 13
def f40n4 := f40d 26
def f40r2 := f40s 52
def f40r2_0 := ciL f40r2 0 2 10
def f40n4_eq := nrR f40n4 f40r2
def f40n3_eq := ncN f40n3 8 f40n4
def f40r1 := f40s 12
def f40r1_0 := mvE f40r1 0 1 0 6
def f40r1_1 := lnE f40r1 1 2 6 7
def f40r1_2 := bnL f40r1 2 Tryz.prog 7 8 .eql 3 0
def f40n2_eq := nrE f40n2 f40r1 f40n3
def f40n5 := f40d 7
def f40n6 := f40d 14
def f40n7 := f40d 29
def f40n8 := f40d 58
def f40r4 := f40s 116
def f40r4_0 := ciL f40r4 0 2 8
def f40n8_eq := nrR f40n8 f40r4
def f40n7_eq := ncN f40n7 11 f40n8
def f40r3 := f40s 28
def f40r3_0 := mvE f40r3 0 1 0 9
def f40r3_1 := lnE f40r3 1 2 9 10
def f40r3_2 := bnL f40r3 2 Tryz.prog 10 11 .gtr 3 8
def f40n6_eq := nrE f40n6 f40r3 f40n7
def f40n9 := f40d 15
def f40n10 := f40d 30
def f40n11 := f40d 61
def f40L12 := f40d 122
def f40n13 := f40d 244
def f40n14 := f40d 489
def f40n15 := f40d 978
def f40n15_eq := ncX f40n15 15 0
def f40n16 := f40d 979
def f40n17 := f40d 1958
def f40n18 := f40d 3916
def f40n19 := f40d 7833
def f40n20 := f40d 15667
def f40n21 := f40d 31334
def f40r9 := f40s 62668
def f40r9_0 := ciL f40r9 0 2 1
def f40n21_eq := nrR f40n21 f40r9
def f40n20_eq := ncN f40n20 26 f40n21
def f40r8 := f40s 15666
def f40r8_0 := faE f40r8 0 1 0 4 18
def f40r8_1 := lsE f40r8 1 2 1 18 19
def f40r8_2 := clE f40r8 2 3 Tryz.prog 20 75 [.const (.int .i64 0), .tmp 19, .const (.int .i64 36524)]
def f40r8_3 := noE f40r8 3 4 20 21
def f40r8_4 := mvE f40r8 4 5 21 22
def f40r8_5 := glg f40r8 5 6 22 false 5 4 23
def f40r8_6 := gcl f40r8 6 7 22 false Tryz.prog 24 76 [.tmp 23]
def f40r8_7 := gno f40r8 7 8 22 false 24 25
def f40r8_8 := ptL f40r8 8 22 26 25
def f40n19_eq := nrE f40n19 f40r8 f40n20
def f40r7 := f40s 7832
def f40r7_0 := iaE f40r7 0 1 5 12 14 16
def f40r7_1 := lgE f40r7 1 2 5 16 17
def f40r7_2 := alE f40r7 2 3 4 [.int .i64 0, .int .i64 0, .int .i64 0, .int .i64 0, .int .i64 0]
def f40r7_3 := stL f40r7 3 5 4 17
def f40n18_eq := nrE f40n18 f40r7 f40n19
def f40n17_eq := nbE f40n17 f40n18 1
def f40n22 := f40d 1959
def f40r10 := f40s 1959
def f40r10_0 := bnE f40r10 0 1 Tryz.prog 14 27 .add 3 1
def f40r10_1 := mvL f40r10 1 27 14
def f40n22_eq := nrN f40n22 f40r10
def f40n16_eq := ntE f40n16 f40n17 f40n22
def f40n14_eq := ntE f40n14 f40n15 f40n16
def f40r6 := f40s 488
def f40r6_0 := biL f40r6 0 Tryz.prog 14 13 15 .lss 3
def f40n13_eq := nrE f40n13 f40r6 f40n14
def f40L12_is := loE f40L12 f40n13 Tryz.prog f40b 244
def f40n11_eq := nbE f40n11 f40L12 0
def f40r5 := f40s 60
def f40r5_0 := mvE f40r5 0 1 0 12
def f40r5_1 := lnE f40r5 1 2 12 13
def f40r5_2 := ciL f40r5 2 14 0
def f40n10_eq := nrE f40n10 f40r5 f40n11
def f40n23 := f40d 31
def f40n24 := f40d 62
def f40n25 := f40d 125
def f40L26 := f40d 250
def f40n27 := f40d 500
def f40n28 := f40d 1000
def f40n29 := f40d 2001
def f40n29_eq := ncX f40n29 31 2
def f40r12 := f40s 2000
def f40r12_0 := mvE f40r12 0 1 5 28
def f40r12_1 := mvE f40r12 1 2 0 29
def f40r12_2 := lnE f40r12 2 3 29 30
def f40r12_3 := biL f40r12 3 Tryz.prog 28 30 31 .lss 3
def f40n28_eq := nrE f40n28 f40r12 f40n29
def f40n30 := f40d 1001
def f40n31 := f40d 2002
def f40n32 := f40d 4004
def f40n33 := f40d 8009
def f40n34 := f40d 16018
def f40r15 := f40s 32036
def f40r15_0 := ciL f40r15 0 2 9
def f40n34_eq := nrR f40n34 f40r15
def f40n33_eq := ncN f40n33 45 f40n34
noncomputable def f40r14a := raB f40b 8008
def f40r14 (i : Nat) : SP := opsQ Tryz.prog f40r14a (f40r14a.toList.drop i)
theorem f40r14wr : cutAt f40r14a = none := by kernel_rfl
theorem f40r14lex : Region.lexB .any f40r14a = true := by kernel_rfl
theorem f40r14my : manyB f40r14a = false := by kernel_rfl
def f40r14_0 := mvE f40r14 0 1 0 34
def f40r14_1 := mvE f40r14 1 2 5 35
def f40r14_2 := iaE f40r14 2 3 5 34 35 36
def f40r14_3 := faE f40r14 3 4 0 36 37
def f40r14_4 := lsE f40r14 4 5 1 37 38
def f40r14_5 := mvE f40r14 5 6 0 39
def f40r14_6 := mvE f40r14 6 7 5 40
def f40r14_7 := bnE f40r14 7 8 Tryz.prog 40 41 .sub 3 1
def f40r14_8 := iaE f40r14 8 9 5 39 41 42
def f40r14_9 := faE f40r14 9 10 0 42 43
def f40r14_10 := lsE f40r14 10 11 1 43 44
def f40r14_11 := biL f40r14 11 Tryz.prog 38 44 45 .leq 3
theorem f40n32_eq : Run (f40n32 Q s) = Run (f40r14 0 (f40n33 Q) s) := run_eq (Eq.trans (b := drawA Tryz.prog f40r14a (f40n33 Q) s) (by kernel_rfl) (Eq.trans (draw_q f40r14wr f40r14lex f40r14my) (by kernel_rfl)))
def f40n31_eq := nbE f40n31 f40n32 3
def f40n35 := f40d 2003
def f40r13 := f40s 2003
def f40r13_0 := mvE f40r13 0 1 5 32
def f40r13_1 := bnE f40r13 1 2 Tryz.prog 32 33 .add 3 1
def f40r13_2 := mvL f40r13 2 33 5
def f40n35_eq := nrN f40n35 f40r13
def f40n30_eq := ntE f40n30 f40n31 f40n35
def f40n27_eq := ntE f40n27 f40n28 f40n30
def f40L26_is := loE f40L26 f40n27 Tryz.prog f40b 500
def f40n25_eq := nbE f40n25 f40L26 2
def f40r11 := f40s 124
def f40r11_0 := ciL f40r11 0 5 1
def f40n24_eq := nrE f40n24 f40r11 f40n25
def f40n36 := f40d 63
def f40r16 := f40s 126
def f40r16_0 := ciL f40r16 0 2 0
def f40n36_eq := nrR f40n36 f40r16
def f40n23_eq := ntE f40n23 f40n24 f40n36
def f40n9_eq := ntE f40n9 f40n10 f40n23
def f40n5_eq := ntE f40n5 f40n6 f40n9
def f40n1_eq := ntE f40n1 f40n2 f40n5
def f40r0 := f40s 2
def f40r0_0 := ciL f40r0 0 2 0
def f40n_eq := nrE f40n f40r0 f40n1
def f40_calls := caE Tryz.prog 40 Tryz.f40 f40b f40n 46 [.tmp 2] Tryz.func40 mixed
attribute [go_sem] f40r2_0 f40n4_eq f40n3_eq f40r1_0 f40r1_1 f40r1_2 f40n2_eq f40r4_0 f40n8_eq f40n7_eq f40r3_0 f40r3_1 f40r3_2 f40n6_eq f40n15_eq f40r9_0 f40n21_eq f40n20_eq f40r8_0 f40r8_1 f40r8_2 f40r8_3 f40r8_4 f40r8_5 f40r8_6 f40r8_7 f40r8_8 f40n19_eq f40r7_0 f40r7_1 f40r7_2 f40r7_3 f40n18_eq f40n17_eq f40r10_0 f40r10_1 f40n22_eq f40n16_eq f40n14_eq f40r6_0
attribute [go_sem] f40n13_eq f40n11_eq f40r5_0 f40r5_1 f40r5_2 f40n10_eq f40n29_eq f40r12_0 f40r12_1 f40r12_2 f40r12_3 f40n28_eq f40r15_0 f40n34_eq f40n33_eq f40r14_0 f40r14_1 f40r14_2 f40r14_3 f40r14_4 f40r14_5 f40r14_6 f40r14_7 f40r14_8 f40r14_9 f40r14_10 f40r14_11 f40n32_eq f40n31_eq f40r13_0 f40r13_1 f40r13_2 f40n35_eq f40n30_eq f40n27_eq f40n25_eq f40r11_0 f40n24_eq f40r16_0 f40n36_eq
attribute [go_sem] f40n23_eq f40n9_eq f40n5_eq f40n1_eq f40r0_0 f40n_eq
noncomputable def f41b : Code := Tryz.f41.body.getD .skip
def f41d := ndB Tryz.prog f41b
def f41s := rsB Tryz.prog f41b
def f41n : WP := wpA Tryz.prog f41b
def f41n1 := f41d 3
def f41r1 := f41s 6
def f41r1_0 := fnE f41r1 0 1 3 77 [.tmp 1]
def f41r1_1 := mvL f41r1 1 3 2
def f41n1_eq := nrR f41n1 f41r1
def f41r0 := f41s 2
def f41r0_0 := bxE f41r0 0 1 1 0
theorem f41r0_1 : Run (f41r0 1 K ⟨e, m⟩) = Run (withV (some .un) fun v1 => K ⟨(2, v1) :: e, m⟩) := rk
def f41n_eq := nrE f41n f41r0 f41n1
def f41_calls := caE Tryz.prog 41 Tryz.f41 f41b f41n 4 [.tmp 2] Tryz.func41 mixed
attribute [go_sem] f41r1_0 f41r1_1 f41n1_eq f41r0_0 f41r0_1 f41n_eq
noncomputable def f42b : Code := Tryz.f42.body.getD .skip
def f42d := ndB Tryz.prog f42b
def f42s := rsB Tryz.prog f42b
def f42n : WP := wpA Tryz.prog f42b
def f42n1 := f42d 3
def f42n2 := f42d 6
def f42n3 := f42d 13
def f42n4 := f42d 27
def f42n5 := f42d 54
def f42n4_eq := ncN f42n4 11 f42n5
def f42r2 := f42s 26
def f42r2_0 := mvE f42r2 0 1 6 10
def f42r2_1 := bnL f42r2 1 Tryz.prog 10 11 .neq 30 0
def f42n3_eq := nrE f42n3 f42r2 f42n4
def f42r1 := f42s 12
def f42r1_0 := mvE f42r1 0 1 0 8
def f42r1_1 := clE f42r1 1 2 Tryz.prog 9 40 [.tmp 8]
def f42r1_2 := mvL f42r1 2 9 6
def f42n2_eq := nrE f42n2 f42r1 f42n3
def f42n6 := f42d 7
def f42n7 := f42d 14
def f42n8 := f42d 29
def f42n9 := f42d 58
def f42n8_eq := ncN f42n8 15 f42n9
def f42r4 := f42s 28
def f42r4_0 := mvE f42r4 0 1 1 13
def f42r4_1 := clE f42r4 1 2 Tryz.prog 14 75 [.const (.int .i64 0), .tmp 13, .const (.int .i64 36524)]
def f42r4_2 := noL f42r4 2 14 15
def f42n7_eq := nrE f42n7 f42r4 f42n8
def f42n10 := f42d 15
def f42n11 := f42d 30
def f42n12 := f42d 61
def f42L13 := f42d 122
def f42n14 := f42d 244
def f42n15 := f42d 488
def f42n16 := f42d 977
def f42n16_eq := ncX f42n16 20 0
def f42r7 := f42s 976
def f42r7_0 := mvE f42r7 0 1 7 19
def f42r7_1 := bnL f42r7 1 Tryz.prog 19 20 .geq 3 0
def f42n15_eq := nrE f42n15 f42r7 f42n16
def f42n17 := f42d 489
def f42n18 := f42d 978
def f42n19 := f42d 1956
def f42n20 := f42d 3913
def f42n21 := f42d 7826
def f42r10 := f42s 15652
def f42r10_0 := mvE f42r10 0 1 7 30
def f42r10_1 := mvE f42r10 1 2 30 4
def f42r10_2 := ciL f42r10 2 5 0
def f42n21_eq := nrR f42n21 f42r10
def f42n20_eq := ncN f42n20 29 f42n21
def f42r9 := f42s 3912
def f42r9_0 := mvE f42r9 0 1 0 23
def f42r9_1 := mvE f42r9 1 2 7 24
def f42r9_2 := iaE f42r9 2 3 5 23 24 25
def f42r9_3 := faE f42r9 3 4 0 25 26
def f42r9_4 := lsE f42r9 4 5 1 26 27
def f42r9_5 := mvE f42r9 5 6 1 28
def f42r9_6 := biL f42r9 6 Tryz.prog 27 28 29 .leq 3
def f42n19_eq := nrE f42n19 f42r9 f42n20
def f42n18_eq := nbE f42n18 f42n19 1
def f42n22 := f42d 979
def f42r8 := f42s 979
def f42r8_0 := mvE f42r8 0 1 7 21
def f42r8_1 := bnE f42r8 1 2 Tryz.prog 21 22 .sub 3 1
def f42r8_2 := mvL f42r8 2 22 7
def f42n22_eq := nrN f42n22 f42r8
def f42n17_eq := ntE f42n17 f42n18 f42n22
def f42n14_eq := ntE f42n14 f42n15 f42n17
def f42L13_is := loE f42L13 f42n14 Tryz.prog f42b 244
def f42n12_eq := nbE f42n12 f42L13 0
def f42r6 := f42s 60
def f42r6_0 := mvE f42r6 0 1 0 16
def f42r6_1 := lnE f42r6 1 2 16 17
def f42r6_2 := bnE f42r6 2 3 Tryz.prog 17 18 .sub 3 1
def f42r6_3 := mvL f42r6 3 18 7
def f42n11_eq := nrE f42n11 f42r6 f42n12
def f42n23 := f42d 31
def f42r11 := f42s 62
def f42r11_0 := ciE f42r11 0 1 4 0
def f42r11_1 := ciL f42r11 1 5 7
def f42n23_eq := nrR f42n23 f42r11
def f42n10_eq := ntE f42n10 f42n11 f42n23
def f42n6_eq := ntE f42n6 f42n7 f42n10
def f42n1_eq := ntE f42n1 f42n2 f42n6
def f42r0 := f42s 2
def f42r0_0 := ciE f42r0 0 1 4 0
def f42r0_1 := ciL f42r0 1 5 0
def f42n_eq := nrE f42n f42r0 f42n1
def f42_calls := caE Tryz.prog 42 Tryz.f42 f42b f42n 31 [.tmp 4, .tmp 5] Tryz.func42 mixed
attribute [go_sem] f42n4_eq f42r2_0 f42r2_1 f42n3_eq f42r1_0 f42r1_1 f42r1_2 f42n2_eq f42n8_eq f42r4_0 f42r4_1 f42r4_2 f42n7_eq f42n16_eq f42r7_0 f42r7_1 f42n15_eq f42r10_0 f42r10_1 f42r10_2 f42n21_eq f42n20_eq f42r9_0 f42r9_1 f42r9_2 f42r9_3 f42r9_4 f42r9_5 f42r9_6 f42n19_eq f42n18_eq f42r8_0 f42r8_1
attribute [go_sem] f42r8_2 f42n22_eq f42n17_eq f42n14_eq f42n12_eq f42r6_0 f42r6_1 f42r6_2 f42r6_3 f42n11_eq f42r11_0 f42r11_1 f42n23_eq f42n10_eq f42n6_eq f42n1_eq f42r0_0 f42r0_1 f42n_eq
noncomputable def f43b : Code := Tryz.f43.body.getD .skip
def f43d := ndB Tryz.prog f43b
def f43s := rsB Tryz.prog f43b
def f43n : WP := wpA Tryz.prog f43b
def f43n1 := f43d 3
def f43n2 := f43d 7
def f43n3 := f43d 14
def f43n4 := f43d 29
def f43n5 := f43d 58
def f43r3 := f43s 116
def f43r3_0 := nlE f43r3 0 1 4 42 5
def f43r3_1 := ciL f43r3 1 5 1
def f43n5_eq := nrR f43n5 f43r3
def f43n4_eq := ncN f43n4 23 f43n5
def f43r2 := f43s 28
def f43r2_0 := mvE f43r2 0 1 7 16
def f43r2_1 := bnE f43r2 1 2 Tryz.prog 16 17 .neq 30 0
def f43r2_2 := mvE f43r2 2 3 17 18
def f43r2_3 := gfa f43r2 3 4 18 false 0 3 19
def f43r2_4 := gls f43r2 4 5 18 false 1 19 20
def f43r2_5 := gcl f43r2 5 6 18 false Tryz.prog 21 75 [.const (.int .i64 1), .tmp 20, .const (.int .i64 1000000)]
def f43r2_6 := gno f43r2 6 7 18 false 21 22
def f43r2_7 := ptL f43r2 7 18 23 22
def f43n3_eq := nrE f43n3 f43r2 f43n4
def f43n6 := f43d 15
def f43n7 := f43d 31
def f43n8 := f43d 62
def f43n9 := f43d 125
def f43n10 := f43d 250
noncomputable def f43r6a := raB f43b 250
theorem f43r6wr : cutAt f43r6a = some 8 := by kernel_rfl
theorem f43r6tl : (Region.lexTailB .any f43r6a 8 && (f43r6a.toList.take 8).all noCall) = false := by kernel_rfl
theorem f43r6mv : (lexMoveB .any f43r6a 8 && (f43r6a.toList.take 8).all noCall && tailB f43r6a 8) = false := by kernel_rfl
theorem f43r6cb : callB f43r6a 8 = false := by kernel_rfl
theorem f43r6so : (stoB f43r6a 8 && scCalls Tryz.prog f43r6a 8) = false := by kernel_rfl
theorem f43r6nw : (newB f43r6a 8 && scCalls Tryz.prog f43r6a 8) = false := by kernel_rfl
theorem f43r6ap : (appB f43r6a 8 && noClo f43r6a 8) = false := by kernel_rfl
theorem f43r6qt : (Region.lexTailB .any f43r6a 8 && noClo f43r6a 8) = false := by kernel_rfl
theorem f43r6bk : backB f43r6a = true := by kernel_rfl
def f43r6M : SP := anyA Tryz.prog f43r6a
def f43r6p (i : Nat) : SP := anyP Tryz.prog f43r6a i
def f43r6_p0 := mvL f43r6p 0 8 33
def f43r6_p1 := clL f43r6p 1 Tryz.prog 34 41 [.const (.int .i64 3)]
def f43r6_p2 := faL f43r6p 2 0 3 35
def f43r6_p3 := lsL f43r6p 3 1 35 36
def f43r6_p4 := mvL f43r6p 4 6 37
def f43r6_p5 := faL f43r6p 5 3 2 38
def f43r6_p6 := lsL f43r6p 6 1 38 39
theorem f43r6_p7 : Run (f43r6p 7 K ⟨e, m⟩) = Run (withV (lk e 34) fun v1 => withVs (St.evs ⟨e, m⟩ [.tmp 36, .tmp 37, .tmp 39]) fun vs => callA Tryz.prog (some 40) v1 vs K ⟨e, m⟩) := rk
def f43r6_p8 := bsL f43r6p 8 41 42 5 1 (.agg [.int .i64 0, .int .i64 0, .int .i64 0, .int .i64 0, .int .i64 0]) [(0, .tmp 40)]
def f43r6_p9 := apL f43r6p 9 Tryz.prog 42 33 41 36
def f43r6_p10 := mvL f43r6p 10 42 8
theorem f43r6_any (F : (Nat → Bool) → St) {K : St → Prop} {s : St} (h : (F fun _ => false).le s) (h0 : ∀ b : Nat → Bool, b 0 = false → b 9 = false → b 10 = false → Run (f43r6p 0 (fun st => (F (upd b 0)).le st) (F b))) (h1 : ∀ b : Nat → Bool, b 1 = false → b 7 = false → b 10 = false → Run (f43r6p 1 (fun st => (F (upd b 1)).le st) (F b))) (h2 : ∀ b : Nat → Bool, b 2 = false → b 3 = false → b 10 = false → Run (f43r6p 2 (fun st => (F (upd b 2)).le st) (F b))) (h3 : ∀ b : Nat → Bool, b 3 = false → b 2 = true → b 7 = false → b 10 = false → Run (f43r6p 3 (fun st => (F (upd b 3)).le st) (F b))) (h4 : ∀ b : Nat → Bool, b 4 = false → b 7 = false → b 10 = false → Run (f43r6p 4 (fun st => (F (upd b 4)).le st) (F b))) (h5 : ∀ b : Nat → Bool, b 5 = false → b 6 = false → b 10 = false → Run (f43r6p 5 (fun st => (F (upd b 5)).le st) (F b))) (h6 : ∀ b : Nat → Bool, b 6 = false → b 5 = true → b 7 = false → b 10 = false → Run (f43r6p 6 (fun st => (F (upd b 6)).le st) (F b))) (h7 : ∀ b : Nat → Bool, b 7 = false → b 1 = true → b 3 = true → b 4 = true → b 6 = true → b 8 = false → b 9 = false → b 10 = false → Run (f43r6p 7 (fun st => (F (upd b 7)).le st) (F b))) (h8 : ∀ b : Nat → Bool, b 8 = false → b 7 = true → b 9 = false → b 10 = false → Run (f43r6p 8 (fun st => (F (upd b 8)).le st) (F b))) (h9 : ∀ b : Nat → Bool, b 9 = false → b 0 = true → b 7 = true → b 8 = true → b 10 = false → Run (f43r6p 9 (fun st => (F (upd b 9)).le st) (F b))) (h10 : ∀ b : Nat → Bool, b 10 = false → b 0 = true → b 1 = true → b 2 = true → b 3 = true → b 4 = true → b 5 = true → b 6 = true → b 7 = true → b 8 = true → b 9 = true → Run (f43r6p 10 (fun st => (F (upd b 10)).le st) (F b))) (hK : ∀ b : Nat → Bool, b 0 = true → b 1 = true → b 2 = true → b 3 = true → b 4 = true → b 5 = true → b 6 = true → b 7 = true → b 8 = true → b 9 = true → b 10 = true → Run (K (F b))) : Run (f43r6M K s) := by
  refine ⟨F, h, fun b hb => hK b (hb 0 (Nat.lt_of_lt_of_eq (by decide : 0 < 11) (by kernel_rfl))) (hb 1 (Nat.lt_of_lt_of_eq (by decide : 1 < 11) (by kernel_rfl))) (hb 2 (Nat.lt_of_lt_of_eq (by decide : 2 < 11) (by kernel_rfl))) (hb 3 (Nat.lt_of_lt_of_eq (by decide : 3 < 11) (by kernel_rfl))) (hb 4 (Nat.lt_of_lt_of_eq (by decide : 4 < 11) (by kernel_rfl))) (hb 5 (Nat.lt_of_lt_of_eq (by decide : 5 < 11) (by kernel_rfl))) (hb 6 (Nat.lt_of_lt_of_eq (by decide : 6 < 11) (by kernel_rfl))) (hb 7 (Nat.lt_of_lt_of_eq (by decide : 7 < 11) (by kernel_rfl))) (hb 8 (Nat.lt_of_lt_of_eq (by decide : 8 < 11) (by kernel_rfl))) (hb 9 (Nat.lt_of_lt_of_eq (by decide : 9 < 11) (by kernel_rfl))) (hb 10 (Nat.lt_of_lt_of_eq (by decide : 10 < 11) (by kernel_rfl))), fun b i o ho hb hw hs => ?_⟩
  have hi : i < 11 := Nat.lt_of_lt_of_eq (Array.getElem?_eq_some_iff.1 ho).1 (by kernel_rfl)
  rcases (show i = 0 ∨ i = 1 ∨ i = 2 ∨ i = 3 ∨ i = 4 ∨ i = 5 ∨ i = 6 ∨ i = 7 ∨ i = 8 ∨ i = 9 ∨ i = 10 by omega) with rfl | rfl | rfl | rfl | rfl | rfl | rfl | rfl | rfl | rfl | rfl
  · exact any_step (by kernel_rfl) ho (h0 b hb (hs 9 (by kernel_rfl)) (hs 10 (by kernel_rfl)))
  · exact any_step (by kernel_rfl) ho (h1 b hb (hs 7 (by kernel_rfl)) (hs 10 (by kernel_rfl)))
  · exact any_step (by kernel_rfl) ho (h2 b hb (hs 3 (by kernel_rfl)) (hs 10 (by kernel_rfl)))
  · exact any_step (by kernel_rfl) ho (h3 b hb (hw 2 (by kernel_rfl)) (hs 7 (by kernel_rfl)) (hs 10 (by kernel_rfl)))
  · exact any_step (by kernel_rfl) ho (h4 b hb (hs 7 (by kernel_rfl)) (hs 10 (by kernel_rfl)))
  · exact any_step (by kernel_rfl) ho (h5 b hb (hs 6 (by kernel_rfl)) (hs 10 (by kernel_rfl)))
  · exact any_step (by kernel_rfl) ho (h6 b hb (hw 5 (by kernel_rfl)) (hs 7 (by kernel_rfl)) (hs 10 (by kernel_rfl)))
  · exact any_step (by kernel_rfl) ho (h7 b hb (hw 1 (by kernel_rfl)) (hw 3 (by kernel_rfl)) (hw 4 (by kernel_rfl)) (hw 6 (by kernel_rfl)) (hs 8 (by kernel_rfl)) (hs 9 (by kernel_rfl)) (hs 10 (by kernel_rfl)))
  · exact any_step (by kernel_rfl) ho (h8 b hb (hw 7 (by kernel_rfl)) (hs 9 (by kernel_rfl)) (hs 10 (by kernel_rfl)))
  · exact any_step (by kernel_rfl) ho (h9 b hb (hw 0 (by kernel_rfl)) (hw 7 (by kernel_rfl)) (hw 8 (by kernel_rfl)) (hs 10 (by kernel_rfl)))
  · exact any_step (by kernel_rfl) ho (h10 b hb (hw 0 (by kernel_rfl)) (hw 1 (by kernel_rfl)) (hw 2 (by kernel_rfl)) (hw 3 (by kernel_rfl)) (hw 4 (by kernel_rfl)) (hw 5 (by kernel_rfl)) (hw 6 (by kernel_rfl)) (hw 7 (by kernel_rfl)) (hw 8 (by kernel_rfl)) (hw 9 (by kernel_rfl)))
theorem f43n10_eq : Run (f43n10 Q s) = Run (f43r6M (Q .normal) s) := run_eq (Eq.trans (b := drawA Tryz.prog f43r6a (Q .normal) s) (by kernel_rfl) (Eq.trans (draw_any f43r6wr f43r6tl f43r6mv f43r6cb f43r6so f43r6nw f43r6ap f43r6qt f43r6bk) (by kernel_rfl)))
def f43n9_eq := ncN f43n9 32 f43n10
def f43r5 := f43s 124
def f43r5_0 := mvE f43r5 0 1 6 31
def f43r5_1 := bnL f43r5 1 Tryz.prog 31 32 .gtr 3 0
def f43n8_eq := nrE f43n8 f43r5 f43n9
def f43n11 := f43d 63
def f43r7 := f43s 126
def f43r7_0 := mvE f43r7 0 1 8 43
def f43r7_1 := mvE f43r7 1 2 43 4
def f43r7_2 := ciL f43r7 2 5 0
def f43n11_eq := nrR f43n11 f43r7
def f43n7_eq := ntE f43n7 f43n8 f43n11
noncomputable def f43r4a := raB f43b 30
theorem f43r4wr : cutAt f43r4a = some 6 := by kernel_rfl
theorem f43r4tl : (Region.lexTailB .any f43r4a 6 && (f43r4a.toList.take 6).all noCall) = false := by kernel_rfl
theorem f43r4mv : (lexMoveB .any f43r4a 6 && (f43r4a.toList.take 6).all noCall && tailB f43r4a 6) = false := by kernel_rfl
theorem f43r4cb : callB f43r4a 6 = false := by kernel_rfl
theorem f43r4so : (stoB f43r4a 6 && scCalls Tryz.prog f43r4a 6) = false := by kernel_rfl
theorem f43r4nw : (newB f43r4a 6 && scCalls Tryz.prog f43r4a 6) = false := by kernel_rfl
theorem f43r4ap : (appB f43r4a 6 && noClo f43r4a 6) = false := by kernel_rfl
theorem f43r4qt : (Region.lexTailB .any f43r4a 6 && noClo f43r4a 6) = false := by kernel_rfl
theorem f43r4bk : backB f43r4a = true := by kernel_rfl
def f43r4M : SP := anyA Tryz.prog f43r4a
def f43r4p (i : Nat) : SP := anyP Tryz.prog f43r4a i
def f43r4_p0 := clL f43r4p 0 Tryz.prog 24 41 [.const (.int .i64 2)]
def f43r4_p1 := faL f43r4p 1 0 3 25
def f43r4_p2 := lsL f43r4p 2 1 25 26
def f43r4_p3 := faL f43r4p 3 2 2 27
def f43r4_p4 := lsL f43r4p 4 1 27 28
theorem f43r4_p5 : Run (f43r4p 5 K ⟨e, m⟩) = Run (withV (lk e 24) fun v1 => withVs (St.evs ⟨e, m⟩ [.tmp 26, .const (.int .i64 1), .tmp 28]) fun vs => callA Tryz.prog (some 29) v1 vs K ⟨e, m⟩) := rk
def f43r4_p6 := bsL f43r4p 6 30 42 5 1 (.agg [.int .i64 0, .int .i64 0, .int .i64 0, .int .i64 0, .int .i64 0]) [(0, .tmp 29)]
def f43r4_p7 := mvL f43r4p 7 30 8
theorem f43r4_any (F : (Nat → Bool) → St) {K : St → Prop} {s : St} (h : (F fun _ => false).le s) (h0 : ∀ b : Nat → Bool, b 0 = false → b 5 = false → b 7 = false → Run (f43r4p 0 (fun st => (F (upd b 0)).le st) (F b))) (h1 : ∀ b : Nat → Bool, b 1 = false → b 2 = false → b 7 = false → Run (f43r4p 1 (fun st => (F (upd b 1)).le st) (F b))) (h2 : ∀ b : Nat → Bool, b 2 = false → b 1 = true → b 5 = false → b 7 = false → Run (f43r4p 2 (fun st => (F (upd b 2)).le st) (F b))) (h3 : ∀ b : Nat → Bool, b 3 = false → b 4 = false → b 7 = false → Run (f43r4p 3 (fun st => (F (upd b 3)).le st) (F b))) (h4 : ∀ b : Nat → Bool, b 4 = false → b 3 = true → b 5 = false → b 7 = false → Run (f43r4p 4 (fun st => (F (upd b 4)).le st) (F b))) (h5 : ∀ b : Nat → Bool, b 5 = false → b 0 = true → b 2 = true → b 4 = true → b 6 = false → b 7 = false → Run (f43r4p 5 (fun st => (F (upd b 5)).le st) (F b))) (h6 : ∀ b : Nat → Bool, b 6 = false → b 5 = true → b 7 = false → Run (f43r4p 6 (fun st => (F (upd b 6)).le st) (F b))) (h7 : ∀ b : Nat → Bool, b 7 = false → b 0 = true → b 1 = true → b 2 = true → b 3 = true → b 4 = true → b 5 = true → b 6 = true → Run (f43r4p 7 (fun st => (F (upd b 7)).le st) (F b))) (hK : ∀ b : Nat → Bool, b 0 = true → b 1 = true → b 2 = true → b 3 = true → b 4 = true → b 5 = true → b 6 = true → b 7 = true → Run (K (F b))) : Run (f43r4M K s) := by
  refine ⟨F, h, fun b hb => hK b (hb 0 (Nat.lt_of_lt_of_eq (by decide : 0 < 8) (by kernel_rfl))) (hb 1 (Nat.lt_of_lt_of_eq (by decide : 1 < 8) (by kernel_rfl))) (hb 2 (Nat.lt_of_lt_of_eq (by decide : 2 < 8) (by kernel_rfl))) (hb 3 (Nat.lt_of_lt_of_eq (by decide : 3 < 8) (by kernel_rfl))) (hb 4 (Nat.lt_of_lt_of_eq (by decide : 4 < 8) (by kernel_rfl))) (hb 5 (Nat.lt_of_lt_of_eq (by decide : 5 < 8) (by kernel_rfl))) (hb 6 (Nat.lt_of_lt_of_eq (by decide : 6 < 8) (by kernel_rfl))) (hb 7 (Nat.lt_of_lt_of_eq (by decide : 7 < 8) (by kernel_rfl))), fun b i o ho hb hw hs => ?_⟩
  have hi : i < 8 := Nat.lt_of_lt_of_eq (Array.getElem?_eq_some_iff.1 ho).1 (by kernel_rfl)
  rcases (show i = 0 ∨ i = 1 ∨ i = 2 ∨ i = 3 ∨ i = 4 ∨ i = 5 ∨ i = 6 ∨ i = 7 by omega) with rfl | rfl | rfl | rfl | rfl | rfl | rfl | rfl
  · exact any_step (by kernel_rfl) ho (h0 b hb (hs 5 (by kernel_rfl)) (hs 7 (by kernel_rfl)))
  · exact any_step (by kernel_rfl) ho (h1 b hb (hs 2 (by kernel_rfl)) (hs 7 (by kernel_rfl)))
  · exact any_step (by kernel_rfl) ho (h2 b hb (hw 1 (by kernel_rfl)) (hs 5 (by kernel_rfl)) (hs 7 (by kernel_rfl)))
  · exact any_step (by kernel_rfl) ho (h3 b hb (hs 4 (by kernel_rfl)) (hs 7 (by kernel_rfl)))
  · exact any_step (by kernel_rfl) ho (h4 b hb (hw 3 (by kernel_rfl)) (hs 5 (by kernel_rfl)) (hs 7 (by kernel_rfl)))
  · exact any_step (by kernel_rfl) ho (h5 b hb (hw 0 (by kernel_rfl)) (hw 2 (by kernel_rfl)) (hw 4 (by kernel_rfl)) (hs 6 (by kernel_rfl)) (hs 7 (by kernel_rfl)))
  · exact any_step (by kernel_rfl) ho (h6 b hb (hw 5 (by kernel_rfl)) (hs 7 (by kernel_rfl)))
  · exact any_step (by kernel_rfl) ho (h7 b hb (hw 0 (by kernel_rfl)) (hw 1 (by kernel_rfl)) (hw 2 (by kernel_rfl)) (hw 3 (by kernel_rfl)) (hw 4 (by kernel_rfl)) (hw 5 (by kernel_rfl)) (hw 6 (by kernel_rfl)))
theorem f43n6_eq : Run (f43n6 Q s) = Run (f43r4M (f43n7 Q) s) := run_eq (Eq.trans (b := drawA Tryz.prog f43r4a (f43n7 Q) s) (by kernel_rfl) (Eq.trans (draw_any f43r4wr f43r4tl f43r4mv f43r4cb f43r4so f43r4nw f43r4ap f43r4qt f43r4bk) (by kernel_rfl)))
def f43n2_eq := ntE f43n2 f43n3 f43n6
def f43r1 := f43s 6
def f43r1_0 := lgE f43r1 0 1 5 2 10
def f43r1_1 := faE f43r1 1 2 4 3 11
def f43r1_2 := lgE f43r1 2 3 2 11 12
def f43r1_3 := clE f43r1 3 4 Tryz.prog 13 78 [.tmp 10, .tmp 12]
def f43r1_4 := mvE f43r1 4 5 13 9
def f43r1_5 := exE f43r1 5 6 9 14 0
def f43r1_6 := exE f43r1 6 7 9 15 1
def f43r1_7 := mvE f43r1 7 8 14 6
def f43r1_8 := mvL f43r1 8 15 7
def f43n1_eq := nrE f43n1 f43r1 f43n2
def f43r0 := f43s 2
def f43r0_0 := bxE f43r0 0 1 2 0
def f43r0_1 := bxE f43r0 1 2 3 1
def f43r0_2 := nlE f43r0 2 3 4 42 5
def f43r0_3 := ciL f43r0 3 5 0
def f43n_eq := nrE f43n f43r0 f43n1
def f43_calls := caE Tryz.prog 43 Tryz.f43 f43b f43n 44 [.tmp 4, .tmp 5] Tryz.func43 mixed
attribute [go_sem] f43r3_0 f43r3_1 f43n5_eq f43n4_eq f43r2_0 f43r2_1 f43r2_2 f43r2_3 f43r2_4 f43r2_5 f43r2_6 f43r2_7 f43n3_eq f43r6_p0 f43r6_p1 f43r6_p2 f43r6_p3 f43r6_p4 f43r6_p5 f43r6_p6 f43r6_p7 f43r6_p8 f43r6_p9 f43r6_p10 f43n10_eq f43n9_eq f43r5_0 f43r5_1 f43n8_eq f43r7_0 f43r7_1 f43r7_2 f43n11_eq f43n7_eq f43r4_p0 f43r4_p1 f43r4_p2 f43r4_p3 f43r4_p4 f43r4_p5
attribute [go_sem] f43r4_p6 f43r4_p7 f43n6_eq f43n2_eq f43r1_0 f43r1_1 f43r1_2 f43r1_3 f43r1_4 f43r1_5 f43r1_6 f43r1_7 f43r1_8 f43n1_eq f43r0_0 f43r0_1 f43r0_2 f43r0_3 f43n_eq
noncomputable def f46b : Code := Tryz.f46.body.getD .skip
def f46d := ndB Tryz.prog f46b
def f46s := rsB Tryz.prog f46b
def f46n : WP := wpA Tryz.prog f46b
def f46n1 := f46d 3
def f46n2 := f46d 6
def f46n3 := f46d 13
def f46L4 := f46d 26
def f46n5 := f46d 52
def f46n6 := f46d 105
def f46n7 := f46d 210
def f46n7_eq := ncX f46n7 9 0
def f46n8 := f46d 211
def f46n9 := f46d 422
def f46n10 := f46d 844
def f46n11 := f46d 1689
def f46n12 := f46d 3379
def f46n13 := f46d 6758
def f46r5 := f46s 13516
def f46r5_0 := mvE f46r5 0 1 5 17
def f46r5_1 := mvL f46r5 1 17 4
def f46n13_eq := nrR f46n13 f46r5
def f46n12_eq := ncN f46n12 16 f46n13
def f46r4 := f46s 3378
def f46r4_0 := mvE f46r4 0 1 1 11
def f46r4_1 := mvE f46r4 1 2 0 12
def f46r4_2 := mvE f46r4 2 3 5 13
def f46r4_3 := iaE f46r4 3 4 7 12 13 14
def f46r4_4 := lgE f46r4 4 5 7 14 15
theorem f46r4_5 : Run (f46r4 5 K ⟨e, m⟩) = Run (withV (lk e 11) fun v1 => withVs (St.evs ⟨e, m⟩ [.tmp 15]) fun vs => callA Tryz.prog (some 16) v1 vs K ⟨e, m⟩) := rk
def f46n11_eq := nrE f46n11 f46r4 f46n12
def f46r3 := f46s 1688
def f46r3_0 := mvE f46r3 0 1 8 10
def f46r3_1 := mvL f46r3 1 10 5
def f46n10_eq := nrE f46n10 f46r3 f46n11
def f46n9_eq := nbE f46n9 f46n10 1
def f46n14 := f46d 423
def f46r6 := f46s 423
def f46r6_0 := bnE f46r6 0 1 Tryz.prog 8 18 .add 3 1
def f46r6_1 := mvL f46r6 1 18 8
def f46n14_eq := nrN f46n14 f46r6
def f46n8_eq := ntE f46n8 f46n9 f46n14
def f46n6_eq := ntE f46n6 f46n7 f46n8
def f46r2 := f46s 104
def f46r2_0 := biL f46r2 0 Tryz.prog 8 7 9 .lss 3
def f46n5_eq := nrE f46n5 f46r2 f46n6
def f46L4_is := loE f46L4 f46n5 Tryz.prog f46b 52
def f46n3_eq := nbE f46n3 f46L4 0
def f46r1 := f46s 12
def f46r1_0 := mvE f46r1 0 1 0 6
def f46r1_1 := lnE f46r1 1 2 6 7
def f46r1_2 := ciL f46r1 2 8 0
def f46n2_eq := nrE f46n2 f46r1 f46n3
def f46n15 := f46d 7
def f46r7 := f46s 14
def f46r7_0 := ciL f46r7 0 4 (-1)
def f46n15_eq := nrR f46n15 f46r7
def f46n1_eq := ntE f46n1 f46n2 f46n15
def f46r0 := f46s 2
def f46r0_0 := ciL f46r0 0 4 0
def f46n_eq := nrE f46n f46r0 f46n1
def f46_calls := caE Tryz.prog 46 Tryz.f46 f46b f46n 19 [.tmp 4] Tryz.func46 mixed
attribute [go_sem] f46n7_eq f46r5_0 f46r5_1 f46n13_eq f46n12_eq f46r4_0 f46r4_1 f46r4_2 f46r4_3 f46r4_4 f46r4_5 f46n11_eq f46r3_0 f46r3_1 f46n10_eq f46n9_eq f46r6_0 f46r6_1 f46n14_eq f46n8_eq f46n6_eq f46r2_0 f46n5_eq f46n3_eq f46r1_0 f46r1_1 f46r1_2 f46n2_eq f46r7_0 f46n15_eq f46n1_eq f46r0_0 f46n_eq
noncomputable def f47b : Code := Tryz.f47.body.getD .skip
def f47d := ndB Tryz.prog f47b
def f47s := rsB Tryz.prog f47b
def f47n : WP := wpA Tryz.prog f47b
def f47n1 := f47d 3
def f47r1 := f47s 6
def f47r1_0 := faE f47r1 0 1 0 2 4
def f47r1_1 := lsE f47r1 1 2 1 4 5
def f47r1_2 := faE f47r1 2 3 1 1 6
def f47r1_3 := lsE f47r1 3 4 1 6 7
def f47r1_4 := biE f47r1 4 5 Tryz.prog 5 7 8 .eql 3
def f47r1_5 := mvL f47r1 5 8 3
def f47n1_eq := nrR f47n1 f47r1
def f47r0 := f47s 2
def f47r0_0 := bxE f47r0 0 1 2 0
def f47r0_1 := cbL f47r0 1 3 false
def f47n_eq := nrE f47n f47r0 f47n1
def f47_calls := caE Tryz.prog 47 Tryz.f47 f47b f47n 9 [.tmp 3] Tryz.func47 mixed
attribute [go_sem] f47r1_0 f47r1_1 f47r1_2 f47r1_3 f47r1_4 f47r1_5 f47n1_eq f47r0_0 f47r0_1 f47n_eq
noncomputable def f48b : Code := Tryz.f48.body.getD .skip
def f48d := ndB Tryz.prog f48b
def f48s := rsB Tryz.prog f48b
def f48n : WP := wpA Tryz.prog f48b
def f48n1 := f48d 3
def f48n2 := f48d 7
def f48n3 := f48d 14
def f48n4 := f48d 29
def f48L5 := f48d 58
def f48n6 := f48d 116
def f48n7 := f48d 232
def f48n8 := f48d 465
def f48n8_eq := ncX f48n8 11 0
def f48r3 := f48s 464
def f48r3_0 := mvE f48r3 0 1 4 8
def f48r3_1 := mvE f48r3 1 2 0 9
def f48r3_2 := lnE f48r3 2 3 9 10
def f48r3_3 := biL f48r3 3 Tryz.prog 8 10 11 .lss 3
def f48n7_eq := nrE f48n7 f48r3 f48n8
def f48n9 := f48d 233
def f48n10 := f48d 466
def f48n11 := f48d 932
def f48n12 := f48d 1865
def f48n13 := f48d 3730
def f48L14 := f48d 7460
def f48n15 := f48d 14920
def f48n16 := f48d 29840
def f48n17 := f48d 59681
def f48n17_eq := ncX f48n17 68 2
noncomputable def f48r6a := raB f48b 59680
def f48r6 (i : Nat) : SP := opsQ Tryz.prog f48r6a (f48r6a.toList.drop i)
theorem f48r6wr : cutAt f48r6a = none := by kernel_rfl
theorem f48r6lex : Region.lexB .any f48r6a = true := by kernel_rfl
theorem f48r6my : manyB f48r6a = false := by kernel_rfl
def f48r6_0 := mvE f48r6 0 1 5 16
def f48r6_1 := bnE f48r6 1 2 Tryz.prog 16 17 .gtr 3 0
def f48r6_2 := mvE f48r6 2 3 17 18
def f48r6_3 := gmv f48r6 3 4 18 true 0 19
def f48r6_4 := gmv f48r6 4 5 18 true 4 20
def f48r6_5 := gia f48r6 5 6 18 true 7 19 20 21
def f48r6_6 := gfa f48r6 6 7 18 true 3 21 22
def f48r6_7 := gls f48r6 7 8 18 true 1 22 23
def f48r6_8 := gmv f48r6 8 9 18 true 0 24
def f48r6_9 := gmv f48r6 9 10 18 true 3 25
def f48r6_10 := gmv f48r6 10 11 18 true 5 26
def f48r6_11 := gbn f48r6 11 12 18 true Tryz.prog 26 27 .sub 3 1
def f48r6_12 := gia f48r6 12 13 18 true 1 25 27 28
def f48r6_13 := gls f48r6 13 14 18 true 1 28 29
def f48r6_14 := gia f48r6 14 15 18 true 7 24 29 30
def f48r6_15 := gfa f48r6 15 16 18 true 3 30 31
def f48r6_16 := gls f48r6 16 17 18 true 1 31 32
def f48r6_17 := gbi f48r6 17 18 18 true Tryz.prog 23 32 33 .lss 3
def f48r6_18 := gmv f48r6 18 19 18 true 33 34
def f48r6_19 := gmv f48r6 19 20 34 false 0 35
def f48r6_20 := gmv f48r6 20 21 34 false 4 36
def f48r6_21 := gia f48r6 21 22 34 false 7 35 36 37
def f48r6_22 := gfa f48r6 22 23 34 false 3 37 38
def f48r6_23 := gls f48r6 23 24 34 false 1 38 39
def f48r6_24 := gmv f48r6 24 25 34 false 0 40
def f48r6_25 := gmv f48r6 25 26 34 false 3 41
def f48r6_26 := gmv f48r6 26 27 34 false 5 42
def f48r6_27 := gbn f48r6 27 28 34 false Tryz.prog 42 43 .sub 3 1
def f48r6_28 := gia f48r6 28 29 34 false 1 41 43 44
def f48r6_29 := gls f48r6 29 30 34 false 1 44 45
def f48r6_30 := gia f48r6 30 31 34 false 7 40 45 46
def f48r6_31 := gfa f48r6 31 32 34 false 3 46 47
def f48r6_32 := gls f48r6 32 33 34 false 1 47 48
def f48r6_33 := gbi f48r6 33 34 34 false Tryz.prog 39 48 49 .eql 3
def f48r6_34 := gmv f48r6 34 35 34 false 49 50
def f48r6_35 := gmv f48r6 35 36 50 true 0 51
def f48r6_36 := gmv f48r6 36 37 50 true 4 52
def f48r6_37 := gia f48r6 37 38 50 true 7 51 52 53
def f48r6_38 := gfa f48r6 38 39 50 true 0 53 54
def f48r6_39 := gls f48r6 39 40 50 true 1 54 55
def f48r6_40 := gmv f48r6 40 41 50 true 0 56
def f48r6_41 := gmv f48r6 41 42 50 true 3 57
def f48r6_42 := gmv f48r6 42 43 50 true 5 58
def f48r6_43 := gbn f48r6 43 44 50 true Tryz.prog 58 59 .sub 3 1
def f48r6_44 := gia f48r6 44 45 50 true 1 57 59 60
def f48r6_45 := gls f48r6 45 46 50 true 1 60 61
def f48r6_46 := gia f48r6 46 47 50 true 7 56 61 62
def f48r6_47 := gfa f48r6 47 48 50 true 0 62 63
def f48r6_48 := gls f48r6 48 49 50 true 1 63 64
def f48r6_49 := gbi f48r6 49 50 50 true Tryz.prog 55 64 65 .lss 3
theorem f48r6_50 : Run (f48r6 50 K ⟨e, m⟩) = Run (gN e m (f48r6 51 K) 34 66 false fun e => pkT e m (f48r6 51 K) 50 66 (lk e 65) (some (.bool false))) := rk
theorem f48r6_51 : Run (f48r6 51 K ⟨e, m⟩) = Run (gN e m (f48r6 52 K) 18 67 true fun e => pkT e m (f48r6 52 K) 34 67 (some (.bool true)) (lk e 66)) := rk
def f48r6_52 := pfL f48r6 52 18 68 67
theorem f48n16_eq : Run (f48n16 Q s) = Run (f48r6 0 (f48n17 Q) s) := run_eq (Eq.trans (b := drawA Tryz.prog f48r6a (f48n17 Q) s) (by kernel_rfl) (Eq.trans (draw_q f48r6wr f48r6lex f48r6my) (by kernel_rfl)))
def f48n18 := f48d 29841
def f48n19 := f48d 59682
def f48r7 := f48s 59682
def f48r7_0 := mvE f48r7 0 1 5 69
def f48r7_1 := bnE f48r7 1 2 Tryz.prog 69 70 .sub 3 1
def f48r7_2 := mvL f48r7 2 70 5
def f48n19_eq := nrN f48n19 f48r7
def f48n18_eq := nbE f48n18 f48n19 3
def f48n15_eq := ntE f48n15 f48n16 f48n18
def f48L14_is := loE f48L14 f48n15 Tryz.prog f48b 14920
def f48n13_eq := nbE f48n13 f48L14 2
def f48n20 := f48d 3731
def f48n21 := f48d 7463
def f48r9 := f48s 7463
def f48r9_0 := mvE f48r9 0 1 3 76
def f48r9_1 := mvE f48r9 1 2 5 77
def f48r9_2 := mvE f48r9 2 3 5 78
theorem f48r9_3 : Run (f48r9 3 K ⟨e, m⟩) = Run (withV (lk e 76) fun v1 => sl3A Tryz.prog 29 v1 (.tmp 77) (.tmp 78) (some 79) (f48r9 4 K) ⟨e, m⟩) := rk
def f48r9_4 := mvE f48r9 4 5 4 80
def f48r9_5 := bsE f48r9 5 6 81 3 1 1 (.int .i64 0) [(0, .tmp 80)]
def f48r9_6 := apE f48r9 6 7 Tryz.prog 82 79 81 29
def f48r9_7 := mvE f48r9 7 8 6 83
def f48r9_8 := apE f48r9 8 9 Tryz.prog 84 82 83 29
def f48r9_9 := mvL f48r9 9 84 3
def f48n21_eq := nrN f48n21 f48r9
def f48r8 := f48s 7462
def f48r8_0 := bsE f48r8 0 1 71 3 1 0 (.int .i64 0) []
def f48r8_1 := mvE f48r8 1 2 3 72
def f48r8_2 := mvE f48r8 2 3 5 73
theorem f48r8_3 : Run (f48r8 3 K ⟨e, m⟩) = Run (withV (lk e 72) fun v1 => slF 1 (fun e => (some (lk e 73))) (fun e => none) v1 74 (f48r8 4 K) e m) := rk
def f48r8_4 := apE f48r8 4 5 Tryz.prog 75 71 74 29
def f48r8_5 := mvL f48r8 5 75 6
def f48n20_eq := nrE f48n20 f48r8 f48n21
def f48n12_eq := ntE f48n12 f48n13 f48n20
def f48r5 := f48s 1864
def f48r5_0 := mvE f48r5 0 1 3 14
def f48r5_1 := lnE f48r5 1 2 14 15
def f48r5_2 := mvL f48r5 2 15 5
def f48n11_eq := nrE f48n11 f48r5 f48n12
def f48n10_eq := nbE f48n10 f48n11 1
def f48n22 := f48d 467
def f48r4 := f48s 467
def f48r4_0 := mvE f48r4 0 1 4 12
def f48r4_1 := bnE f48r4 1 2 Tryz.prog 12 13 .add 3 1
def f48r4_2 := mvL f48r4 2 13 4
def f48n22_eq := nrN f48n22 f48r4
def f48n9_eq := ntE f48n9 f48n10 f48n22
def f48n6_eq := ntE f48n6 f48n7 f48n9
def f48L5_is := loE f48L5 f48n6 Tryz.prog f48b 116
def f48n4_eq := nbE f48n4 f48L5 0
def f48r2 := f48s 28
def f48r2_0 := ciL f48r2 0 4 0
def f48n3_eq := nrE f48n3 f48r2 f48n4
def f48n23 := f48d 15
def f48r10 := f48s 30
def f48r10_0 := mvE f48r10 0 1 3 85
def f48r10_1 := mvL f48r10 1 85 2
def f48n23_eq := nrR f48n23 f48r10
def f48n2_eq := ntE f48n2 f48n3 f48n23
def f48r1 := f48s 6
def f48r1_0 := bsE f48r1 0 1 7 3 1 0 (.int .i64 0) []
def f48r1_1 := mvL f48r1 1 7 3
def f48n1_eq := nrE f48n1 f48r1 f48n2
def f48r0 := f48s 2
def f48r0_0 := nlL f48r0 0 2 3 1
def f48n_eq := nrE f48n f48r0 f48n1
def f48_calls := caE Tryz.prog 48 Tryz.f48 f48b f48n 86 [.tmp 2] Tryz.func48 mixed
attribute [go_sem] f48n8_eq f48r3_0 f48r3_1 f48r3_2 f48r3_3 f48n7_eq f48n17_eq f48r6_0 f48r6_1 f48r6_2 f48r6_3 f48r6_4 f48r6_5 f48r6_6 f48r6_7 f48r6_8 f48r6_9 f48r6_10 f48r6_11 f48r6_12 f48r6_13 f48r6_14 f48r6_15 f48r6_16 f48r6_17 f48r6_18 f48r6_19 f48r6_20 f48r6_21 f48r6_22 f48r6_23 f48r6_24 f48r6_25 f48r6_26 f48r6_27 f48r6_28 f48r6_29 f48r6_30 f48r6_31 f48r6_32
attribute [go_sem] f48r6_33 f48r6_34 f48r6_35 f48r6_36 f48r6_37 f48r6_38 f48r6_39 f48r6_40 f48r6_41 f48r6_42 f48r6_43 f48r6_44 f48r6_45 f48r6_46 f48r6_47 f48r6_48 f48r6_49 f48r6_50 f48r6_51 f48r6_52 f48n16_eq f48r7_0 f48r7_1 f48r7_2 f48n19_eq f48n18_eq f48n15_eq f48n13_eq f48r9_0 f48r9_1 f48r9_2 f48r9_3 f48r9_4 f48r9_5 f48r9_6 f48r9_7 f48r9_8 f48r9_9 f48n21_eq f48r8_0
attribute [go_sem] f48r8_1 f48r8_2 f48r8_3 f48r8_4 f48r8_5 f48n20_eq f48n12_eq f48r5_0 f48r5_1 f48r5_2 f48n11_eq f48n10_eq f48r4_0 f48r4_1 f48r4_2 f48n22_eq f48n9_eq f48n6_eq f48n4_eq f48r2_0 f48n3_eq f48r10_0 f48r10_1 f48n23_eq f48n2_eq f48r1_0 f48r1_1 f48n1_eq f48r0_0 f48n_eq
noncomputable def f49b : Code := Tryz.f49.body.getD .skip
def f49d := ndB Tryz.prog f49b
def f49s := rsB Tryz.prog f49b
def f49n : WP := wpA Tryz.prog f49b
def f49n1 := f49d 3
def f49n2 := f49d 6
def f49n3 := f49d 13
def f49L4 := f49d 26
def f49n5 := f49d 52
def f49n6 := f49d 105
def f49n7 := f49d 210
def f49n7_eq := ncX f49n7 9 0
def f49n8 := f49d 211
def f49n9 := f49d 422
def f49n10 := f49d 844
def f49n11 := f49d 1689
def f49n12 := f49d 3379
def f49n13 := f49d 6758
def f49r5 := f49s 13516
def f49r5_0 := mvE f49r5 0 1 5 17
def f49r5_1 := mvL f49r5 1 17 4
def f49n13_eq := nrR f49n13 f49r5
def f49n12_eq := ncN f49n12 16 f49n13
def f49r4 := f49s 3378
def f49r4_0 := mvE f49r4 0 1 1 11
def f49r4_1 := mvE f49r4 1 2 0 12
def f49r4_2 := mvE f49r4 2 3 5 13
def f49r4_3 := iaE f49r4 3 4 6 12 13 14
def f49r4_4 := lgE f49r4 4 5 6 14 15
theorem f49r4_5 : Run (f49r4 5 K ⟨e, m⟩) = Run (withV (lk e 11) fun v1 => withVs (St.evs ⟨e, m⟩ [.tmp 15]) fun vs => callA Tryz.prog (some 16) v1 vs K ⟨e, m⟩) := rk
def f49n11_eq := nrE f49n11 f49r4 f49n12
def f49r3 := f49s 1688
def f49r3_0 := mvE f49r3 0 1 8 10
def f49r3_1 := mvL f49r3 1 10 5
def f49n10_eq := nrE f49n10 f49r3 f49n11
def f49n9_eq := nbE f49n9 f49n10 1
def f49n14 := f49d 423
def f49r6 := f49s 423
def f49r6_0 := bnE f49r6 0 1 Tryz.prog 8 18 .add 3 1
def f49r6_1 := mvL f49r6 1 18 8
def f49n14_eq := nrN f49n14 f49r6
def f49n8_eq := ntE f49n8 f49n9 f49n14
def f49n6_eq := ntE f49n6 f49n7 f49n8
def f49r2 := f49s 104
def f49r2_0 := biL f49r2 0 Tryz.prog 8 7 9 .lss 3
def f49n5_eq := nrE f49n5 f49r2 f49n6
def f49L4_is := loE f49L4 f49n5 Tryz.prog f49b 52
def f49n3_eq := nbE f49n3 f49L4 0
def f49r1 := f49s 12
def f49r1_0 := mvE f49r1 0 1 0 6
def f49r1_1 := lnE f49r1 1 2 6 7
def f49r1_2 := ciL f49r1 2 8 0
def f49n2_eq := nrE f49n2 f49r1 f49n3
def f49n15 := f49d 7
def f49r7 := f49s 14
def f49r7_0 := ciL f49r7 0 4 (-1)
def f49n15_eq := nrR f49n15 f49r7
def f49n1_eq := ntE f49n1 f49n2 f49n15
def f49r0 := f49s 2
def f49r0_0 := ciL f49r0 0 4 0
def f49n_eq := nrE f49n f49r0 f49n1
def f49_calls := caE Tryz.prog 49 Tryz.f49 f49b f49n 19 [.tmp 4] Tryz.func49 mixed
attribute [go_sem] f49n7_eq f49r5_0 f49r5_1 f49n13_eq f49n12_eq f49r4_0 f49r4_1 f49r4_2 f49r4_3 f49r4_4 f49r4_5 f49n11_eq f49r3_0 f49r3_1 f49n10_eq f49n9_eq f49r6_0 f49r6_1 f49n14_eq f49n8_eq f49n6_eq f49r2_0 f49n5_eq f49n3_eq f49r1_0 f49r1_1 f49r1_2 f49n2_eq f49r7_0 f49n15_eq f49n1_eq f49r0_0 f49n_eq
noncomputable def f50b : Code := Tryz.f50.body.getD .skip
def f50n : WP := wpA Tryz.prog f50b
noncomputable def f50r0a := raB f50b 1
theorem f50r0wr : cutAt f50r0a = some 8 := by kernel_rfl
theorem f50r0tl : (Region.lexTailB .any f50r0a 8 && (f50r0a.toList.take 8).all noCall) = false := by kernel_rfl
theorem f50r0mv : (lexMoveB .any f50r0a 8 && (f50r0a.toList.take 8).all noCall && tailB f50r0a 8) = false := by kernel_rfl
theorem f50r0cb : callB f50r0a 8 = false := by kernel_rfl
theorem f50r0so : (stoB f50r0a 8 && scCalls Tryz.prog f50r0a 8) = false := by kernel_rfl
theorem f50r0nw : (newB f50r0a 8 && scCalls Tryz.prog f50r0a 8) = false := by kernel_rfl
theorem f50r0ap : (appB f50r0a 8 && noClo f50r0a 8) = false := by kernel_rfl
theorem f50r0qt : (Region.lexTailB .any f50r0a 8 && noClo f50r0a 8) = false := by kernel_rfl
theorem f50r0bk : backB f50r0a = true := by kernel_rfl
def f50r0M : SP := anyA Tryz.prog f50r0a
def f50r0p (i : Nat) : SP := anyP Tryz.prog f50r0a i
def f50r0_p0 := lsL f50r0p 0 1 3 7
def f50r0_p1 := lsL f50r0p 1 1 3 8
theorem f50r0_p2 : Run (f50r0p 2 K ⟨e, m⟩) = Run (withV (lk e 8) fun v1 => nilK v1 (fun x => K ⟨(9, x) :: e, m⟩)) := rk
def f50r0_p3 := lsL f50r0p 3 1 9 10
def f50r0_p4 := mvL f50r0p 4 0 11
def f50r0_p5 := mvL f50r0p 5 1 12
def f50r0_p6 := mvL f50r0p 6 2 13
def f50r0_p7 := bdL f50r0p 7 14 [(0, .tmp 11), (1, .tmp 12), (2, .tmp 13)] [(0, 1), (1, 1), (2, 1)] [.int .i64 0, .int .i64 0, .int .i64 0]
def f50r0_p8 := bsL f50r0p 8 15 77 3 1 (.agg [.int .i64 0, .int .i64 0, .int .i64 0]) [(0, .tmp 14)]
def f50r0_p9 := apL f50r0p 9 Tryz.prog 16 10 15 54
theorem f50r0_p10 : Run (f50r0p 10 K ⟨e, m⟩) = Run (withV (lk e 7) fun v1 => nilK v1 (fun x => K ⟨(17, x) :: e, m⟩)) := rk
def f50r0_p11 := stL f50r0p 11 1 17 16
theorem f50r0_any (F : (Nat → Bool) → St) {K : St → Prop} {s : St} (h : (F fun _ => false).le s) (h0 : ∀ b : Nat → Bool, b 0 = false → b 10 = false → b 11 = false → Run (f50r0p 0 (fun st => (F (upd b 0)).le st) (F b))) (h1 : ∀ b : Nat → Bool, b 1 = false → b 2 = false → b 10 = false → b 11 = false → Run (f50r0p 1 (fun st => (F (upd b 1)).le st) (F b))) (h2 : ∀ b : Nat → Bool, b 2 = false → b 1 = true → b 3 = false → b 10 = false → b 11 = false → Run (f50r0p 2 (fun st => (F (upd b 2)).le st) (F b))) (h3 : ∀ b : Nat → Bool, b 3 = false → b 2 = true → b 9 = false → b 10 = false → b 11 = false → Run (f50r0p 3 (fun st => (F (upd b 3)).le st) (F b))) (h4 : ∀ b : Nat → Bool, b 4 = false → b 7 = false → b 10 = false → b 11 = false → Run (f50r0p 4 (fun st => (F (upd b 4)).le st) (F b))) (h5 : ∀ b : Nat → Bool, b 5 = false → b 7 = false → b 10 = false → b 11 = false → Run (f50r0p 5 (fun st => (F (upd b 5)).le st) (F b))) (h6 : ∀ b : Nat → Bool, b 6 = false → b 7 = false → b 10 = false → b 11 = false → Run (f50r0p 6 (fun st => (F (upd b 6)).le st) (F b))) (h7 : ∀ b : Nat → Bool, b 7 = false → b 4 = true → b 5 = true → b 6 = true → b 8 = false → b 10 = false → b 11 = false → Run (f50r0p 7 (fun st => (F (upd b 7)).le st) (F b))) (h8 : ∀ b : Nat → Bool, b 8 = false → b 7 = true → b 9 = false → b 10 = false → b 11 = false → Run (f50r0p 8 (fun st => (F (upd b 8)).le st) (F b))) (h9 : ∀ b : Nat → Bool, b 9 = false → b 3 = true → b 8 = true → b 10 = false → b 11 = false → Run (f50r0p 9 (fun st => (F (upd b 9)).le st) (F b))) (h10 : ∀ b : Nat → Bool, b 10 = false → b 0 = true → b 1 = true → b 2 = true → b 3 = true → b 4 = true → b 5 = true → b 6 = true → b 7 = true → b 8 = true → b 9 = true → b 11 = false → Run (f50r0p 10 (fun st => (F (upd b 10)).le st) (F b))) (h11 : ∀ b : Nat → Bool, b 11 = false → b 0 = true → b 1 = true → b 2 = true → b 3 = true → b 4 = true → b 5 = true → b 6 = true → b 7 = true → b 8 = true → b 9 = true → b 10 = true → Run (f50r0p 11 (fun st => (F (upd b 11)).le st) (F b))) (hK : ∀ b : Nat → Bool, b 0 = true → b 1 = true → b 2 = true → b 3 = true → b 4 = true → b 5 = true → b 6 = true → b 7 = true → b 8 = true → b 9 = true → b 10 = true → b 11 = true → Run (K (F b))) : Run (f50r0M K s) := by
  refine ⟨F, h, fun b hb => hK b (hb 0 (Nat.lt_of_lt_of_eq (by decide : 0 < 12) (by kernel_rfl))) (hb 1 (Nat.lt_of_lt_of_eq (by decide : 1 < 12) (by kernel_rfl))) (hb 2 (Nat.lt_of_lt_of_eq (by decide : 2 < 12) (by kernel_rfl))) (hb 3 (Nat.lt_of_lt_of_eq (by decide : 3 < 12) (by kernel_rfl))) (hb 4 (Nat.lt_of_lt_of_eq (by decide : 4 < 12) (by kernel_rfl))) (hb 5 (Nat.lt_of_lt_of_eq (by decide : 5 < 12) (by kernel_rfl))) (hb 6 (Nat.lt_of_lt_of_eq (by decide : 6 < 12) (by kernel_rfl))) (hb 7 (Nat.lt_of_lt_of_eq (by decide : 7 < 12) (by kernel_rfl))) (hb 8 (Nat.lt_of_lt_of_eq (by decide : 8 < 12) (by kernel_rfl))) (hb 9 (Nat.lt_of_lt_of_eq (by decide : 9 < 12) (by kernel_rfl))) (hb 10 (Nat.lt_of_lt_of_eq (by decide : 10 < 12) (by kernel_rfl))) (hb 11 (Nat.lt_of_lt_of_eq (by decide : 11 < 12) (by kernel_rfl))), fun b i o ho hb hw hs => ?_⟩
  have hi : i < 12 := Nat.lt_of_lt_of_eq (Array.getElem?_eq_some_iff.1 ho).1 (by kernel_rfl)
  rcases (show i = 0 ∨ i = 1 ∨ i = 2 ∨ i = 3 ∨ i = 4 ∨ i = 5 ∨ i = 6 ∨ i = 7 ∨ i = 8 ∨ i = 9 ∨ i = 10 ∨ i = 11 by omega) with rfl | rfl | rfl | rfl | rfl | rfl | rfl | rfl | rfl | rfl | rfl | rfl
  · exact any_step (by kernel_rfl) ho (h0 b hb (hs 10 (by kernel_rfl)) (hs 11 (by kernel_rfl)))
  · exact any_step (by kernel_rfl) ho (h1 b hb (hs 2 (by kernel_rfl)) (hs 10 (by kernel_rfl)) (hs 11 (by kernel_rfl)))
  · exact any_step (by kernel_rfl) ho (h2 b hb (hw 1 (by kernel_rfl)) (hs 3 (by kernel_rfl)) (hs 10 (by kernel_rfl)) (hs 11 (by kernel_rfl)))
  · exact any_step (by kernel_rfl) ho (h3 b hb (hw 2 (by kernel_rfl)) (hs 9 (by kernel_rfl)) (hs 10 (by kernel_rfl)) (hs 11 (by kernel_rfl)))
  · exact any_step (by kernel_rfl) ho (h4 b hb (hs 7 (by kernel_rfl)) (hs 10 (by kernel_rfl)) (hs 11 (by kernel_rfl)))
  · exact any_step (by kernel_rfl) ho (h5 b hb (hs 7 (by kernel_rfl)) (hs 10 (by kernel_rfl)) (hs 11 (by kernel_rfl)))
  · exact any_step (by kernel_rfl) ho (h6 b hb (hs 7 (by kernel_rfl)) (hs 10 (by kernel_rfl)) (hs 11 (by kernel_rfl)))
  · exact any_step (by kernel_rfl) ho (h7 b hb (hw 4 (by kernel_rfl)) (hw 5 (by kernel_rfl)) (hw 6 (by kernel_rfl)) (hs 8 (by kernel_rfl)) (hs 10 (by kernel_rfl)) (hs 11 (by kernel_rfl)))
  · exact any_step (by kernel_rfl) ho (h8 b hb (hw 7 (by kernel_rfl)) (hs 9 (by kernel_rfl)) (hs 10 (by kernel_rfl)) (hs 11 (by kernel_rfl)))
  · exact any_step (by kernel_rfl) ho (h9 b hb (hw 3 (by kernel_rfl)) (hw 8 (by kernel_rfl)) (hs 10 (by kernel_rfl)) (hs 11 (by kernel_rfl)))
  · exact any_step (by kernel_rfl) ho (h10 b hb (hw 0 (by kernel_rfl)) (hw 1 (by kernel_rfl)) (hw 2 (by kernel_rfl)) (hw 3 (by kernel_rfl)) (hw 4 (by kernel_rfl)) (hw 5 (by kernel_rfl)) (hw 6 (by kernel_rfl)) (hw 7 (by kernel_rfl)) (hw 8 (by kernel_rfl)) (hw 9 (by kernel_rfl)) (hs 11 (by kernel_rfl)))
  · exact any_step (by kernel_rfl) ho (h11 b hb (hw 0 (by kernel_rfl)) (hw 1 (by kernel_rfl)) (hw 2 (by kernel_rfl)) (hw 3 (by kernel_rfl)) (hw 4 (by kernel_rfl)) (hw 5 (by kernel_rfl)) (hw 6 (by kernel_rfl)) (hw 7 (by kernel_rfl)) (hw 8 (by kernel_rfl)) (hw 9 (by kernel_rfl)) (hw 10 (by kernel_rfl)))
theorem f50n_eq : Run (f50n Q s) = Run (f50r0M (Q .normal) s) := run_eq (Eq.trans (b := drawA Tryz.prog f50r0a (Q .normal) s) (by kernel_rfl) (Eq.trans (draw_any f50r0wr f50r0tl f50r0mv f50r0cb f50r0so f50r0nw f50r0ap f50r0qt f50r0bk) (by kernel_rfl)))
attribute [go_sem] f50r0_p0 f50r0_p1 f50r0_p2 f50r0_p3 f50r0_p4 f50r0_p5 f50r0_p6 f50r0_p7 f50r0_p8 f50r0_p9 f50r0_p10 f50r0_p11 f50n_eq
noncomputable def f51b : Code := Tryz.f51.body.getD .skip
def f51d := ndB Tryz.prog f51b
def f51s := rsB Tryz.prog f51b
def f51n : WP := wpA Tryz.prog f51b
def f51n1 := f51d 3
def f51n2 := f51d 6
def f51n3 := f51d 13
def f51n4 := f51d 27
def f51n5 := f51d 54
def f51n4_eq := ncN f51n4 17 f51n5
def f51r2 := f51s 26
def f51r2_0 := mvE f51r2 0 1 6 16
def f51r2_1 := bnL f51r2 1 Tryz.prog 16 17 .neq 30 0
def f51n3_eq := nrE f51n3 f51r2 f51n4
def f51r1 := f51s 12
def f51r1_0 := mvE f51r1 0 1 0 14
def f51r1_1 := clE f51r1 1 2 Tryz.prog 15 39 [.tmp 14, .const (.int .i64 256), .const (.int .i64 16)]
def f51r1_2 := mvL f51r1 2 15 6
def f51n2_eq := nrE f51n2 f51r1 f51n3
def f51n6 := f51d 7
def f51n7 := f51d 14
def f51n8 := f51d 29
def f51n9 := f51d 58
def f51n8_eq := ncN f51n8 21 f51n9
def f51r4 := f51s 28
def f51r4_0 := mvE f51r4 0 1 1 19
def f51r4_1 := clE f51r4 1 2 Tryz.prog 20 83 [.tmp 19, .const (.int .i64 0), .const (.int .i64 86400)]
def f51r4_2 := noL f51r4 2 20 21
def f51n7_eq := nrE f51n7 f51r4 f51n8
def f51n10 := f51d 15
def f51n11 := f51d 31
def f51n12 := f51d 63
def f51n13 := f51d 126
def f51n14 := f51d 253
def f51L15 := f51d 506
def f51n16 := f51d 1012
def f51n17 := f51d 2025
def f51n18 := f51d 4050
def f51n18_eq := ncX f51n18 27 0
def f51n19 := f51d 4051
def f51n20 := f51d 8102
def f51n21 := f51d 16204
def f51n22 := f51d 32409
def f51n23 := f51d 64819
def f51n24 := f51d 129639
def f51n25 := f51d 259278
def f51n26 := f51d 518557
theorem f51n26_eq : Run (f51n26 Q ⟨e, m⟩) = Run (withV (lk e 53) fun v => cA v (Q (.exit 1) ⟨(53, .bool true) :: e, m⟩) (Q .normal ⟨(53, .bool false) :: e, m⟩)) := rk
def f51r13 := f51s 518556
def f51r13_0 := faE f51r13 0 1 6 11 41
def f51r13_1 := lsE f51r13 1 2 1 41 42
def f51r13_2 := mvE f51r13 2 3 42 43
def f51r13_3 := gmv f51r13 3 4 43 false 13 44
def f51r13_4 := gmv f51r13 4 5 43 false 44 45
def f51r13_5 := gfa f51r13 5 6 45 true 3 11 46
def f51r13_6 := gls f51r13 6 7 45 true 1 46 47
def f51r13_7 := gmv f51r13 7 8 45 true 12 48
def f51r13_8 := gbi f51r13 8 9 45 true Tryz.prog 47 48 49 .sub 3
def f51r13_9 := gmv f51r13 9 10 45 true 1 50
def f51r13_10 := gbi f51r13 10 11 45 true Tryz.prog 49 50 51 .leq 3
theorem f51r13_11 : Run (f51r13 11 K ⟨e, m⟩) = Run (gN e m (f51r13 12 K) 43 52 false fun e => pkT e m (f51r13 12 K) 45 52 (lk e 51) (some (.bool false))) := rk
def f51r13_12 := ptL f51r13 12 43 53 52
def f51n25_eq := nrE f51n25 f51r13 f51n26
def f51n27 := f51d 259279
def f51n28 := f51d 518559
def f51r15 := f51s 518559
def f51r15_0 := mvE f51r15 0 1 8 59
def f51r15_1 := mvE f51r15 1 2 10 60
def f51r15_2 := bsE f51r15 2 3 61 3 1 1 (.int .i64 0) [(0, .tmp 60)]
def f51r15_3 := apE f51r15 3 4 Tryz.prog 62 59 61 29
def f51r15_4 := mvL f51r15 4 62 8
def f51n28_eq := nrN f51n28 f51r15
def f51r14 := f51s 518558
def f51r14_0 := mvE f51r14 0 1 7 54
def f51r14_1 := faE f51r14 1 2 1 11 55
def f51r14_2 := lsE f51r14 2 3 1 55 56
def f51r14_3 := faE f51r14 3 4 3 11 57
def f51r14_4 := lsE f51r14 4 5 1 57 58
theorem f51r14_5 : Run (f51r14 5 K ⟨e, m⟩) = Run (withV (lk e 54) fun v1 => withV (lk e 56) fun v2 => withV (lk e 58) fun v3 => mapSetA Tryz.prog 149 v1 v2 v3 K ⟨e, m⟩) := rk
def f51n27_eq := nrE f51n27 f51r14 f51n28
def f51n24_eq := ntE f51n24 f51n25 f51n27
def f51r12 := f51s 129638
def f51r12_0 := mvE f51r12 0 1 7 35
def f51r12_1 := faE f51r12 1 2 1 11 36
def f51r12_2 := lsE f51r12 2 3 1 36 37
theorem f51r12_3 : Run (f51r12 3 K ⟨e, m⟩) = Run (withV (lk e 35) fun v1 => withV (lk e 37) fun v2 => lookupA Tryz.prog ⟨e, m⟩ 149 v1 v2 true (fun x => f51r12 4 K ⟨(38, x) :: e, m⟩)) := rk
def f51r12_4 := mvE f51r12 4 5 38 34
def f51r12_5 := exE f51r12 5 6 34 39 0
def f51r12_6 := exE f51r12 6 7 34 40 1
def f51r12_7 := mvE f51r12 7 8 39 12
def f51r12_8 := mvL f51r12 8 40 13
def f51n23_eq := nrE f51n23 f51r12 f51n24
def f51r11 := f51s 64818
def f51r11_0 := mvE f51r11 0 1 0 30
def f51r11_1 := mvE f51r11 1 2 10 31
def f51r11_2 := iaE f51r11 2 3 7 30 31 32
def f51r11_3 := lgE f51r11 3 4 7 32 33
def f51r11_4 := alE f51r11 4 5 11 [.int .i64 0, .int .i64 0, .int .i64 0, .int .i64 0, .int .i64 0, .int .i64 0, .bool false]
def f51r11_5 := stL f51r11 5 7 11 33
def f51n22_eq := nrE f51n22 f51r11 f51n23
def f51r10 := f51s 32408
def f51r10_0 := iaE f51r10 0 1 1 24 26 28
def f51r10_1 := lsE f51r10 1 2 1 28 29
def f51r10_2 := mvL f51r10 2 29 10
def f51n21_eq := nrE f51n21 f51r10 f51n22
def f51n20_eq := nbE f51n20 f51n21 1
def f51n29 := f51d 8103
def f51r16 := f51s 8103
def f51r16_0 := bnE f51r16 0 1 Tryz.prog 26 63 .add 3 1
def f51r16_1 := mvL f51r16 1 63 26
def f51n29_eq := nrN f51n29 f51r16
def f51n19_eq := ntE f51n19 f51n20 f51n29
def f51n17_eq := ntE f51n17 f51n18 f51n19
def f51r9 := f51s 2024
def f51r9_0 := biL f51r9 0 Tryz.prog 26 25 27 .lss 3
def f51n16_eq := nrE f51n16 f51r9 f51n17
def f51L15_is := loE f51L15 f51n16 Tryz.prog f51b 1012
def f51n14_eq := nbE f51n14 f51L15 0
def f51r8 := f51s 252
def f51r8_0 := mvE f51r8 0 1 0 23
def f51r8_1 := clE f51r8 1 2 Tryz.prog 24 84 [.tmp 23]
def f51r8_2 := lnE f51r8 2 3 24 25
def f51r8_3 := ciL f51r8 3 26 0
def f51n13_eq := nrE f51n13 f51r8 f51n14
def f51n30 := f51d 127
def f51r17 := f51s 254
def f51r17_0 := mvE f51r17 0 1 8 64
def f51r17_1 := mvE f51r17 1 2 64 4
def f51r17_2 := ciL f51r17 2 5 0
def f51n30_eq := nrR f51n30 f51r17
def f51n12_eq := ntE f51n12 f51n13 f51n30
def f51r7 := f51s 62
def f51r7_0 := nlL f51r7 0 8 3 1
def f51n11_eq := nrE f51n11 f51r7 f51n12
def f51r6 := f51s 30
theorem f51r6_0 : Run (f51r6 0 K ⟨e, m⟩) = Run (f51r6 1 K ⟨(22, .mp 22) :: killE 22 e, (22, .mp []) :: killM 22 m⟩) := rk
def f51r6_1 := mvL f51r6 1 22 7
def f51n10_eq := nrE f51n10 f51r6 f51n11
def f51n6_eq := ntE f51n6 f51n7 f51n10
def f51n1_eq := ntE f51n1 f51n2 f51n6
def f51r0 := f51s 2
def f51r0_0 := nlE f51r0 0 1 4 3 1
def f51r0_1 := ciL f51r0 1 5 0
def f51n_eq := nrE f51n f51r0 f51n1
def f51_calls := caE Tryz.prog 51 Tryz.f51 f51b f51n 65 [.tmp 4, .tmp 5] Tryz.func51 mixed
attribute [go_sem] f51n4_eq f51r2_0 f51r2_1 f51n3_eq f51r1_0 f51r1_1 f51r1_2 f51n2_eq f51n8_eq f51r4_0 f51r4_1 f51r4_2 f51n7_eq f51n18_eq f51n26_eq f51r13_0 f51r13_1 f51r13_2 f51r13_3 f51r13_4 f51r13_5 f51r13_6 f51r13_7 f51r13_8 f51r13_9 f51r13_10 f51r13_11 f51r13_12 f51n25_eq f51r15_0 f51r15_1 f51r15_2 f51r15_3
attribute [go_sem] f51r15_4 f51n28_eq f51r14_0 f51r14_1 f51r14_2 f51r14_3 f51r14_4 f51r14_5 f51n27_eq f51n24_eq f51r12_0 f51r12_1 f51r12_2 f51r12_3 f51r12_4 f51r12_5 f51r12_6 f51r12_7 f51r12_8 f51n23_eq f51r11_0 f51r11_1 f51r11_2 f51r11_3 f51r11_4 f51r11_5 f51n22_eq f51r10_0 f51r10_1 f51r10_2 f51n21_eq f51n20_eq f51r16_0 f51r16_1 f51n29_eq f51n19_eq f51n17_eq f51r9_0 f51n16_eq f51n14_eq
attribute [go_sem] f51r8_0 f51r8_1 f51r8_2 f51r8_3 f51n13_eq f51r17_0 f51r17_1 f51r17_2 f51n30_eq f51n12_eq f51r7_0 f51n11_eq f51r6_0 f51r6_1 f51n10_eq f51n6_eq f51n1_eq f51r0_0 f51r0_1 f51n_eq
noncomputable def f52b : Code := Tryz.f52.body.getD .skip
def f52d := ndB Tryz.prog f52b
def f52s := rsB Tryz.prog f52b
def f52n : WP := wpA Tryz.prog f52b
def f52n1 := f52d 3
def f52r1 := f52s 6
def f52r1_0 := faE f52r1 0 1 0 1 3
def f52r1_1 := lsE f52r1 1 2 1 3 4
theorem f52r1_2 : Run (f52r1 2 K ⟨e, m⟩) = Run (withV (some (.int .i64 0)) fun v1 => withV (lk e 4) fun v2 => binA Tryz.prog .leq 3 v1 v2 (fun x => f52r1 3 K ⟨(5, x) :: e, m⟩)) := rk
def f52r1_3 := mvE f52r1 3 4 5 6
def f52r1_4 := gfa f52r1 4 5 6 true 0 1 7
def f52r1_5 := gls f52r1 5 6 6 true 1 7 8
def f52r1_6 := gfa f52r1 6 7 6 true 1 1 9
def f52r1_7 := gls f52r1 7 8 6 true 1 9 10
def f52r1_8 := gbi f52r1 8 9 6 true Tryz.prog 8 10 11 .leq 3
def f52r1_9 := pfE f52r1 9 10 6 12 11
def f52r1_10 := mvE f52r1 10 11 12 13
def f52r1_11 := gfa f52r1 11 12 13 true 1 1 14
def f52r1_12 := gls f52r1 12 13 13 true 1 14 15
def f52r1_13 := gbn f52r1 13 14 13 true Tryz.prog 15 16 .leq 3 3155760000
def f52r1_14 := pfE f52r1 14 15 13 17 16
def f52r1_15 := mvL f52r1 15 17 2
def f52n1_eq := nrR f52n1 f52r1
def f52r0 := f52s 2
def f52r0_0 := bxE f52r0 0 1 1 0
def f52r0_1 := cbL f52r0 1 2 false
def f52n_eq := nrE f52n f52r0 f52n1
def f52_calls := caE Tryz.prog 52 Tryz.f52 f52b f52n 18 [.tmp 2] Tryz.func52 mixed
attribute [go_sem] f52r1_0 f52r1_1 f52r1_2 f52r1_3 f52r1_4 f52r1_5 f52r1_6 f52r1_7 f52r1_8 f52r1_9 f52r1_10 f52r1_11 f52r1_12 f52r1_13 f52r1_14 f52r1_15 f52n1_eq f52r0_0 f52r0_1 f52n_eq
noncomputable def f53b : Code := Tryz.f53.body.getD .skip
def f53d := ndB Tryz.prog f53b
def f53s := rsB Tryz.prog f53b
def f53n : WP := wpA Tryz.prog f53b
def f53n1 := f53d 3
def f53n2 := f53d 7
def f53n3 := f53d 14
def f53n4 := f53d 29
def f53n5 := f53d 58
def f53r3 := f53s 116
def f53r3_0 := mvE f53r3 0 1 0 13
def f53r3_1 := mvL f53r3 1 13 4
def f53n5_eq := nrR f53n5 f53r3
def f53n4_eq := ncN f53n4 12 f53n5
def f53r2 := f53s 28
def f53r2_0 := mvE f53r2 0 1 5 11
def f53r2_1 := bnL f53r2 1 Tryz.prog 11 12 .eql 3 (-1)
def f53n3_eq := nrE f53n3 f53r2 f53n4
def f53n6 := f53d 15
def f53n7 := f53d 30
def f53n8 := f53d 61
def f53L9 := f53d 122
def f53n10 := f53d 244
def f53n11 := f53d 488
def f53n12 := f53d 977
def f53n12_eq := ncX f53n12 19 0
def f53r5 := f53s 976
def f53r5_0 := mvE f53r5 0 1 6 16
def f53r5_1 := mvE f53r5 1 2 0 17
def f53r5_2 := lnE f53r5 2 3 17 18
def f53r5_3 := biL f53r5 3 Tryz.prog 16 18 19 .lss 3
def f53n11_eq := nrE f53n11 f53r5 f53n12
def f53n13 := f53d 489
def f53n14 := f53d 978
def f53n15 := f53d 1956
def f53n16 := f53d 3913
def f53n17 := f53d 7827
def f53n18 := f53d 15654
def f53n19 := f53d 31309
def f53r10 := f53s 31309
def f53r10_0 := mvE f53r10 0 1 5 34
def f53r10_1 := bnE f53r10 1 2 Tryz.prog 34 35 .add 3 1
def f53r10_2 := mvL f53r10 2 35 5
def f53n19_eq := nrN f53n19 f53r10
def f53r9 := f53s 31308
def f53r9_0 := mvE f53r9 0 1 0 30
def f53r9_1 := mvE f53r9 1 2 5 31
def f53r9_2 := mvE f53r9 2 3 7 32
def f53r9_3 := iaE f53r9 3 4 1 30 31 33
def f53r9_4 := stL f53r9 4 1 33 32
def f53n18_eq := nrE f53n18 f53r9 f53n19
def f53n17_eq := ncN f53n17 29 f53n18
def f53r8 := f53s 7826
def f53r8_0 := mvE f53r8 0 1 1 26
def f53r8_1 := mvE f53r8 1 2 7 27
theorem f53r8_2 : Run (f53r8 2 K ⟨e, m⟩) = Run (withV (lk e 26) fun v1 => withVs (St.evs ⟨e, m⟩ [.tmp 27]) fun vs => callA Tryz.prog (some 28) v1 vs (f53r8 3 K) ⟨e, m⟩) := rk
def f53r8_3 := noL f53r8 3 28 29
def f53n16_eq := nrE f53n16 f53r8 f53n17
def f53r7 := f53s 3912
def f53r7_0 := mvE f53r7 0 1 0 22
def f53r7_1 := mvE f53r7 1 2 6 23
def f53r7_2 := iaE f53r7 2 3 1 22 23 24
def f53r7_3 := lsE f53r7 3 4 1 24 25
def f53r7_4 := mvL f53r7 4 25 7
def f53n15_eq := nrE f53n15 f53r7 f53n16
def f53n14_eq := nbE f53n14 f53n15 1
def f53n20 := f53d 979
def f53r6 := f53s 979
def f53r6_0 := mvE f53r6 0 1 6 20
def f53r6_1 := bnE f53r6 1 2 Tryz.prog 20 21 .add 3 1
def f53r6_2 := mvL f53r6 2 21 6
def f53n20_eq := nrN f53n20 f53r6
def f53n13_eq := ntE f53n13 f53n14 f53n20
def f53n10_eq := ntE f53n10 f53n11 f53n13
def f53L9_is := loE f53L9 f53n10 Tryz.prog f53b 244
def f53n8_eq := nbE f53n8 f53L9 0
def f53r4 := f53s 60
def f53r4_0 := mvE f53r4 0 1 5 14
def f53r4_1 := bnE f53r4 1 2 Tryz.prog 14 15 .add 3 1
def f53r4_2 := mvL f53r4 2 15 6
def f53n7_eq := nrE f53n7 f53r4 f53n8
def f53n21 := f53d 31
def f53n22 := f53d 63
def f53r12 := f53s 126
def f53r12_0 := mvE f53r12 0 1 0 39
def f53r12_1 := mvE f53r12 1 2 5 40
theorem f53r12_2 : Run (f53r12 2 K ⟨e, m⟩) = Run (withV (lk e 39) fun v1 => slF 1 (fun e => none) (fun e => (some (lk e 40))) v1 41 (f53r12 3 K) e m) := rk
def f53r12_3 := mvL f53r12 3 41 4
def f53n22_eq := nrR f53n22 f53r12
def f53r11 := f53s 62
def f53r11_0 := mvE f53r11 0 1 0 36
def f53r11_1 := mvE f53r11 1 2 5 37
theorem f53r11_2 : Run (f53r11 2 K ⟨e, m⟩) = Run (withV (lk e 36) fun v1 => slF 1 (fun e => (some (lk e 37))) (fun e => none) v1 38 (f53r11 3 K) e m) := rk
theorem f53r11_3 : Run (f53r11 3 K ⟨e, m⟩) = Run (withV (lk e 38) fun v1 => clearA Tryz.prog none 29 v1 K ⟨e, m⟩) := rk
def f53n21_eq := nrE f53n21 f53r11 f53n22
def f53n6_eq := ntE f53n6 f53n7 f53n21
def f53n2_eq := ntE f53n2 f53n3 f53n6
def f53r1 := f53s 6
def f53r1_0 := mvE f53r1 0 1 0 8
def f53r1_1 := mvE f53r1 1 2 1 9
def f53r1_2 := clE f53r1 2 3 Tryz.prog 10 85 [.tmp 8, .tmp 9]
def f53r1_3 := mvL f53r1 3 10 5
def f53n1_eq := nrE f53n1 f53r1 f53n2
def f53r0 := f53s 2
def f53r0_0 := nlL f53r0 0 4 3 1
def f53n_eq := nrE f53n f53r0 f53n1
attribute [go_sem] f53r3_0 f53r3_1 f53n5_eq f53n4_eq f53r2_0 f53r2_1 f53n3_eq f53n12_eq f53r5_0 f53r5_1 f53r5_2 f53r5_3 f53n11_eq f53r10_0 f53r10_1 f53r10_2 f53n19_eq f53r9_0 f53r9_1 f53r9_2 f53r9_3 f53r9_4 f53n18_eq f53n17_eq f53r8_0 f53r8_1 f53r8_2 f53r8_3 f53n16_eq f53r7_0 f53r7_1 f53r7_2 f53r7_3 f53r7_4 f53n15_eq f53n14_eq f53r6_0 f53r6_1 f53r6_2 f53n20_eq
attribute [go_sem] f53n13_eq f53n10_eq f53n8_eq f53r4_0 f53r4_1 f53r4_2 f53n7_eq f53r12_0 f53r12_1 f53r12_2 f53r12_3 f53n22_eq f53r11_0 f53r11_1 f53r11_2 f53r11_3 f53n21_eq f53n6_eq f53n2_eq f53r1_0 f53r1_1 f53r1_2 f53r1_3 f53n1_eq f53r0_0 f53n_eq
noncomputable def f54b : Code := Tryz.f54.body.getD .skip
def f54d := ndB Tryz.prog f54b
def f54s := rsB Tryz.prog f54b
def f54n : WP := wpA Tryz.prog f54b
def f54n1 := f54d 3
def f54n2 := f54d 7
noncomputable def f54r2a := raB f54b 14
def f54r2 (i : Nat) : SP := opsQ Tryz.prog f54r2a (f54r2a.toList.drop i)
theorem f54r2wr : cutAt f54r2a = none := by kernel_rfl
theorem f54r2lex : Region.lexB .any f54r2a = true := by kernel_rfl
theorem f54r2my : manyB f54r2a = false := by kernel_rfl
def f54r2_0 := lgE f54r2 0 1 2 3 24
def f54r2_1 := lsE f54r2 1 2 1 2 25
def f54r2_2 := mvE f54r2 2 3 0 26
def f54r2_3 := iaE f54r2 3 4 7 25 26 27
def f54r2_4 := faE f54r2 4 5 3 27 28
def f54r2_5 := lsE f54r2 5 6 1 28 29
theorem f54r2_6 : Run (f54r2 6 K ⟨e, m⟩) = Run (clQ e m Tryz.prog (f54r2 7 K) 30 56 [.tmp 24, .tmp 29]) := rk
def f54r2_7 := noE f54r2 7 8 30 31
def f54r2_8 := mvE f54r2 8 9 31 32
def f54r2_9 := gmv f54r2 9 10 32 false 8 33
def f54r2_10 := gno f54r2 10 11 32 false 33 34
def f54r2_11 := ptE f54r2 11 12 32 35 34
def f54r2_12 := mvE f54r2 12 13 35 36
def f54r2_13 := gmv f54r2 13 14 36 false 7 37
def f54r2_14 := gls f54r2 14 15 36 false 1 4 38
def f54r2_15 := gbi f54r2 15 16 36 false Tryz.prog 37 38 39 .neq 3
def f54r2_16 := ptE f54r2 16 17 36 40 39
def f54r2_17 := mvL f54r2 17 40 6
theorem f54n2_eq : Run (f54n2 Q s) = Run (f54r2 0 (Q .ret) s) := run_eq (Eq.trans (b := drawA Tryz.prog f54r2a (Q .ret) s) (by kernel_rfl) (Eq.trans (draw_q f54r2wr f54r2lex f54r2my) (by kernel_rfl)))
noncomputable def f54r1a := raB f54b 6
def f54r1 := f54s 6
def f54r1q (i : Nat) : SP := opsQ Tryz.prog f54r1a ((f54r1a.toList.take 11).drop i)
theorem f54r1wr : cutAt f54r1a = some 11 := by kernel_rfl
theorem f54r1tl : (Region.lexTailB .any f54r1a 11 && (f54r1a.toList.take 11).all noCall) = false := by kernel_rfl
theorem f54r1mv : (lexMoveB .any f54r1a 11 && (f54r1a.toList.take 11).all noCall && tailB f54r1a 11) = false := by kernel_rfl
theorem f54r1cb : callB f54r1a 11 = true := by kernel_rfl
theorem f54r1_0 : Run (f54r1q 0 (f54r1 11 K) ⟨e, m⟩) = Run (lsT e m (f54r1q 1 (f54r1 11 K)) 1 1 10) := rk
theorem f54r1_1 : Run (f54r1q 1 (f54r1 11 K) ⟨e, m⟩) = Run (lsT e m (f54r1q 2 (f54r1 11 K)) 1 2 11) := rk
theorem f54r1_2 : Run (f54r1q 2 (f54r1 11 K) ⟨e, m⟩) = Run (mvT e m (f54r1q 3 (f54r1 11 K)) 0 12) := rk
theorem f54r1_3 : Run (f54r1q 3 (f54r1 11 K) ⟨e, m⟩) = Run (iaT e m (f54r1q 4 (f54r1 11 K)) 7 11 12 13) := rk
theorem f54r1_4 : Run (f54r1q 4 (f54r1 11 K) ⟨e, m⟩) = Run (faT e m (f54r1q 5 (f54r1 11 K)) 1 13 14) := rk
theorem f54r1_5 : Run (f54r1q 5 (f54r1 11 K) ⟨e, m⟩) = Run (lsT e m (f54r1q 6 (f54r1 11 K)) 1 14 15) := rk
theorem f54r1_6 : Run (f54r1q 6 (f54r1 11 K) ⟨e, m⟩) = Run (lsT e m (f54r1q 7 (f54r1 11 K)) 1 2 16) := rk
theorem f54r1_7 : Run (f54r1q 7 (f54r1 11 K) ⟨e, m⟩) = Run (mvT e m (f54r1q 8 (f54r1 11 K)) 0 17) := rk
theorem f54r1_8 : Run (f54r1q 8 (f54r1 11 K) ⟨e, m⟩) = Run (iaT e m (f54r1q 9 (f54r1 11 K)) 7 16 17 18) := rk
theorem f54r1_9 : Run (f54r1q 9 (f54r1 11 K) ⟨e, m⟩) = Run (faT e m (f54r1q 10 (f54r1 11 K)) 3 18 19) := rk
theorem f54r1_10 : Run (f54r1q 10 (f54r1 11 K) ⟨e, m⟩) = Run (lsT e m (f54r1 11 K) 1 19 20) := rk
def f54r1_11 := clE f54r1 11 12 Tryz.prog 21 55 [.tmp 10, .tmp 15, .tmp 20]
def f54r1_12 := mvE f54r1 12 13 21 9
def f54r1_13 := exE f54r1 13 14 9 22 0
def f54r1_14 := exE f54r1 14 15 9 23 1
def f54r1_15 := mvE f54r1 15 16 22 7
def f54r1_16 := mvL f54r1 16 23 8
theorem f54n1_eq : Run (f54n1 Q s) = Run (f54r1q 0 (f54r1 11 (f54n2 Q)) s) := run_eq (Eq.trans (b := drawA Tryz.prog f54r1a (f54n2 Q) s) (by kernel_rfl) (Eq.trans (draw_bar f54r1wr f54r1tl f54r1mv f54r1cb) (by kernel_rfl)))
def f54r0 := f54s 2
def f54r0_0 := cbL f54r0 0 6 false
def f54n_eq := nrE f54n f54r0 f54n1
def f54_calls := caE Tryz.prog 54 Tryz.f54 f54b f54n 41 [.tmp 6] Tryz.func54 mixed
attribute [go_sem] f54r2_0 f54r2_1 f54r2_2 f54r2_3 f54r2_4 f54r2_5 f54r2_6 f54r2_7 f54r2_8 f54r2_9 f54r2_10 f54r2_11 f54r2_12 f54r2_13 f54r2_14 f54r2_15 f54r2_16 f54r2_17 f54n2_eq f54r1_0 f54r1_1 f54r1_2 f54r1_3 f54r1_4 f54r1_5 f54r1_6 f54r1_7 f54r1_8 f54r1_9 f54r1_10 f54r1_11 f54r1_12 f54r1_13 f54r1_14 f54r1_15 f54r1_16 f54n1_eq f54r0_0 f54n_eq
noncomputable def f55b : Code := Tryz.f55.body.getD .skip
def f55d := ndB Tryz.prog f55b
def f55s := rsB Tryz.prog f55b
def f55n : WP := wpA Tryz.prog f55b
def f55n1 := f55d 3
def f55n2 := f55d 7
def f55n3 := f55d 14
def f55n4 := f55d 29
def f55n5 := f55d 58
def f55r3 := f55s 116
def f55r3_0 := ciE f55r3 0 1 6 0
def f55r3_1 := cbL f55r3 1 7 false
def f55n5_eq := nrR f55n5 f55r3
def f55n4_eq := ncN f55n4 14 f55n5
def f55r2 := f55s 28
def f55r2_0 := mvE f55r2 0 1 8 12
def f55r2_1 := lnE f55r2 1 2 12 13
def f55r2_2 := bnL f55r2 2 Tryz.prog 13 14 .eql 3 0
def f55n3_eq := nrE f55n3 f55r2 f55n4
def f55n6 := f55d 15
def f55r4 := f55s 30
def f55r4_0 := mvE f55r4 0 1 8 15
theorem f55r4_1 : Run (f55r4 1 K ⟨e, m⟩) = Run (withV (lk e 15) fun v1 => withV (some (.int .i64 0)) fun v2 => idxK m 4 v1 v2 (fun x => f55r4 2 K ⟨(16, x) :: e, m⟩)) := rk
def f55r4_2 := faE f55r4 2 3 1 16 17
def f55r4_3 := lsE f55r4 3 4 1 17 18
def f55r4_4 := mvE f55r4 4 5 18 6
def f55r4_5 := cbL f55r4 5 7 true
def f55n6_eq := nrR f55n6 f55r4
def f55n2_eq := ntE f55n2 f55n3 f55n6
def f55r1 := f55s 6
def f55r1_0 := mvE f55r1 0 1 0 9
def f55r1_1 := fnE f55r1 1 2 10 87 [.tmp 4, .tmp 5]
def f55r1_2 := clE f55r1 2 3 Tryz.prog 11 86 [.tmp 9, .tmp 10]
def f55r1_3 := mvL f55r1 3 11 8
def f55n1_eq := nrE f55n1 f55r1 f55n2
def f55r0 := f55s 2
def f55r0_0 := bxE f55r0 0 1 4 1
def f55r0_1 := bxE f55r0 1 2 5 2
def f55r0_2 := ciE f55r0 2 3 6 0
def f55r0_3 := cbL f55r0 3 7 false
def f55n_eq := nrE f55n f55r0 f55n1
def f55_calls := caE Tryz.prog 55 Tryz.f55 f55b f55n 19 [.tmp 6, .tmp 7] Tryz.func55 mixed
attribute [go_sem] f55r3_0 f55r3_1 f55n5_eq f55n4_eq f55r2_0 f55r2_1 f55r2_2 f55n3_eq f55r4_0 f55r4_1 f55r4_2 f55r4_3 f55r4_4 f55r4_5 f55n6_eq f55n2_eq f55r1_0 f55r1_1 f55r1_2 f55r1_3 f55n1_eq f55r0_0 f55r0_1 f55r0_2 f55r0_3 f55n_eq
noncomputable def f56b : Code := Tryz.f56.body.getD .skip
def f56d := ndB Tryz.prog f56b
def f56s := rsB Tryz.prog f56b
def f56n : WP := wpA Tryz.prog f56b
def f56n1 := f56d 3
def f56r1 := f56s 6
def f56r1_0 := faE f56r1 0 1 0 2 5
def f56r1_1 := lsE f56r1 1 2 1 5 6
def f56r1_2 := mvE f56r1 2 3 1 7
def f56r1_3 := biE f56r1 3 4 Tryz.prog 6 7 8 .leq 3
def f56r1_4 := mvE f56r1 4 5 8 9
def f56r1_5 := gmv f56r1 5 6 9 true 1 10
def f56r1_6 := gfa f56r1 6 7 9 true 1 2 11
def f56r1_7 := gls f56r1 7 8 9 true 1 11 12
def f56r1_8 := gbi f56r1 8 9 9 true Tryz.prog 10 12 13 .lss 3
def f56r1_9 := pfE f56r1 9 10 9 14 13
def f56r1_10 := mvL f56r1 10 14 4
def f56n1_eq := nrR f56n1 f56r1
def f56r0 := f56s 2
def f56r0_0 := bxE f56r0 0 1 2 0
def f56r0_1 := cbL f56r0 1 4 false
def f56n_eq := nrE f56n f56r0 f56n1
def f56_calls := caE Tryz.prog 56 Tryz.f56 f56b f56n 15 [.tmp 4] Tryz.func56 mixed
attribute [go_sem] f56r1_0 f56r1_1 f56r1_2 f56r1_3 f56r1_4 f56r1_5 f56r1_6 f56r1_7 f56r1_8 f56r1_9 f56r1_10 f56n1_eq f56r0_0 f56r0_1 f56n_eq
noncomputable def f57b : Code := Tryz.f57.body.getD .skip
def f57d := ndB Tryz.prog f57b
def f57s := rsB Tryz.prog f57b
def f57n : WP := wpA Tryz.prog f57b
def f57n1 := f57d 3
def f57n2 := f57d 7
def f57n3 := f57d 14
def f57n4 := f57d 29
def f57L5 := f57d 58
def f57n6 := f57d 116
def f57n7 := f57d 233
def f57n8 := f57d 466
def f57n8_eq := ncX f57n8 13 0
def f57n9 := f57d 467
def f57n10 := f57d 934
def f57n11 := f57d 1868
def f57n12 := f57d 3737
def f57n13 := f57d 7474
def f57n14 := f57d 14949
def f57n15 := f57d 29898
def f57n14_eq := ncN f57n14 23 f57n15
def f57r5 := f57s 14948
def f57r5_0 := faE f57r5 0 1 4 5 16
def f57r5_1 := lsE f57r5 1 2 1 16 17
def f57r5_2 := bnE f57r5 2 3 Tryz.prog 17 18 .lss 3 (-1000000000000)
def f57r5_3 := mvE f57r5 3 4 18 19
def f57r5_4 := gfa f57r5 4 5 19 false 4 5 20
def f57r5_5 := gls f57r5 5 6 19 false 1 20 21
def f57r5_6 := gbn f57r5 6 7 19 false Tryz.prog 21 22 .gtr 3 1000000000000
def f57r5_7 := ptL f57r5 7 19 23 22
def f57n13_eq := nrE f57n13 f57r5 f57n14
def f57n16 := f57d 7475
def f57r7 := f57s 7475
def f57r7_0 := mvE f57r7 0 1 3 24
def f57r7_1 := faE f57r7 1 2 4 5 25
def f57r7_2 := lsE f57r7 2 3 1 25 26
def f57r7_3 := biE f57r7 3 4 Tryz.prog 24 26 27 .add 3
def f57r7_4 := mvL f57r7 4 27 3
def f57n16_eq := nrN f57n16 f57r7
def f57n12_eq := ntE f57n12 f57n13 f57n16
def f57r4 := f57s 3736
def f57r4_0 := iaE f57r4 0 1 5 10 12 14
def f57r4_1 := lgE f57r4 1 2 5 14 15
def f57r4_2 := alE f57r4 2 3 5 [.int .i64 0, .int .i64 0, .int .i64 0, .int .i64 0, .int .i64 0]
def f57r4_3 := stL f57r4 3 5 5 15
def f57n11_eq := nrE f57n11 f57r4 f57n12
def f57n10_eq := nbE f57n10 f57n11 1
def f57n17 := f57d 935
def f57r8 := f57s 935
def f57r8_0 := bnE f57r8 0 1 Tryz.prog 12 28 .add 3 1
def f57r8_1 := mvL f57r8 1 28 12
def f57n17_eq := nrN f57n17 f57r8
def f57n9_eq := ntE f57n9 f57n10 f57n17
def f57n7_eq := ntE f57n7 f57n8 f57n9
def f57r3 := f57s 232
def f57r3_0 := biL f57r3 0 Tryz.prog 12 11 13 .lss 3
def f57n6_eq := nrE f57n6 f57r3 f57n7
def f57L5_is := loE f57L5 f57n6 Tryz.prog f57b 116
def f57n4_eq := nbE f57n4 f57L5 0
def f57r2 := f57s 28
def f57r2_0 := mvE f57r2 0 1 0 6
theorem f57r2_1 : Run (f57r2 1 K ⟨e, m⟩) = Run (withV (lk e 6) fun v1 => nilK v1 (fun x => f57r2 2 K ⟨(7, x) :: e, m⟩)) := rk
def f57r2_2 := faE f57r2 2 3 0 7 8
def f57r2_3 := faE f57r2 3 4 4 8 9
def f57r2_4 := lsE f57r2 4 5 1 9 10
def f57r2_5 := lnE f57r2 5 6 10 11
def f57r2_6 := ciL f57r2 6 12 0
def f57n3_eq := nrE f57n3 f57r2 f57n4
def f57n18 := f57d 15
def f57r9 := f57s 30
def f57r9_0 := mvE f57r9 0 1 3 29
def f57r9_1 := mvE f57r9 1 2 0 30
theorem f57r9_2 : Run (f57r9 2 K ⟨e, m⟩) = Run (withV (lk e 30) fun v1 => nilK v1 (fun x => f57r9 3 K ⟨(31, x) :: e, m⟩)) := rk
def f57r9_3 := faE f57r9 3 4 0 31 32
def f57r9_4 := faE f57r9 4 5 5 32 33
def f57r9_5 := lsE f57r9 5 6 1 33 34
def f57r9_6 := biE f57r9 6 7 Tryz.prog 29 34 35 .eql 3
def f57r9_7 := mvL f57r9 7 35 2
def f57n18_eq := nrR f57n18 f57r9
def f57n2_eq := ntE f57n2 f57n3 f57n18
def f57r1 := f57s 6
def f57r1_0 := ciL f57r1 0 3 0
def f57n1_eq := nrE f57n1 f57r1 f57n2
def f57r0 := f57s 2
def f57r0_0 := cbL f57r0 0 2 false
def f57n_eq := nrE f57n f57r0 f57n1
def f57_calls := caE Tryz.prog 57 Tryz.f57 f57b f57n 36 [.tmp 2] Tryz.func57 mixed
attribute [go_sem] f57n8_eq f57n14_eq f57r5_0 f57r5_1 f57r5_2 f57r5_3 f57r5_4 f57r5_5 f57r5_6 f57r5_7 f57n13_eq f57r7_0 f57r7_1 f57r7_2 f57r7_3 f57r7_4 f57n16_eq f57n12_eq f57r4_0 f57r4_1 f57r4_2 f57r4_3 f57n11_eq f57n10_eq f57r8_0 f57r8_1 f57n17_eq f57n9_eq f57n7_eq f57r3_0 f57n6_eq f57n4_eq f57r2_0 f57r2_1 f57r2_2 f57r2_3 f57r2_4 f57r2_5
attribute [go_sem] f57r2_6 f57n3_eq f57r9_0 f57r9_1 f57r9_2 f57r9_3 f57r9_4 f57r9_5 f57r9_6 f57r9_7 f57n18_eq f57n2_eq f57r1_0 f57n1_eq f57r0_0 f57n_eq
noncomputable def f58b : Code := Tryz.f58.body.getD .skip
def f58d := ndB Tryz.prog f58b
def f58s := rsB Tryz.prog f58b
def f58n : WP := wpA Tryz.prog f58b
def f58n1 := f58d 3
def f58n2 := f58d 6
def f58n3 := f58d 13
def f58n4 := f58d 26
def f58n5 := f58d 53
def f58n6 := f58d 106
noncomputable def f58r3a := raB f58b 212
def f58r3 (i : Nat) : SP := opsQ Tryz.prog f58r3a (f58r3a.toList.drop i)
theorem f58r3wr : cutAt f58r3a = none := by kernel_rfl
theorem f58r3lex : Region.lexB .any f58r3a = true := by kernel_rfl
theorem f58r3my : manyB f58r3a = false := by kernel_rfl
def f58r3_0 := mvE f58r3 0 1 0 15
theorem f58r3_1 : Run (f58r3 1 K ⟨e, m⟩) = Run (withV (lk e 15) fun v1 => nilK v1 (fun x => f58r3 2 K ⟨(16, x) :: e, m⟩)) := rk
def f58r3_2 := faE f58r3 2 3 12 16 17
def f58r3_3 := lsE f58r3 3 4 1 17 18
def f58r3_4 := lgE f58r3 4 5 5 3 19
theorem f58r3_5 : Run (f58r3 5 K ⟨e, m⟩) = Run (clQ e m Tryz.prog (f58r3 6 K) 20 61 [.tmp 18, .tmp 19]) := rk
def f58r3_6 := mvL f58r3 6 20 4
theorem f58n6_eq : Run (f58n6 Q s) = Run (f58r3 0 (Q .ret) s) := run_eq (Eq.trans (b := drawA Tryz.prog f58r3a (Q .ret) s) (by kernel_rfl) (Eq.trans (draw_q f58r3wr f58r3lex f58r3my) (by kernel_rfl)))
def f58n7 := f58d 107
def f58n8 := f58d 214
def f58n9 := f58d 429
def f58n10 := f58d 859
def f58r5 := f58s 859
def f58r5_0 := bnE f58r5 0 1 Tryz.prog 12 23 .eql 3 3
def f58r5_1 := mvL f58r5 1 23 21
def f58n10_eq := nrN f58n10 f58r5
theorem f58n9_eq : Run (f58n9 Q ⟨e, m⟩) = Run (withV (lk e 21) fun v => cA v (Q .normal ⟨(21, .bool true) :: e, m⟩) (f58n10 Q ⟨(21, .bool false) :: e, m⟩)) := rk
def f58r4 := f58s 428
def f58r4_0 := bnE f58r4 0 1 Tryz.prog 12 22 .eql 3 2
def f58r4_1 := mvL f58r4 1 22 21
def f58n8_eq := nrE f58n8 f58r4 f58n9
def f58n11 := f58d 215
def f58n12 := f58d 430
def f58n13 := f58d 861
def f58n14 := f58d 1722
def f58n15 := f58d 3445
def f58n16 := f58d 6890
def f58n15_eq := ncN f58n15 32 f58n16
def f58r7 := f58s 3444
def f58r7_0 := mvE f58r7 0 1 6 31
def f58r7_1 := noL f58r7 1 31 32
def f58n14_eq := nrE f58n14 f58r7 f58n15
def f58n17 := f58d 1723
def f58n18 := f58d 3447
def f58n19 := f58d 6895
def f58n20 := f58d 13790
def f58n21 := f58d 27581
def f58n22 := f58d 55162
def f58n21_eq := ncN f58n21 54 f58n22
def f58r11 := f58s 27580
def f58r11_0 := mvE f58r11 0 1 9 53
def f58r11_1 := bnL f58r11 1 Tryz.prog 53 54 .neq 30 0
def f58n20_eq := nrE f58n20 f58r11 f58n21
def f58n23 := f58d 13791
def f58n24 := f58d 27583
def f58r14 := f58s 55166
def f58r14_0 := mvE f58r14 0 1 9 68
def f58r14_1 := bnE f58r14 1 2 Tryz.prog 68 69 .eql 30 0
def f58r14_2 := mvE f58r14 2 3 69 70
def f58r14_3 := gmv f58r14 3 4 70 true 10 71
def f58r14_4 := glg f58r14 4 5 70 true 5 3 72
def f58r14_5 := gcl f58r14 5 6 70 true Tryz.prog 73 61 [.tmp 71, .tmp 72]
def f58r14_6 := pfE f58r14 6 7 70 74 73
def f58r14_7 := mvL f58r14 7 74 4
def f58n24_eq := nrR f58n24 f58r14
noncomputable def f58r13a := raB f58b 27582
def f58r13 := f58s 27582
def f58r13q (i : Nat) : SP := opsQ Tryz.prog f58r13a ((f58r13a.toList.take 9).drop i)
theorem f58r13wr : cutAt f58r13a = some 9 := by kernel_rfl
theorem f58r13tl : (Region.lexTailB .any f58r13a 9 && (f58r13a.toList.take 9).all noCall) = false := by kernel_rfl
theorem f58r13mv : (lexMoveB .any f58r13a 9 && (f58r13a.toList.take 9).all noCall && tailB f58r13a 9) = false := by kernel_rfl
theorem f58r13cb : callB f58r13a 9 = true := by kernel_rfl
theorem f58r13_0 : Run (f58r13q 0 (f58r13 9 K) ⟨e, m⟩) = Run (mvT e m (f58r13q 1 (f58r13 9 K)) 0 56) := rk
theorem f58r13_1 : Run (f58r13q 1 (f58r13 9 K) ⟨e, m⟩) = Run (withV (lk e 56) fun v1 => nilK v1 (fun x => f58r13q 2 (f58r13 9 K) ⟨(57, x) :: e, m⟩)) := rk
theorem f58r13_2 : Run (f58r13q 2 (f58r13 9 K) ⟨e, m⟩) = Run (faT e m (f58r13q 3 (f58r13 9 K)) 6 57 58) := rk
theorem f58r13_3 : Run (f58r13q 3 (f58r13 9 K) ⟨e, m⟩) = Run (faT e m (f58r13q 4 (f58r13 9 K)) 4 58 59) := rk
theorem f58r13_4 : Run (f58r13q 4 (f58r13 9 K) ⟨e, m⟩) = Run (lsT e m (f58r13q 5 (f58r13 9 K)) 1 59 60) := rk
theorem f58r13_5 : Run (f58r13q 5 (f58r13 9 K) ⟨e, m⟩) = Run (mvT e m (f58r13q 6 (f58r13 9 K)) 8 61) := rk
theorem f58r13_6 : Run (f58r13q 6 (f58r13 9 K) ⟨e, m⟩) = Run (iaT e m (f58r13q 7 (f58r13 9 K)) 5 60 61 62) := rk
theorem f58r13_7 : Run (f58r13q 7 (f58r13 9 K) ⟨e, m⟩) = Run (lgT e m (f58r13q 8 (f58r13 9 K)) 5 62 63) := rk
theorem f58r13_8 : Run (f58r13q 8 (f58r13 9 K) ⟨e, m⟩) = Run (lgT e m (f58r13 9 K) 7 7 64) := rk
def f58r13_9 := clE f58r13 9 10 Tryz.prog 65 43 [.tmp 63, .tmp 64]
def f58r13_10 := mvE f58r13 10 11 65 55
def f58r13_11 := exE f58r13 11 12 55 66 0
def f58r13_12 := exE f58r13 12 13 55 67 1
def f58r13_13 := mvE f58r13 13 14 66 10
def f58r13_14 := mvL f58r13 14 67 9
theorem f58n23_eq : Run (f58n23 Q s) = Run (f58r13q 0 (f58r13 9 (f58n24 Q)) s) := run_eq (Eq.trans (b := drawA Tryz.prog f58r13a (f58n24 Q) s) (by kernel_rfl) (Eq.trans (draw_bar f58r13wr f58r13tl f58r13mv f58r13cb) (by kernel_rfl)))
def f58n19_eq := ntE f58n19 f58n20 f58n23
noncomputable def f58r10a := raB f58b 6894
def f58r10 := f58s 6894
def f58r10q (i : Nat) : SP := opsQ Tryz.prog f58r10a ((f58r10a.toList.take 8).drop i)
theorem f58r10wr : cutAt f58r10a = some 8 := by kernel_rfl
theorem f58r10tl : (Region.lexTailB .any f58r10a 8 && (f58r10a.toList.take 8).all noCall) = false := by kernel_rfl
theorem f58r10mv : (lexMoveB .any f58r10a 8 && (f58r10a.toList.take 8).all noCall && tailB f58r10a 8) = false := by kernel_rfl
theorem f58r10cb : callB f58r10a 8 = true := by kernel_rfl
theorem f58r10_0 : Run (f58r10q 0 (f58r10 8 K) ⟨e, m⟩) = Run (mvT e m (f58r10q 1 (f58r10 8 K)) 0 42) := rk
theorem f58r10_1 : Run (f58r10q 1 (f58r10 8 K) ⟨e, m⟩) = Run (withV (lk e 42) fun v1 => nilK v1 (fun x => f58r10q 2 (f58r10 8 K) ⟨(43, x) :: e, m⟩)) := rk
theorem f58r10_2 : Run (f58r10q 2 (f58r10 8 K) ⟨e, m⟩) = Run (faT e m (f58r10q 3 (f58r10 8 K)) 6 43 44) := rk
theorem f58r10_3 : Run (f58r10q 3 (f58r10 8 K) ⟨e, m⟩) = Run (faT e m (f58r10q 4 (f58r10 8 K)) 4 44 45) := rk
theorem f58r10_4 : Run (f58r10q 4 (f58r10 8 K) ⟨e, m⟩) = Run (lsT e m (f58r10q 5 (f58r10 8 K)) 1 45 46) := rk
theorem f58r10_5 : Run (f58r10q 5 (f58r10 8 K) ⟨e, m⟩) = Run (faT e m (f58r10q 6 (f58r10 8 K)) 3 7 47) := rk
theorem f58r10_6 : Run (f58r10q 6 (f58r10 8 K) ⟨e, m⟩) = Run (lsT e m (f58r10q 7 (f58r10 8 K)) 1 47 48) := rk
theorem f58r10_7 : Run (f58r10q 7 (f58r10 8 K) ⟨e, m⟩) = Run (biC e m Tryz.prog (f58r10 8 K) 48 49 .quo 3 (.int .i64 86400)) := rk
def f58r10_8 := clE f58r10 8 9 Tryz.prog 50 42 [.tmp 46, .tmp 49]
def f58r10_9 := mvE f58r10 9 10 50 41
def f58r10_10 := exE f58r10 10 11 41 51 0
def f58r10_11 := exE f58r10 11 12 41 52 1
def f58r10_12 := mvE f58r10 12 13 51 8
def f58r10_13 := mvL f58r10 13 52 9
theorem f58n18_eq : Run (f58n18 Q s) = Run (f58r10q 0 (f58r10 8 (f58n19 Q)) s) := run_eq (Eq.trans (b := drawA Tryz.prog f58r10a (f58n19 Q) s) (by kernel_rfl) (Eq.trans (draw_bar f58r10wr f58r10tl f58r10mv f58r10cb) (by kernel_rfl)))
def f58r9 := f58s 3446
def f58r9_0 := mvE f58r9 0 1 0 33
theorem f58r9_1 : Run (f58r9 1 K ⟨e, m⟩) = Run (withV (lk e 33) fun v1 => nilK v1 (fun x => f58r9 2 K ⟨(34, x) :: e, m⟩)) := rk
def f58r9_2 := faE f58r9 2 3 6 34 35
def f58r9_3 := faE f58r9 3 4 3 35 36
def f58r9_4 := lsE f58r9 4 5 1 36 37
def f58r9_5 := mvE f58r9 5 6 5 38
def f58r9_6 := iaE f58r9 6 7 7 37 38 39
def f58r9_7 := lgE f58r9 7 8 7 39 40
def f58r9_8 := alE f58r9 8 9 7 [.int .i64 0, .int .i64 0, .int .i64 0, .int .i64 0, .int .i64 0, .int .i64 0, .bool false]
def f58r9_9 := stL f58r9 9 7 7 40
def f58n17_eq := nrE f58n17 f58r9 f58n18
def f58n13_eq := ntE f58n13 f58n14 f58n17
def f58r6 := f58s 860
def f58r6_0 := mvE f58r6 0 1 0 25
def f58r6_1 := faE f58r6 1 2 1 3 26
def f58r6_2 := lsE f58r6 2 3 1 26 27
def f58r6_3 := clE f58r6 3 4 Tryz.prog 28 63 [.tmp 25, .tmp 27]
def f58r6_4 := mvE f58r6 4 5 28 24
def f58r6_5 := exE f58r6 5 6 24 29 0
def f58r6_6 := exE f58r6 6 7 24 30 1
def f58r6_7 := mvE f58r6 7 8 29 5
def f58r6_8 := mvL f58r6 8 30 6
def f58n12_eq := nrE f58n12 f58r6 f58n13
def f58n25 := f58d 431
def f58n11_eq := ncC f58n11 21 f58n12 f58n25
def f58n7_eq := ntE f58n7 f58n8 f58n11
def f58n5_eq := ncC f58n5 13 f58n6 f58n7
def f58r2 := f58s 52
def f58r2_0 := bnE f58r2 0 1 Tryz.prog 12 14 .eql 3 1
def f58r2_1 := mvL f58r2 1 14 13
def f58n4_eq := nrE f58n4 f58r2 f58n5
def f58n3_eq := nbE f58n3 f58n4 0
def f58r1 := f58s 12
def f58r1_0 := faE f58r1 0 1 0 3 11
def f58r1_1 := lsL f58r1 1 1 11 12
def f58n2_eq := nrE f58n2 f58r1 f58n3
def f58n28 := f58d 7
def f58n1_eq := ntE f58n1 f58n2 f58n28
def f58r0 := f58s 2
def f58r0_0 := bxE f58r0 0 1 3 1
def f58r0_1 := cbL f58r0 1 4 false
def f58n_eq := nrE f58n f58r0 f58n1
def f58_calls := caE Tryz.prog 58 Tryz.f58 f58b f58n 80 [.tmp 4] Tryz.func58 mixed
attribute [go_sem] f58r3_0 f58r3_1 f58r3_2 f58r3_3 f58r3_4 f58r3_5 f58r3_6 f58n6_eq f58r5_0 f58r5_1 f58n10_eq f58n9_eq f58r4_0 f58r4_1 f58n8_eq f58n15_eq f58r7_0 f58r7_1 f58n14_eq f58n21_eq f58r11_0 f58r11_1 f58n20_eq f58r14_0 f58r14_1 f58r14_2 f58r14_3 f58r14_4 f58r14_5 f58r14_6 f58r14_7 f58n24_eq f58r13_0 f58r13_1 f58r13_2 f58r13_3
attribute [go_sem] f58r13_4 f58r13_5 f58r13_6 f58r13_7 f58r13_8 f58r13_9 f58r13_10 f58r13_11 f58r13_12 f58r13_13 f58r13_14 f58n23_eq f58n19_eq f58r10_0 f58r10_1 f58r10_2 f58r10_3 f58r10_4 f58r10_5 f58r10_6 f58r10_7 f58r10_8 f58r10_9 f58r10_10 f58r10_11 f58r10_12 f58r10_13 f58n18_eq f58r9_0 f58r9_1 f58r9_2 f58r9_3 f58r9_4 f58r9_5 f58r9_6 f58r9_7 f58r9_8 f58r9_9 f58n17_eq f58n13_eq
attribute [go_sem] f58r6_0 f58r6_1 f58r6_2 f58r6_3 f58r6_4 f58r6_5 f58r6_6 f58r6_7 f58r6_8 f58n12_eq f58n11_eq f58n7_eq f58n5_eq f58r2_0 f58r2_1 f58n4_eq f58n3_eq f58r1_0 f58r1_1 f58n2_eq f58n1_eq f58r0_0 f58r0_1 f58n_eq
noncomputable def f59b : Code := Tryz.f59.body.getD .skip
def f59d := ndB Tryz.prog f59b
def f59s := rsB Tryz.prog f59b
def f59n : WP := wpA Tryz.prog f59b
def f59n1 := f59d 3
def f59r1 := f59s 6
def f59r1_0 := mvE f59r1 0 1 0 5
def f59r1_1 := mvE f59r1 1 2 1 6
def f59r1_2 := clE f59r1 2 3 Tryz.prog 7 88 [.tmp 5, .tmp 6]
def f59r1_3 := bnE f59r1 3 4 Tryz.prog 7 8 .geq 3 0
def f59r1_4 := mvL f59r1 4 8 4
def f59n1_eq := nrR f59n1 f59r1
def f59r0 := f59s 2
def f59r0_0 := cbL f59r0 0 4 false
def f59n_eq := nrE f59n f59r0 f59n1
def f59_calls := caE Tryz.prog 59 Tryz.f59 f59b f59n 9 [.tmp 4] Tryz.func59 mixed
attribute [go_sem] f59r1_0 f59r1_1 f59r1_2 f59r1_3 f59r1_4 f59n1_eq f59r0_0 f59n_eq
noncomputable def f60b : Code := Tryz.f60.body.getD .skip
def f60d := ndB Tryz.prog f60b
def f60s := rsB Tryz.prog f60b
def f60n : WP := wpA Tryz.prog f60b
def f60n1 := f60d 3
noncomputable def f60r1a := raB f60b 6
def f60r1 (i : Nat) : SP := opsQ Tryz.prog f60r1a (f60r1a.toList.drop i)
theorem f60r1wr : cutAt f60r1a = none := by kernel_rfl
theorem f60r1lex : Region.lexB .any f60r1a = true := by kernel_rfl
theorem f60r1my : manyB f60r1a = false := by kernel_rfl
def f60r1_0 := lsE f60r1 0 1 1 1 4
theorem f60r1_1 : Run (f60r1 1 K ⟨e, m⟩) = Run (withV (lk e 4) fun v1 => nilK v1 (fun x => f60r1 2 K ⟨(5, x) :: e, m⟩)) := rk
def f60r1_2 := faE f60r1 2 3 0 5 6
def f60r1_3 := faE f60r1 3 4 4 6 7
def f60r1_4 := lsE f60r1 4 5 1 7 8
def f60r1_5 := lgE f60r1 5 6 5 2 9
theorem f60r1_6 : Run (f60r1 6 K ⟨e, m⟩) = Run (clQ e m Tryz.prog (f60r1 7 K) 10 61 [.tmp 8, .tmp 9]) := rk
def f60r1_7 := noE f60r1 7 8 10 11
def f60r1_8 := mvL f60r1 8 11 3
theorem f60n1_eq : Run (f60n1 Q s) = Run (f60r1 0 (Q .ret) s) := run_eq (Eq.trans (b := drawA Tryz.prog f60r1a (Q .ret) s) (by kernel_rfl) (Eq.trans (draw_q f60r1wr f60r1lex f60r1my) (by kernel_rfl)))
def f60r0 := f60s 2
def f60r0_0 := bxE f60r0 0 1 2 0
def f60r0_1 := cbL f60r0 1 3 false
def f60n_eq := nrE f60n f60r0 f60n1
def f60_calls := caE Tryz.prog 60 Tryz.f60 f60b f60n 12 [.tmp 3] Tryz.func60 mixed
attribute [go_sem] f60r1_0 f60r1_1 f60r1_2 f60r1_3 f60r1_4 f60r1_5 f60r1_6 f60r1_7 f60r1_8 f60n1_eq f60r0_0 f60r0_1 f60n_eq
noncomputable def f61b : Code := Tryz.f61.body.getD .skip
def f61d := ndB Tryz.prog f61b
def f61s := rsB Tryz.prog f61b
def f61n : WP := wpA Tryz.prog f61b
def f61n1 := f61d 3
def f61r1 := f61s 6
def f61r1_0 := mvE f61r1 0 1 0 5
def f61r1_1 := lgE f61r1 1 2 5 3 6
def f61r1_2 := clE f61r1 2 3 Tryz.prog 7 89 [.tmp 5, .tmp 6]
def f61r1_3 := bnE f61r1 3 4 Tryz.prog 7 8 .geq 3 0
def f61r1_4 := mvL f61r1 4 8 4
def f61n1_eq := nrR f61n1 f61r1
def f61r0 := f61s 2
def f61r0_0 := bxE f61r0 0 1 3 1
def f61r0_1 := cbL f61r0 1 4 false
def f61n_eq := nrE f61n f61r0 f61n1
def f61_calls := caE Tryz.prog 61 Tryz.f61 f61b f61n 9 [.tmp 4] Tryz.func61 mixed
attribute [go_sem] f61r1_0 f61r1_1 f61r1_2 f61r1_3 f61r1_4 f61n1_eq f61r0_0 f61r0_1 f61n_eq
noncomputable def f62b : Code := Tryz.f62.body.getD .skip
def f62d := ndB Tryz.prog f62b
def f62s := rsB Tryz.prog f62b
def f62n : WP := wpA Tryz.prog f62b
def f62n1 := f62d 3
def f62r1 := f62s 6
def f62r1_0 := mvE f62r1 0 1 0 5
theorem f62r1_1 : Run (f62r1 1 K ⟨e, m⟩) = Run (withV (lk e 5) fun v1 => nilK v1 (fun x => f62r1 2 K ⟨(6, x) :: e, m⟩)) := rk
def f62r1_2 := faE f62r1 2 3 0 6 7
def f62r1_3 := faE f62r1 3 4 4 7 8
def f62r1_4 := lsE f62r1 4 5 1 8 9
def f62r1_5 := fnE f62r1 5 6 10 90 [.tmp 3]
def f62r1_6 := clE f62r1 6 7 Tryz.prog 11 88 [.tmp 9, .tmp 10]
def f62r1_7 := mvL f62r1 7 11 4
def f62n1_eq := nrR f62n1 f62r1
def f62r0 := f62s 2
def f62r0_0 := bxE f62r0 0 1 3 1
def f62r0_1 := ciL f62r0 1 4 0
def f62n_eq := nrE f62n f62r0 f62n1
def f62_calls := caE Tryz.prog 62 Tryz.f62 f62b f62n 12 [.tmp 4] Tryz.func62 mixed
attribute [go_sem] f62r1_0 f62r1_1 f62r1_2 f62r1_3 f62r1_4 f62r1_5 f62r1_6 f62r1_7 f62n1_eq f62r0_0 f62r0_1 f62n_eq
noncomputable def f63b : Code := Tryz.f63.body.getD .skip
def f63d := ndB Tryz.prog f63b
def f63s := rsB Tryz.prog f63b
def f63n : WP := wpA Tryz.prog f63b
def f63n1 := f63d 3
def f63n2 := f63d 7
def f63n3 := f63d 14
def f63n4 := f63d 29
def f63n5 := f63d 58
def f63n4_eq := ncN f63n4 19 f63n5
def f63r2 := f63s 28
def f63r2_0 := mvE f63r2 0 1 6 18
def f63r2_1 := bnL f63r2 1 Tryz.prog 18 19 .lss 3 0
def f63n3_eq := nrE f63n3 f63r2 f63n4
def f63n6 := f63d 15
def f63n7 := f63d 31
def f63n8 := f63d 63
noncomputable def f63r6a := raB f63b 126
def f63r6 (i : Nat) : SP := opsQ Tryz.prog f63r6a (f63r6a.toList.drop i)
theorem f63r6wr : cutAt f63r6a = none := by kernel_rfl
theorem f63r6lex : Region.lexB .any f63r6a = true := by kernel_rfl
theorem f63r6my : manyB f63r6a = false := by kernel_rfl
def f63r6_0 := mvE f63r6 0 1 6 43
def f63r6_1 := mvE f63r6 1 2 10 44
def f63r6_2 := mvE f63r6 2 3 44 45
def f63r6_3 := gmv f63r6 3 4 45 true 9 46
def f63r6_4 := gmv f63r6 4 5 45 true 0 47
theorem f63r6_5 : Run (f63r6 5 K ⟨e, m⟩) = Run (gN e m (f63r6 6 K) 45 48 true fun e => withV (lk e 47) fun v1 => nilK v1 (fun x => f63r6 6 K ⟨(48, x) :: e, m⟩)) := rk
def f63r6_6 := gfa f63r6 6 7 45 true 0 48 49
def f63r6_7 := gfa f63r6 7 8 45 true 1 49 50
def f63r6_8 := gls f63r6 8 9 45 true 1 50 51
def f63r6_9 := gbi f63r6 9 10 45 true Tryz.prog 46 51 52 .eql 3
def f63r6_10 := pfE f63r6 10 11 45 53 52
def f63r6_11 := mvE f63r6 11 12 53 54
def f63r6_12 := gfa f63r6 12 13 54 true 0 8 55
def f63r6_13 := gls f63r6 13 14 54 true 1 55 56
def f63r6_14 := gfa f63r6 14 15 54 true 3 7 57
def f63r6_15 := gls f63r6 15 16 54 true 1 57 58
def f63r6_16 := gbi f63r6 16 17 54 true Tryz.prog 56 58 59 .leq 3
def f63r6_17 := pfE f63r6 17 18 54 60 59
def f63r6_18 := mvE f63r6 18 19 60 61
def f63r6_19 := gfa f63r6 19 20 61 true 3 7 62
def f63r6_20 := gls f63r6 20 21 61 true 1 62 63
def f63r6_21 := gfa f63r6 21 22 61 true 1 8 64
def f63r6_22 := gls f63r6 22 23 61 true 1 64 65
def f63r6_23 := gbi f63r6 23 24 61 true Tryz.prog 63 65 66 .lss 3
def f63r6_24 := pfE f63r6 24 25 61 67 66
def f63r6_25 := mvE f63r6 25 26 43 4
def f63r6_26 := mvL f63r6 26 67 5
theorem f63n8_eq : Run (f63n8 Q s) = Run (f63r6 0 (Q .ret) s) := run_eq (Eq.trans (b := drawA Tryz.prog f63r6a (Q .ret) s) (by kernel_rfl) (Eq.trans (draw_q f63r6wr f63r6lex f63r6my) (by kernel_rfl)))
noncomputable def f63r5a := raB f63b 62
def f63r5 := f63s 62
def f63r5q (i : Nat) : SP := opsQ Tryz.prog f63r5a ((f63r5a.toList.take 9).drop i)
theorem f63r5wr : cutAt f63r5a = some 9 := by kernel_rfl
theorem f63r5tl : (Region.lexTailB .any f63r5a 9 && (f63r5a.toList.take 9).all noCall) = false := by kernel_rfl
theorem f63r5mv : (lexMoveB .any f63r5a 9 && (f63r5a.toList.take 9).all noCall && tailB f63r5a 9) = false := by kernel_rfl
theorem f63r5cb : callB f63r5a 9 = true := by kernel_rfl
theorem f63r5_0 : Run (f63r5q 0 (f63r5 9 K) ⟨e, m⟩) = Run (mvT e m (f63r5q 1 (f63r5 9 K)) 0 31) := rk
theorem f63r5_1 : Run (f63r5q 1 (f63r5 9 K) ⟨e, m⟩) = Run (withV (lk e 31) fun v1 => nilK v1 (fun x => f63r5q 2 (f63r5 9 K) ⟨(32, x) :: e, m⟩)) := rk
theorem f63r5_2 : Run (f63r5q 2 (f63r5 9 K) ⟨e, m⟩) = Run (faT e m (f63r5q 3 (f63r5 9 K)) 6 32 33) := rk
theorem f63r5_3 : Run (f63r5q 3 (f63r5 9 K) ⟨e, m⟩) = Run (faT e m (f63r5q 4 (f63r5 9 K)) 2 33 34) := rk
theorem f63r5_4 : Run (f63r5q 4 (f63r5 9 K) ⟨e, m⟩) = Run (lsT e m (f63r5q 5 (f63r5 9 K)) 1 34 35) := rk
theorem f63r5_5 : Run (f63r5q 5 (f63r5 9 K) ⟨e, m⟩) = Run (faT e m (f63r5q 6 (f63r5 9 K)) 1 7 36) := rk
theorem f63r5_6 : Run (f63r5q 6 (f63r5 9 K) ⟨e, m⟩) = Run (lsT e m (f63r5q 7 (f63r5 9 K)) 1 36 37) := rk
theorem f63r5_7 : Run (f63r5q 7 (f63r5 9 K) ⟨e, m⟩) = Run (faT e m (f63r5q 8 (f63r5 9 K)) 3 7 38) := rk
theorem f63r5_8 : Run (f63r5q 8 (f63r5 9 K) ⟨e, m⟩) = Run (lsT e m (f63r5 9 K) 1 38 39) := rk
def f63r5_9 := clE f63r5 9 10 Tryz.prog 40 55 [.tmp 35, .tmp 37, .tmp 39]
def f63r5_10 := mvE f63r5 10 11 40 30
def f63r5_11 := exE f63r5 11 12 30 41 0
def f63r5_12 := exE f63r5 12 13 30 42 1
def f63r5_13 := mvE f63r5 13 14 41 9
def f63r5_14 := mvL f63r5 14 42 10
theorem f63n7_eq : Run (f63n7 Q s) = Run (f63r5q 0 (f63r5 9 (f63n8 Q)) s) := run_eq (Eq.trans (b := drawA Tryz.prog f63r5a (f63n8 Q) s) (by kernel_rfl) (Eq.trans (draw_bar f63r5wr f63r5tl f63r5mv f63r5cb) (by kernel_rfl)))
noncomputable def f63r4a := raB f63b 30
theorem f63r4wr : cutAt f63r4a = some 10 := by kernel_rfl
theorem f63r4tl : (Region.lexTailB .any f63r4a 10 && (f63r4a.toList.take 10).all noCall) = false := by kernel_rfl
theorem f63r4mv : (lexMoveB .any f63r4a 10 && (f63r4a.toList.take 10).all noCall && tailB f63r4a 10) = false := by kernel_rfl
theorem f63r4cb : callB f63r4a 10 = false := by kernel_rfl
theorem f63r4so : (stoB f63r4a 10 && scCalls Tryz.prog f63r4a 10) = false := by kernel_rfl
theorem f63r4nw : (newB f63r4a 10 && scCalls Tryz.prog f63r4a 10) = false := by kernel_rfl
theorem f63r4ap : (appB f63r4a 10 && noClo f63r4a 10) = false := by kernel_rfl
theorem f63r4qt : (Region.lexTailB .any f63r4a 10 && noClo f63r4a 10) = false := by kernel_rfl
theorem f63r4bk : backB f63r4a = true := by kernel_rfl
def f63r4M : SP := anyA Tryz.prog f63r4a
def f63r4p (i : Nat) : SP := anyP Tryz.prog f63r4a i
def f63r4_p0 := mvL f63r4p 0 0 20
theorem f63r4_p1 : Run (f63r4p 1 K ⟨e, m⟩) = Run (withV (lk e 20) fun v1 => nilK v1 (fun x => K ⟨(21, x) :: e, m⟩)) := rk
def f63r4_p2 := faL f63r4p 2 6 21 22
def f63r4_p3 := faL f63r4p 3 3 22 23
def f63r4_p4 := lsL f63r4p 4 1 23 24
def f63r4_p5 := mvL f63r4p 5 6 25
def f63r4_p6 := iaL f63r4p 6 7 24 25 26
def f63r4_p7 := lgL f63r4p 7 7 26 27
def f63r4_p8 := mvL f63r4p 8 0 28
def f63r4_p9 := clL f63r4p 9 Tryz.prog 29 30 [.tmp 28]
def f63r4_p10 := alL f63r4p 10 7 [.int .i64 0, .int .i64 0, .int .i64 0, .int .i64 0, .int .i64 0, .int .i64 0, .bool false]
def f63r4_p11 := alL f63r4p 11 8 [.int .i64 0, .int .i64 0]
def f63r4_p12 := stL f63r4p 12 7 7 27
def f63r4_p13 := stL f63r4p 13 2 8 29
theorem f63r4_any (F : (Nat → Bool) → St) {K : St → Prop} {s : St} (h : (F fun _ => false).le s) (h0 : ∀ b : Nat → Bool, b 0 = false → b 1 = false → b 12 = false → b 13 = false → Run (f63r4p 0 (fun st => (F (upd b 0)).le st) (F b))) (h1 : ∀ b : Nat → Bool, b 1 = false → b 0 = true → b 2 = false → b 12 = false → b 13 = false → Run (f63r4p 1 (fun st => (F (upd b 1)).le st) (F b))) (h2 : ∀ b : Nat → Bool, b 2 = false → b 1 = true → b 3 = false → b 12 = false → b 13 = false → Run (f63r4p 2 (fun st => (F (upd b 2)).le st) (F b))) (h3 : ∀ b : Nat → Bool, b 3 = false → b 2 = true → b 4 = false → b 12 = false → b 13 = false → Run (f63r4p 3 (fun st => (F (upd b 3)).le st) (F b))) (h4 : ∀ b : Nat → Bool, b 4 = false → b 3 = true → b 6 = false → b 12 = false → b 13 = false → Run (f63r4p 4 (fun st => (F (upd b 4)).le st) (F b))) (h5 : ∀ b : Nat → Bool, b 5 = false → b 6 = false → b 12 = false → b 13 = false → Run (f63r4p 5 (fun st => (F (upd b 5)).le st) (F b))) (h6 : ∀ b : Nat → Bool, b 6 = false → b 4 = true → b 5 = true → b 7 = false → b 12 = false → b 13 = false → Run (f63r4p 6 (fun st => (F (upd b 6)).le st) (F b))) (h7 : ∀ b : Nat → Bool, b 7 = false → b 6 = true → b 12 = false → b 13 = false → Run (f63r4p 7 (fun st => (F (upd b 7)).le st) (F b))) (h8 : ∀ b : Nat → Bool, b 8 = false → b 9 = false → b 13 = false → Run (f63r4p 8 (fun st => (F (upd b 8)).le st) (F b))) (h9 : ∀ b : Nat → Bool, b 9 = false → b 8 = true → b 12 = false → b 13 = false → Run (f63r4p 9 (fun st => (F (upd b 9)).le st) (F b))) (h10 : ∀ b : Nat → Bool, b 10 = false → b 12 = false → b 13 = false → Run (f63r4p 10 (fun st => (F (upd b 10)).le st) (F b))) (h11 : ∀ b : Nat → Bool, b 11 = false → b 12 = false → b 13 = false → Run (f63r4p 11 (fun st => (F (upd b 11)).le st) (F b))) (h12 : ∀ b : Nat → Bool, b 12 = false → b 0 = true → b 1 = true → b 2 = true → b 3 = true → b 4 = true → b 5 = true → b 6 = true → b 7 = true → b 9 = true → b 10 = true → b 11 = true → b 13 = false → Run (f63r4p 12 (fun st => (F (upd b 12)).le st) (F b))) (h13 : ∀ b : Nat → Bool, b 13 = false → b 0 = true → b 1 = true → b 2 = true → b 3 = true → b 4 = true → b 5 = true → b 6 = true → b 7 = true → b 8 = true → b 9 = true → b 10 = true → b 11 = true → b 12 = true → Run (f63r4p 13 (fun st => (F (upd b 13)).le st) (F b))) (hK : ∀ b : Nat → Bool, b 0 = true → b 1 = true → b 2 = true → b 3 = true → b 4 = true → b 5 = true → b 6 = true → b 7 = true → b 8 = true → b 9 = true → b 10 = true → b 11 = true → b 12 = true → b 13 = true → Run (K (F b))) : Run (f63r4M K s) := by
  refine ⟨F, h, fun b hb => hK b (hb 0 (Nat.lt_of_lt_of_eq (by decide : 0 < 14) (by kernel_rfl))) (hb 1 (Nat.lt_of_lt_of_eq (by decide : 1 < 14) (by kernel_rfl))) (hb 2 (Nat.lt_of_lt_of_eq (by decide : 2 < 14) (by kernel_rfl))) (hb 3 (Nat.lt_of_lt_of_eq (by decide : 3 < 14) (by kernel_rfl))) (hb 4 (Nat.lt_of_lt_of_eq (by decide : 4 < 14) (by kernel_rfl))) (hb 5 (Nat.lt_of_lt_of_eq (by decide : 5 < 14) (by kernel_rfl))) (hb 6 (Nat.lt_of_lt_of_eq (by decide : 6 < 14) (by kernel_rfl))) (hb 7 (Nat.lt_of_lt_of_eq (by decide : 7 < 14) (by kernel_rfl))) (hb 8 (Nat.lt_of_lt_of_eq (by decide : 8 < 14) (by kernel_rfl))) (hb 9 (Nat.lt_of_lt_of_eq (by decide : 9 < 14) (by kernel_rfl))) (hb 10 (Nat.lt_of_lt_of_eq (by decide : 10 < 14) (by kernel_rfl))) (hb 11 (Nat.lt_of_lt_of_eq (by decide : 11 < 14) (by kernel_rfl))) (hb 12 (Nat.lt_of_lt_of_eq (by decide : 12 < 14) (by kernel_rfl))) (hb 13 (Nat.lt_of_lt_of_eq (by decide : 13 < 14) (by kernel_rfl))), fun b i o ho hb hw hs => ?_⟩
  have hi : i < 14 := Nat.lt_of_lt_of_eq (Array.getElem?_eq_some_iff.1 ho).1 (by kernel_rfl)
  rcases (show i = 0 ∨ i = 1 ∨ i = 2 ∨ i = 3 ∨ i = 4 ∨ i = 5 ∨ i = 6 ∨ i = 7 ∨ i = 8 ∨ i = 9 ∨ i = 10 ∨ i = 11 ∨ i = 12 ∨ i = 13 by omega) with rfl | rfl | rfl | rfl | rfl | rfl | rfl | rfl | rfl | rfl | rfl | rfl | rfl | rfl
  · exact any_step (by kernel_rfl) ho (h0 b hb (hs 1 (by kernel_rfl)) (hs 12 (by kernel_rfl)) (hs 13 (by kernel_rfl)))
  · exact any_step (by kernel_rfl) ho (h1 b hb (hw 0 (by kernel_rfl)) (hs 2 (by kernel_rfl)) (hs 12 (by kernel_rfl)) (hs 13 (by kernel_rfl)))
  · exact any_step (by kernel_rfl) ho (h2 b hb (hw 1 (by kernel_rfl)) (hs 3 (by kernel_rfl)) (hs 12 (by kernel_rfl)) (hs 13 (by kernel_rfl)))
  · exact any_step (by kernel_rfl) ho (h3 b hb (hw 2 (by kernel_rfl)) (hs 4 (by kernel_rfl)) (hs 12 (by kernel_rfl)) (hs 13 (by kernel_rfl)))
  · exact any_step (by kernel_rfl) ho (h4 b hb (hw 3 (by kernel_rfl)) (hs 6 (by kernel_rfl)) (hs 12 (by kernel_rfl)) (hs 13 (by kernel_rfl)))
  · exact any_step (by kernel_rfl) ho (h5 b hb (hs 6 (by kernel_rfl)) (hs 12 (by kernel_rfl)) (hs 13 (by kernel_rfl)))
  · exact any_step (by kernel_rfl) ho (h6 b hb (hw 4 (by kernel_rfl)) (hw 5 (by kernel_rfl)) (hs 7 (by kernel_rfl)) (hs 12 (by kernel_rfl)) (hs 13 (by kernel_rfl)))
  · exact any_step (by kernel_rfl) ho (h7 b hb (hw 6 (by kernel_rfl)) (hs 12 (by kernel_rfl)) (hs 13 (by kernel_rfl)))
  · exact any_step (by kernel_rfl) ho (h8 b hb (hs 9 (by kernel_rfl)) (hs 13 (by kernel_rfl)))
  · exact any_step (by kernel_rfl) ho (h9 b hb (hw 8 (by kernel_rfl)) (hs 12 (by kernel_rfl)) (hs 13 (by kernel_rfl)))
  · exact any_step (by kernel_rfl) ho (h10 b hb (hs 12 (by kernel_rfl)) (hs 13 (by kernel_rfl)))
  · exact any_step (by kernel_rfl) ho (h11 b hb (hs 12 (by kernel_rfl)) (hs 13 (by kernel_rfl)))
  · exact any_step (by kernel_rfl) ho (h12 b hb (hw 0 (by kernel_rfl)) (hw 1 (by kernel_rfl)) (hw 2 (by kernel_rfl)) (hw 3 (by kernel_rfl)) (hw 4 (by kernel_rfl)) (hw 5 (by kernel_rfl)) (hw 6 (by kernel_rfl)) (hw 7 (by kernel_rfl)) (hw 9 (by kernel_rfl)) (hw 10 (by kernel_rfl)) (hw 11 (by kernel_rfl)) (hs 13 (by kernel_rfl)))
  · exact any_step (by kernel_rfl) ho (h13 b hb (hw 0 (by kernel_rfl)) (hw 1 (by kernel_rfl)) (hw 2 (by kernel_rfl)) (hw 3 (by kernel_rfl)) (hw 4 (by kernel_rfl)) (hw 5 (by kernel_rfl)) (hw 6 (by kernel_rfl)) (hw 7 (by kernel_rfl)) (hw 8 (by kernel_rfl)) (hw 9 (by kernel_rfl)) (hw 10 (by kernel_rfl)) (hw 11 (by kernel_rfl)) (hw 12 (by kernel_rfl)))
theorem f63n6_eq : Run (f63n6 Q s) = Run (f63r4M (f63n7 Q) s) := run_eq (Eq.trans (b := drawA Tryz.prog f63r4a (f63n7 Q) s) (by kernel_rfl) (Eq.trans (draw_any f63r4wr f63r4tl f63r4mv f63r4cb f63r4so f63r4nw f63r4ap f63r4qt f63r4bk) (by kernel_rfl)))
def f63n2_eq := ntE f63n2 f63n3 f63n6
def f63r1 := f63s 6
def f63r1_0 := mvE f63r1 0 1 0 11
theorem f63r1_1 : Run (f63r1 1 K ⟨e, m⟩) = Run (withV (lk e 11) fun v1 => nilK v1 (fun x => f63r1 2 K ⟨(12, x) :: e, m⟩)) := rk
def f63r1_2 := faE f63r1 2 3 6 12 13
def f63r1_3 := faE f63r1 3 4 3 13 14
def f63r1_4 := lsE f63r1 4 5 1 14 15
def f63r1_5 := fnE f63r1 5 6 16 91 [.tmp 3]
def f63r1_6 := clE f63r1 6 7 Tryz.prog 17 46 [.tmp 15, .tmp 16]
def f63r1_7 := mvL f63r1 7 17 6
def f63n1_eq := nrE f63n1 f63r1 f63n2
def f63r0 := f63s 2
def f63r0_0 := bxE f63r0 0 1 3 1
def f63r0_1 := ciE f63r0 1 2 4 0
def f63r0_2 := cbL f63r0 2 5 false
def f63n_eq := nrE f63n f63r0 f63n1
def f63_calls := caE Tryz.prog 63 Tryz.f63 f63b f63n 68 [.tmp 4, .tmp 5] Tryz.func63 mixed
attribute [go_sem] f63n4_eq f63r2_0 f63r2_1 f63n3_eq f63r6_0 f63r6_1 f63r6_2 f63r6_3 f63r6_4 f63r6_5 f63r6_6 f63r6_7 f63r6_8 f63r6_9 f63r6_10 f63r6_11 f63r6_12 f63r6_13 f63r6_14 f63r6_15 f63r6_16 f63r6_17 f63r6_18 f63r6_19 f63r6_20 f63r6_21 f63r6_22 f63r6_23 f63r6_24 f63r6_25 f63r6_26 f63n8_eq f63r5_0 f63r5_1 f63r5_2 f63r5_3 f63r5_4
attribute [go_sem] f63r5_5 f63r5_6 f63r5_7 f63r5_8 f63r5_9 f63r5_10 f63r5_11 f63r5_12 f63r5_13 f63r5_14 f63n7_eq f63r4_p0 f63r4_p1 f63r4_p2 f63r4_p3 f63r4_p4 f63r4_p5 f63r4_p6 f63r4_p7 f63r4_p8 f63r4_p9 f63r4_p10 f63r4_p11 f63r4_p12 f63r4_p13 f63n6_eq f63n2_eq f63r1_0 f63r1_1 f63r1_2 f63r1_3 f63r1_4 f63r1_5 f63r1_6 f63r1_7 f63n1_eq f63r0_0 f63r0_1 f63r0_2 f63n_eq
noncomputable def f64b : Code := Tryz.f64.body.getD .skip
def f64d := ndB Tryz.prog f64b
def f64s := rsB Tryz.prog f64b
def f64n : WP := wpA Tryz.prog f64b
def f64n1 := f64d 3
def f64r1 := f64s 6
def f64r1_0 := mvE f64r1 0 1 0 5
def f64r1_1 := mvE f64r1 1 2 1 6
def f64r1_2 := clE f64r1 2 3 Tryz.prog 7 92 [.tmp 5, .tmp 6]
def f64r1_3 := bnE f64r1 3 4 Tryz.prog 7 8 .geq 3 0
def f64r1_4 := mvL f64r1 4 8 4
def f64n1_eq := nrR f64n1 f64r1
def f64r0 := f64s 2
def f64r0_0 := cbL f64r0 0 4 false
def f64n_eq := nrE f64n f64r0 f64n1
def f64_calls := caE Tryz.prog 64 Tryz.f64 f64b f64n 9 [.tmp 4] Tryz.func64 mixed
attribute [go_sem] f64r1_0 f64r1_1 f64r1_2 f64r1_3 f64r1_4 f64n1_eq f64r0_0 f64n_eq
noncomputable def f66b : Code := Tryz.f66.body.getD .skip
def f66d := ndB Tryz.prog f66b
def f66s := rsB Tryz.prog f66b
def f66n : WP := wpA Tryz.prog f66b
def f66n1 := f66d 3
def f66r1 := f66s 6
def f66r1_0 := mvE f66r1 0 1 0 3
def f66r1_1 := bcE f66r1 1 2 Tryz.prog 3 4 .geq 5 (.int .u8 65)
def f66r1_2 := mvE f66r1 2 3 4 5
def f66r1_3 := gmv f66r1 3 4 5 true 0 6
def f66r1_4 := gbc f66r1 4 5 5 true Tryz.prog 6 7 .leq 5 (.int .u8 90)
def f66r1_5 := pfE f66r1 5 6 5 8 7
def f66r1_6 := mvE f66r1 6 7 8 9
def f66r1_7 := gmv f66r1 7 8 9 false 0 10
def f66r1_8 := gbc f66r1 8 9 9 false Tryz.prog 10 11 .geq 5 (.int .u8 97)
def f66r1_9 := gmv f66r1 9 10 9 false 11 12
def f66r1_10 := gmv f66r1 10 11 12 true 0 13
def f66r1_11 := gbc f66r1 11 12 12 true Tryz.prog 13 14 .leq 5 (.int .u8 122)
theorem f66r1_12 : Run (f66r1 12 K ⟨e, m⟩) = Run (gN e m (f66r1 13 K) 9 15 false fun e => pkT e m (f66r1 13 K) 12 15 (lk e 14) (some (.bool false))) := rk
def f66r1_13 := ptE f66r1 13 14 9 16 15
def f66r1_14 := mvL f66r1 14 16 2
def f66n1_eq := nrR f66n1 f66r1
def f66r0 := f66s 2
def f66r0_0 := cbL f66r0 0 2 false
def f66n_eq := nrE f66n f66r0 f66n1
def f66_calls := caE Tryz.prog 66 Tryz.f66 f66b f66n 17 [.tmp 2] Tryz.func66 mixed
attribute [go_sem] f66r1_0 f66r1_1 f66r1_2 f66r1_3 f66r1_4 f66r1_5 f66r1_6 f66r1_7 f66r1_8 f66r1_9 f66r1_10 f66r1_11 f66r1_12 f66r1_13 f66r1_14 f66n1_eq f66r0_0 f66n_eq
noncomputable def f67b : Code := Tryz.f67.body.getD .skip
def f67d := ndB Tryz.prog f67b
def f67s := rsB Tryz.prog f67b
def f67n : WP := wpA Tryz.prog f67b
def f67n1 := f67d 3
def f67n2 := f67d 6
def f67n3 := f67d 12
def f67n4 := f67d 25
def f67n5 := f67d 50
def f67r2 := f67s 100
def f67r2_0 := ciL f67r2 0 6 5
def f67n5_eq := nrR f67n5 f67r2
def f67n6 := f67d 51
def f67n7 := f67d 103
def f67n8 := f67d 206
def f67r4 := f67s 412
def f67r4_0 := ciL f67r4 0 6 21
def f67n8_eq := nrR f67n8 f67r4
def f67n9 := f67d 207
def f67n10 := f67d 415
def f67n11 := f67d 830
def f67r6 := f67s 1660
def f67r6_0 := ciL f67r6 0 6 1
def f67n11_eq := nrR f67n11 f67r6
def f67n12 := f67d 831
def f67n13 := f67d 1663
def f67n14 := f67d 3326
def f67r8 := f67s 6652
def f67r8_0 := ciL f67r8 0 6 7
def f67n14_eq := nrR f67n14 f67r8
def f67n13_eq := ncN f67n13 41 f67n14
def f67r7 := f67s 1662
def f67r7_0 := faE f67r7 0 1 4 3 42
def f67r7_1 := lsE f67r7 1 2 1 42 43
def f67r7_2 := bnE f67r7 2 3 Tryz.prog 43 44 .lss 3 0
def f67r7_3 := mvE f67r7 3 4 44 45
def f67r7_4 := gfa f67r7 4 5 45 false 4 3 46
def f67r7_5 := gls f67r7 5 6 45 false 1 46 47
def f67r7_6 := gmv f67r7 6 7 45 false 2 48
def f67r7_7 := gbi f67r7 7 8 45 false Tryz.prog 47 48 49 .geq 3
def f67r7_8 := ptE f67r7 8 9 45 50 49
def f67r7_9 := mvL f67r7 9 50 41
def f67n12_eq := nrE f67n12 f67r7 f67n13
def f67n10_eq := ncC f67n10 22 f67n11 f67n12
def f67r5 := f67s 414
def f67r5_0 := faE f67r5 0 1 2 3 23
def f67r5_1 := lsE f67r5 1 2 1 23 24
def f67r5_2 := bnE f67r5 2 3 Tryz.prog 24 25 .lss 3 1
def f67r5_3 := mvE f67r5 3 4 25 26
def f67r5_4 := gfa f67r5 4 5 26 false 2 3 27
def f67r5_5 := gls f67r5 5 6 26 false 1 27 28
def f67r5_6 := gbn f67r5 6 7 26 false Tryz.prog 28 29 .gtr 3 40000
def f67r5_7 := ptE f67r5 7 8 26 30 29
def f67r5_8 := mvE f67r5 8 9 30 31
def f67r5_9 := gfa f67r5 9 10 31 false 3 3 32
def f67r5_10 := gls f67r5 10 11 31 false 1 32 33
def f67r5_11 := gbn f67r5 11 12 31 false Tryz.prog 33 34 .lss 3 1
def f67r5_12 := ptE f67r5 12 13 31 35 34
def f67r5_13 := mvE f67r5 13 14 35 36
def f67r5_14 := gfa f67r5 14 15 36 false 3 3 37
def f67r5_15 := gls f67r5 15 16 36 false 1 37 38
def f67r5_16 := gbn f67r5 16 17 36 false Tryz.prog 38 39 .gtr 3 1073741824
def f67r5_17 := ptE f67r5 17 18 36 40 39
def f67r5_18 := mvL f67r5 18 40 22
def f67n9_eq := nrE f67n9 f67r5 f67n10
def f67n7_eq := ncC f67n7 12 f67n8 f67n9
def f67r3 := f67s 102
def f67r3_0 := faE f67r3 0 1 1 3 13
def f67r3_1 := lsE f67r3 1 2 1 13 14
def f67r3_2 := bnE f67r3 2 3 Tryz.prog 14 15 .lss 3 0
def f67r3_3 := mvE f67r3 3 4 15 16
def f67r3_4 := gfa f67r3 4 5 16 false 1 3 17
def f67r3_5 := gls f67r3 5 6 16 false 1 17 18
def f67r3_6 := gmv f67r3 6 7 16 false 1 19
def f67r3_7 := gbi f67r3 7 8 16 false Tryz.prog 18 19 20 .geq 3
def f67r3_8 := ptE f67r3 8 9 16 21 20
def f67r3_9 := mvL f67r3 9 21 12
def f67n6_eq := nrE f67n6 f67r3 f67n7
def f67n4_eq := ncC f67n4 7 f67n5 f67n6
def f67r1 := f67s 24
def f67r1_0 := faE f67r1 0 1 0 3 8
def f67r1_1 := lsE f67r1 1 2 1 8 9
def f67r1_2 := clE f67r1 2 3 Tryz.prog 10 93 [.tmp 9]
def f67r1_3 := noE f67r1 3 4 10 11
def f67r1_4 := mvL f67r1 4 11 7
def f67n3_eq := nrE f67n3 f67r1 f67n4
def f67n2_eq := nbE f67n2 f67n3 0
def f67n15 := f67d 7
def f67r9 := f67s 14
def f67r9_0 := ciL f67r9 0 6 0
def f67n15_eq := nrR f67n15 f67r9
def f67n1_eq := ntE f67n1 f67n2 f67n15
def f67r0 := f67s 2
def f67r0_0 := bxE f67r0 0 1 3 0
def f67r0_1 := ciL f67r0 1 6 0
def f67n_eq := nrE f67n f67r0 f67n1
def f67_calls := caE Tryz.prog 67 Tryz.f67 f67b f67n 51 [.tmp 6] Tryz.func67 mixed
attribute [go_sem] f67r2_0 f67n5_eq f67r4_0 f67n8_eq f67r6_0 f67n11_eq f67r8_0 f67n14_eq f67n13_eq f67r7_0 f67r7_1 f67r7_2 f67r7_3 f67r7_4 f67r7_5 f67r7_6 f67r7_7 f67r7_8 f67r7_9 f67n12_eq f67n10_eq f67r5_0 f67r5_1 f67r5_2 f67r5_3 f67r5_4 f67r5_5 f67r5_6 f67r5_7 f67r5_8 f67r5_9 f67r5_10 f67r5_11 f67r5_12 f67r5_13 f67r5_14 f67r5_15 f67r5_16 f67r5_17 f67r5_18
attribute [go_sem] f67n9_eq f67n7_eq f67r3_0 f67r3_1 f67r3_2 f67r3_3 f67r3_4 f67r3_5 f67r3_6 f67r3_7 f67r3_8 f67r3_9 f67n6_eq f67n4_eq f67r1_0 f67r1_1 f67r1_2 f67r1_3 f67r1_4 f67n3_eq f67n2_eq f67r9_0 f67n15_eq f67n1_eq f67r0_0 f67r0_1 f67n_eq
noncomputable def f68b : Code := Tryz.f68.body.getD .skip
def f68d := ndB Tryz.prog f68b
def f68s := rsB Tryz.prog f68b
def f68n : WP := wpA Tryz.prog f68b
def f68n1 := f68d 3
def f68n2 := f68d 6
def f68n3 := f68d 13
def f68n4 := f68d 26
def f68r2 := f68s 52
def f68r2_0 := ciL f68r2 0 2 8
def f68n4_eq := nrR f68n4 f68r2
def f68n3_eq := ncN f68n3 9 f68n4
def f68r1 := f68s 12
def f68r1_0 := mvE f68r1 0 1 0 7
def f68r1_1 := lnE f68r1 1 2 7 8
def f68r1_2 := bnL f68r1 2 Tryz.prog 8 9 .gtr 3 256
def f68n2_eq := nrE f68n2 f68r1 f68n3
def f68n5 := f68d 7
def f68n6 := f68d 14
def f68n7 := f68d 29
def f68L8 := f68d 58
def f68n9 := f68d 116
def f68n10 := f68d 233
def f68n11 := f68d 466
def f68n11_eq := ncX f68n11 13 0
def f68n12 := f68d 467
def f68n13 := f68d 934
def f68n14 := f68d 1868
def f68n15 := f68d 3737
def f68n16 := f68d 7474
def f68n17 := f68d 14949
def f68n18 := f68d 29898
def f68r7 := f68s 59796
def f68r7_0 := ciL f68r7 0 2 5
def f68n18_eq := nrR f68n18 f68r7
def f68n17_eq := ncN f68n17 19 f68n18
def f68r6 := f68s 14948
def f68r6_0 := faE f68r6 0 1 0 4 16
def f68r6_1 := lsE f68r6 1 2 1 16 17
def f68r6_2 := clE f68r6 2 3 Tryz.prog 18 93 [.tmp 17]
def f68r6_3 := noL f68r6 3 18 19
def f68n16_eq := nrE f68n16 f68r6 f68n17
def f68n19 := f68d 7475
def f68n20 := f68d 14951
def f68n21 := f68d 29902
def f68r9 := f68s 59804
def f68r9_0 := ciL f68r9 0 2 1
def f68n21_eq := nrR f68n21 f68r9
def f68n20_eq := ncN f68n20 27 f68n21
def f68r8 := f68s 14950
def f68r8_0 := faE f68r8 0 1 1 4 20
def f68r8_1 := lsE f68r8 1 2 1 20 21
def f68r8_2 := bnE f68r8 2 3 Tryz.prog 21 22 .lss 3 1
def f68r8_3 := mvE f68r8 3 4 22 23
def f68r8_4 := gfa f68r8 4 5 23 false 1 4 24
def f68r8_5 := gls f68r8 5 6 23 false 1 24 25
def f68r8_6 := gbn f68r8 6 7 23 false Tryz.prog 25 26 .gtr 3 100
def f68r8_7 := ptL f68r8 7 23 27 26
def f68n19_eq := nrE f68n19 f68r8 f68n20
def f68n15_eq := ntE f68n15 f68n16 f68n19
def f68r5 := f68s 3736
def f68r5_0 := iaE f68r5 0 1 2 10 12 14
def f68r5_1 := lgE f68r5 1 2 2 14 15
def f68r5_2 := alE f68r5 2 3 4 [.str [], .int .i64 0]
def f68r5_3 := stL f68r5 3 2 4 15
def f68n14_eq := nrE f68n14 f68r5 f68n15
def f68n13_eq := nbE f68n13 f68n14 1
def f68n22 := f68d 935
def f68r10 := f68s 935
def f68r10_0 := bnE f68r10 0 1 Tryz.prog 12 28 .add 3 1
def f68r10_1 := mvL f68r10 1 28 12
def f68n22_eq := nrN f68n22 f68r10
def f68n12_eq := ntE f68n12 f68n13 f68n22
def f68n10_eq := ntE f68n10 f68n11 f68n12
def f68r4 := f68s 232
def f68r4_0 := biL f68r4 0 Tryz.prog 12 11 13 .lss 3
def f68n9_eq := nrE f68n9 f68r4 f68n10
def f68L8_is := loE f68L8 f68n9 Tryz.prog f68b 116
def f68n7_eq := nbE f68n7 f68L8 0
def f68r3 := f68s 28
def f68r3_0 := mvE f68r3 0 1 0 10
def f68r3_1 := lnE f68r3 1 2 10 11
def f68r3_2 := ciL f68r3 2 12 0
def f68n6_eq := nrE f68n6 f68r3 f68n7
def f68n23 := f68d 15
def f68n24 := f68d 30
def f68n25 := f68d 61
def f68L26 := f68d 122
def f68n27 := f68d 244
def f68n28 := f68d 489
def f68n29 := f68d 978
def f68n29_eq := ncX f68n29 32 2
def f68n30 := f68d 979
def f68n31 := f68d 1958
def f68n32 := f68d 3916
def f68n33 := f68d 7833
def f68n34 := f68d 15667
def f68n35 := f68d 31334
def f68r15 := f68s 62668
def f68r15_0 := ciL f68r15 0 2 6
def f68n35_eq := nrR f68n35 f68r15
def f68n34_eq := ncN f68n34 40 f68n35
def f68r14 := f68s 15666
def f68r14_0 := mvE f68r14 0 1 0 36
def f68r14_1 := mvE f68r14 1 2 5 37
theorem f68r14_2 : Run (f68r14 2 K ⟨e, m⟩) = Run (withV (lk e 36) fun v1 => slF 2 (fun e => none) (fun e => (some (lk e 37))) v1 38 (f68r14 3 K) e m) := rk
def f68r14_3 := fnE f68r14 3 4 39 95 [.tmp 6]
def f68r14_4 := clL f68r14 4 Tryz.prog 40 94 [.tmp 38, .tmp 39]
def f68n33_eq := nrE f68n33 f68r14 f68n34
def f68r13 := f68s 7832
def f68r13_0 := mvE f68r13 0 1 31 33
def f68r13_1 := iaE f68r13 1 2 2 29 31 34
def f68r13_2 := lgE f68r13 2 3 2 34 35
def f68r13_3 := alE f68r13 3 4 6 [.str [], .int .i64 0]
def f68r13_4 := mvE f68r13 4 5 33 5
def f68r13_5 := stL f68r13 5 2 6 35
def f68n32_eq := nrE f68n32 f68r13 f68n33
def f68n31_eq := nbE f68n31 f68n32 3
def f68n36 := f68d 1959
def f68r16 := f68s 1959
def f68r16_0 := bnE f68r16 0 1 Tryz.prog 31 41 .add 3 1
def f68r16_1 := mvL f68r16 1 41 31
def f68n36_eq := nrN f68n36 f68r16
def f68n30_eq := ntE f68n30 f68n31 f68n36
def f68n28_eq := ntE f68n28 f68n29 f68n30
def f68r12 := f68s 488
def f68r12_0 := biL f68r12 0 Tryz.prog 31 30 32 .lss 3
def f68n27_eq := nrE f68n27 f68r12 f68n28
def f68L26_is := loE f68L26 f68n27 Tryz.prog f68b 244
def f68n25_eq := nbE f68n25 f68L26 2
def f68r11 := f68s 60
def f68r11_0 := mvE f68r11 0 1 0 29
def f68r11_1 := lnE f68r11 1 2 29 30
def f68r11_2 := ciL f68r11 2 31 0
def f68n24_eq := nrE f68n24 f68r11 f68n25
def f68n37 := f68d 31
def f68r17 := f68s 62
def f68r17_0 := ciL f68r17 0 2 0
def f68n37_eq := nrR f68n37 f68r17
def f68n23_eq := ntE f68n23 f68n24 f68n37
def f68n5_eq := ntE f68n5 f68n6 f68n23
def f68n1_eq := ntE f68n1 f68n2 f68n5
def f68r0 := f68s 2
def f68r0_0 := ciL f68r0 0 2 0
def f68n_eq := nrE f68n f68r0 f68n1
def f68_calls := caE Tryz.prog 68 Tryz.f68 f68b f68n 42 [.tmp 2] Tryz.func68 mixed
attribute [go_sem] f68r2_0 f68n4_eq f68n3_eq f68r1_0 f68r1_1 f68r1_2 f68n2_eq f68n11_eq f68r7_0 f68n18_eq f68n17_eq f68r6_0 f68r6_1 f68r6_2 f68r6_3 f68n16_eq f68r9_0 f68n21_eq f68n20_eq f68r8_0 f68r8_1 f68r8_2 f68r8_3 f68r8_4 f68r8_5 f68r8_6 f68r8_7 f68n19_eq f68n15_eq f68r5_0 f68r5_1 f68r5_2 f68r5_3 f68n14_eq f68n13_eq f68r10_0 f68r10_1 f68n22_eq f68n12_eq f68n10_eq
attribute [go_sem] f68r4_0 f68n9_eq f68n7_eq f68r3_0 f68r3_1 f68r3_2 f68n6_eq f68n29_eq f68r15_0 f68n35_eq f68n34_eq f68r14_0 f68r14_1 f68r14_2 f68r14_3 f68r14_4 f68n33_eq f68r13_0 f68r13_1 f68r13_2 f68r13_3 f68r13_4 f68r13_5 f68n32_eq f68n31_eq f68r16_0 f68r16_1 f68n36_eq f68n30_eq f68n28_eq f68r12_0 f68n27_eq f68n25_eq f68r11_0 f68r11_1 f68r11_2 f68n24_eq f68r17_0 f68n37_eq f68n23_eq
attribute [go_sem] f68n5_eq f68n1_eq f68r0_0 f68n_eq
noncomputable def f69b : Code := Tryz.f69.body.getD .skip
def f69d := ndB Tryz.prog f69b
def f69s := rsB Tryz.prog f69b
def f69n : WP := wpA Tryz.prog f69b
def f69n1 := f69d 3
def f69r1 := f69s 6
def f69r1_0 := faE f69r1 0 1 0 1 3
def f69r1_1 := lsE f69r1 1 2 1 3 4
theorem f69r1_2 : Run (f69r1 2 K ⟨e, m⟩) = Run (withV (some (.int .i64 0)) fun v1 => withV (lk e 4) fun v2 => binA Tryz.prog .leq 3 v1 v2 (fun x => f69r1 3 K ⟨(5, x) :: e, m⟩)) := rk
def f69r1_3 := mvE f69r1 3 4 5 6
def f69r1_4 := gfa f69r1 4 5 6 true 0 1 7
def f69r1_5 := gls f69r1 5 6 6 true 1 7 8
def f69r1_6 := gfa f69r1 6 7 6 true 1 1 9
def f69r1_7 := gls f69r1 7 8 6 true 1 9 10
def f69r1_8 := gbi f69r1 8 9 6 true Tryz.prog 8 10 11 .leq 3
def f69r1_9 := pfE f69r1 9 10 6 12 11
def f69r1_10 := mvE f69r1 10 11 12 13
def f69r1_11 := gfa f69r1 11 12 13 true 1 1 14
def f69r1_12 := gls f69r1 12 13 13 true 1 14 15
def f69r1_13 := gbn f69r1 13 14 13 true Tryz.prog 15 16 .leq 3 3155760000
def f69r1_14 := pfE f69r1 14 15 13 17 16
def f69r1_15 := mvL f69r1 15 17 2
def f69n1_eq := nrR f69n1 f69r1
def f69r0 := f69s 2
def f69r0_0 := bxE f69r0 0 1 1 0
def f69r0_1 := cbL f69r0 1 2 false
def f69n_eq := nrE f69n f69r0 f69n1
def f69_calls := caE Tryz.prog 69 Tryz.f69 f69b f69n 18 [.tmp 2] Tryz.func69 mixed
attribute [go_sem] f69r1_0 f69r1_1 f69r1_2 f69r1_3 f69r1_4 f69r1_5 f69r1_6 f69r1_7 f69r1_8 f69r1_9 f69r1_10 f69r1_11 f69r1_12 f69r1_13 f69r1_14 f69r1_15 f69n1_eq f69r0_0 f69r0_1 f69n_eq
noncomputable def f70b : Code := Tryz.f70.body.getD .skip
def f70d := ndB Tryz.prog f70b
def f70s := rsB Tryz.prog f70b
def f70n : WP := wpA Tryz.prog f70b
def f70n1 := f70d 3
def f70r1 := f70s 6
def f70r1_0 := faE f70r1 0 1 0 2 4
def f70r1_1 := lsE f70r1 1 2 1 4 5
def f70r1_2 := faE f70r1 2 3 0 1 6
def f70r1_3 := lsE f70r1 3 4 1 6 7
def f70r1_4 := biE f70r1 4 5 Tryz.prog 5 7 8 .eql 3
def f70r1_5 := mvE f70r1 5 6 8 9
def f70r1_6 := gfa f70r1 6 7 9 true 2 1 10
def f70r1_7 := glg f70r1 7 8 9 true 2 10 11
def f70r1_8 := gfa f70r1 8 9 9 true 2 2 12
def f70r1_9 := glg f70r1 9 10 9 true 2 12 13
def f70r1_10 := gcl f70r1 10 11 9 true Tryz.prog 14 72 [.tmp 11, .tmp 13]
def f70r1_11 := gcl f70r1 11 12 9 true Tryz.prog 15 71 [.tmp 14]
def f70r1_12 := gno f70r1 12 13 9 true 15 16
def f70r1_13 := pfE f70r1 13 14 9 17 16
def f70r1_14 := mvL f70r1 14 17 3
def f70n1_eq := nrR f70n1 f70r1
def f70r0 := f70s 2
def f70r0_0 := bxE f70r0 0 1 2 0
def f70r0_1 := cbL f70r0 1 3 false
def f70n_eq := nrE f70n f70r0 f70n1
def f70_calls := caE Tryz.prog 70 Tryz.f70 f70b f70n 18 [.tmp 3] Tryz.func70 mixed
attribute [go_sem] f70r1_0 f70r1_1 f70r1_2 f70r1_3 f70r1_4 f70r1_5 f70r1_6 f70r1_7 f70r1_8 f70r1_9 f70r1_10 f70r1_11 f70r1_12 f70r1_13 f70r1_14 f70n1_eq f70r0_0 f70r0_1 f70n_eq
noncomputable def f71b : Code := Tryz.f71.body.getD .skip
def f71d := ndB Tryz.prog f71b
def f71s := rsB Tryz.prog f71b
def f71n : WP := wpA Tryz.prog f71b
def f71n1 := f71d 3
def f71r1 := f71s 6
def f71r1_0 := faE f71r1 0 1 0 1 3
def f71r1_1 := lsE f71r1 1 2 1 3 4
def f71r1_2 := faE f71r1 2 3 1 1 5
def f71r1_3 := lsE f71r1 3 4 1 5 6
def f71r1_4 := biE f71r1 4 5 Tryz.prog 4 6 7 .geq 3
def f71r1_5 := mvL f71r1 5 7 2
def f71n1_eq := nrR f71n1 f71r1
def f71r0 := f71s 2
def f71r0_0 := bxE f71r0 0 1 1 0
def f71r0_1 := cbL f71r0 1 2 false
def f71n_eq := nrE f71n f71r0 f71n1
def f71_calls := caE Tryz.prog 71 Tryz.f71 f71b f71n 8 [.tmp 2] Tryz.func71 mixed
attribute [go_sem] f71r1_0 f71r1_1 f71r1_2 f71r1_3 f71r1_4 f71r1_5 f71n1_eq f71r0_0 f71r0_1 f71n_eq
noncomputable def f72b : Code := Tryz.f72.body.getD .skip
def f72d := ndB Tryz.prog f72b
def f72s := rsB Tryz.prog f72b
def f72n : WP := wpA Tryz.prog f72b
def f72n1 := f72d 3
def f72r1 := f72s 6
def f72r1_0 := faE f72r1 0 1 0 2 5
def f72r1_1 := lsE f72r1 1 2 1 5 6
def f72r1_2 := faE f72r1 2 3 0 3 7
def f72r1_3 := lsE f72r1 3 4 1 7 8
theorem f72r1_4 : Run (f72r1 4 K ⟨e, m⟩) = Run (withV (lk e 6) fun v1 => withV (lk e 8) fun v2 => mnK true v1 v2 (fun x => f72r1 5 K ⟨(9, x) :: e, m⟩)) := rk
def f72r1_5 := faE f72r1 5 6 1 2 10
def f72r1_6 := lsE f72r1 6 7 1 10 11
def f72r1_7 := faE f72r1 7 8 1 3 12
def f72r1_8 := lsE f72r1 8 9 1 12 13
theorem f72r1_9 : Run (f72r1 9 K ⟨e, m⟩) = Run (withV (lk e 11) fun v1 => withV (lk e 13) fun v2 => mnK false v1 v2 (fun x => f72r1 10 K ⟨(14, x) :: e, m⟩)) := rk
def f72r1_10 := bdE f72r1 10 11 15 [(0, .tmp 9), (1, .tmp 14)] [(0, 1), (1, 1)] [.int .i64 0, .int .i64 0]
def f72r1_11 := stL f72r1 11 2 4 15
def f72n1_eq := nrR f72n1 f72r1
def f72r0 := f72s 2
def f72r0_0 := bxE f72r0 0 1 2 0
def f72r0_1 := bxE f72r0 1 2 3 1
def f72r0_2 := alL f72r0 2 4 [.int .i64 0, .int .i64 0]
def f72n_eq := nrE f72n f72r0 f72n1
def f72_calls := ccE Tryz.prog 72 Tryz.f72 f72b f72n 16 [.cell 4 true 2] Tryz.func72 mixed
attribute [go_sem] f72r1_0 f72r1_1 f72r1_2 f72r1_3 f72r1_4 f72r1_5 f72r1_6 f72r1_7 f72r1_8 f72r1_9 f72r1_10 f72r1_11 f72n1_eq f72r0_0 f72r0_1 f72r0_2 f72n_eq
noncomputable def f73b : Code := Tryz.f73.body.getD .skip
def f73d := ndB Tryz.prog f73b
def f73s := rsB Tryz.prog f73b
def f73n : WP := wpA Tryz.prog f73b
def f73n1 := f73d 3
def f73r1 := f73s 6
def f73r1_0 := mvE f73r1 0 1 0 5
def f73r1_1 := mvE f73r1 1 2 1 6
def f73r1_2 := clE f73r1 2 3 Tryz.prog 7 96 [.tmp 5, .tmp 6]
def f73r1_3 := bnE f73r1 3 4 Tryz.prog 7 8 .geq 3 0
def f73r1_4 := mvL f73r1 4 8 4
def f73n1_eq := nrR f73n1 f73r1
def f73r0 := f73s 2
def f73r0_0 := cbL f73r0 0 4 false
def f73n_eq := nrE f73n f73r0 f73n1
def f73_calls := caE Tryz.prog 73 Tryz.f73 f73b f73n 9 [.tmp 4] Tryz.func73 mixed
attribute [go_sem] f73r1_0 f73r1_1 f73r1_2 f73r1_3 f73r1_4 f73n1_eq f73r0_0 f73n_eq
noncomputable def f74b : Code := Tryz.f74.body.getD .skip
def f74d := ndB Tryz.prog f74b
def f74s := rsB Tryz.prog f74b
def f74n : WP := wpA Tryz.prog f74b
def f74n1 := f74d 3
def f74n2 := f74d 6
def f74n3 := f74d 12
def f74n4 := f74d 25
def f74n5 := f74d 50
def f74r2 := f74s 100
def f74r2_0 := ciL f74r2 0 6 1
def f74n5_eq := nrR f74n5 f74r2
def f74n6 := f74d 51
def f74n7 := f74d 103
def f74n8 := f74d 206
def f74r4 := f74s 412
def f74r4_0 := ciL f74r4 0 6 7
def f74n8_eq := nrR f74n8 f74r4
def f74n9 := f74d 207
def f74n10 := f74d 415
def f74n11 := f74d 830
def f74r6 := f74s 1660
def f74r6_0 := ciL f74r6 0 6 1
def f74n11_eq := nrR f74n11 f74r6
def f74n10_eq := ncN f74n10 33 f74n11
def f74r5 := f74s 414
def f74r5_0 := faE f74r5 0 1 3 3 34
def f74r5_1 := lsE f74r5 1 2 1 34 35
def f74r5_2 := clE f74r5 2 3 Tryz.prog 36 83 [.tmp 35, .const (.int .i64 0), .const (.int .i64 3155759999)]
def f74r5_3 := noE f74r5 3 4 36 37
def f74r5_4 := mvE f74r5 4 5 37 38
def f74r5_5 := gfa f74r5 5 6 38 false 4 3 39
def f74r5_6 := gfa f74r5 6 7 38 false 0 39 40
def f74r5_7 := gls f74r5 7 8 38 false 1 40 41
def f74r5_8 := gbn f74r5 8 9 38 false Tryz.prog 41 42 .lss 3 0
def f74r5_9 := ptE f74r5 9 10 38 43 42
def f74r5_10 := mvE f74r5 10 11 43 44
def f74r5_11 := gfa f74r5 11 12 44 false 4 3 45
def f74r5_12 := gfa f74r5 12 13 44 false 0 45 46
def f74r5_13 := gls f74r5 13 14 44 false 1 46 47
def f74r5_14 := gfa f74r5 14 15 44 false 4 3 48
def f74r5_15 := gfa f74r5 15 16 44 false 1 48 49
def f74r5_16 := gls f74r5 16 17 44 false 1 49 50
def f74r5_17 := gbi f74r5 17 18 44 false Tryz.prog 47 50 51 .gtr 3
def f74r5_18 := ptE f74r5 18 19 44 52 51
def f74r5_19 := mvE f74r5 19 20 52 53
def f74r5_20 := gfa f74r5 20 21 53 false 4 3 54
def f74r5_21 := gfa f74r5 21 22 53 false 1 54 55
def f74r5_22 := gls f74r5 22 23 53 false 1 55 56
def f74r5_23 := gbn f74r5 23 24 53 false Tryz.prog 56 57 .gtr 3 1073741824
def f74r5_24 := ptE f74r5 24 25 53 58 57
def f74r5_25 := mvL f74r5 25 58 33
def f74n9_eq := nrE f74n9 f74r5 f74n10
def f74n7_eq := ncC f74n7 12 f74n8 f74n9
def f74r3 := f74s 102
def f74r3_0 := faE f74r3 0 1 1 3 13
def f74r3_1 := lsE f74r3 1 2 1 13 14
def f74r3_2 := bnE f74r3 2 3 Tryz.prog 14 15 .lss 3 0
def f74r3_3 := mvE f74r3 3 4 15 16
def f74r3_4 := gfa f74r3 4 5 16 false 1 3 17
def f74r3_5 := gls f74r3 5 6 16 false 1 17 18
def f74r3_6 := gmv f74r3 6 7 16 false 1 19
def f74r3_7 := gbi f74r3 7 8 16 false Tryz.prog 18 19 20 .geq 3
def f74r3_8 := ptE f74r3 8 9 16 21 20
def f74r3_9 := mvE f74r3 9 10 21 22
def f74r3_10 := gfa f74r3 10 11 22 false 2 3 23
def f74r3_11 := gls f74r3 11 12 22 false 1 23 24
def f74r3_12 := gbn f74r3 12 13 22 false Tryz.prog 24 25 .lss 3 0
def f74r3_13 := ptE f74r3 13 14 22 26 25
def f74r3_14 := mvE f74r3 14 15 26 27
def f74r3_15 := gfa f74r3 15 16 27 false 2 3 28
def f74r3_16 := gls f74r3 16 17 27 false 1 28 29
def f74r3_17 := gmv f74r3 17 18 27 false 2 30
def f74r3_18 := gbi f74r3 18 19 27 false Tryz.prog 29 30 31 .geq 3
def f74r3_19 := ptE f74r3 19 20 27 32 31
def f74r3_20 := mvL f74r3 20 32 12
def f74n6_eq := nrE f74n6 f74r3 f74n7
def f74n4_eq := ncC f74n4 7 f74n5 f74n6
def f74r1 := f74s 24
def f74r1_0 := faE f74r1 0 1 0 3 8
def f74r1_1 := lsE f74r1 1 2 1 8 9
def f74r1_2 := clE f74r1 2 3 Tryz.prog 10 83 [.tmp 9, .const (.int .i64 1), .const (.int .i64 1000000)]
def f74r1_3 := noE f74r1 3 4 10 11
def f74r1_4 := mvL f74r1 4 11 7
def f74n3_eq := nrE f74n3 f74r1 f74n4
def f74n2_eq := nbE f74n2 f74n3 0
def f74n12 := f74d 7
def f74r7 := f74s 14
def f74r7_0 := ciL f74r7 0 6 0
def f74n12_eq := nrR f74n12 f74r7
def f74n1_eq := ntE f74n1 f74n2 f74n12
def f74r0 := f74s 2
def f74r0_0 := bxE f74r0 0 1 3 0
def f74r0_1 := ciL f74r0 1 6 0
def f74n_eq := nrE f74n f74r0 f74n1
def f74_calls := caE Tryz.prog 74 Tryz.f74 f74b f74n 59 [.tmp 6] Tryz.func74 mixed
attribute [go_sem] f74r2_0 f74n5_eq f74r4_0 f74n8_eq f74r6_0 f74n11_eq f74n10_eq f74r5_0 f74r5_1 f74r5_2 f74r5_3 f74r5_4 f74r5_5 f74r5_6 f74r5_7 f74r5_8 f74r5_9 f74r5_10 f74r5_11 f74r5_12 f74r5_13 f74r5_14 f74r5_15 f74r5_16 f74r5_17 f74r5_18 f74r5_19 f74r5_20 f74r5_21 f74r5_22 f74r5_23 f74r5_24 f74r5_25 f74n9_eq f74n7_eq f74r3_0 f74r3_1 f74r3_2 f74r3_3 f74r3_4
attribute [go_sem] f74r3_5 f74r3_6 f74r3_7 f74r3_8 f74r3_9 f74r3_10 f74r3_11 f74r3_12 f74r3_13 f74r3_14 f74r3_15 f74r3_16 f74r3_17 f74r3_18 f74r3_19 f74r3_20 f74n6_eq f74n4_eq f74r1_0 f74r1_1 f74r1_2 f74r1_3 f74r1_4 f74n3_eq f74n2_eq f74r7_0 f74n12_eq f74n1_eq f74r0_0 f74r0_1 f74n_eq
noncomputable def f75b : Code := Tryz.f75.body.getD .skip
def f75d := ndB Tryz.prog f75b
def f75s := rsB Tryz.prog f75b
def f75n : WP := wpA Tryz.prog f75b
def f75n1 := f75d 3
def f75r1 := f75s 6
def f75r1_0 := mvE f75r1 0 1 0 7
def f75r1_1 := mvE f75r1 1 2 1 8
def f75r1_2 := biE f75r1 2 3 Tryz.prog 7 8 9 .leq 3
def f75r1_3 := mvE f75r1 3 4 9 10
def f75r1_4 := gmv f75r1 4 5 10 true 1 11
def f75r1_5 := gmv f75r1 5 6 10 true 2 12
def f75r1_6 := gbi f75r1 6 7 10 true Tryz.prog 11 12 13 .leq 3
def f75r1_7 := pfE f75r1 7 8 10 14 13
def f75r1_8 := mvL f75r1 8 14 6
def f75n1_eq := nrR f75n1 f75r1
def f75r0 := f75s 2
def f75r0_0 := cbL f75r0 0 6 false
def f75n_eq := nrE f75n f75r0 f75n1
def f75_calls := caE Tryz.prog 75 Tryz.f75 f75b f75n 15 [.tmp 6] Tryz.func75 mixed
attribute [go_sem] f75r1_0 f75r1_1 f75r1_2 f75r1_3 f75r1_4 f75r1_5 f75r1_6 f75r1_7 f75r1_8 f75n1_eq f75r0_0 f75n_eq
noncomputable def f76b : Code := Tryz.f76.body.getD .skip
def f76d := ndB Tryz.prog f76b
def f76s := rsB Tryz.prog f76b
def f76n : WP := wpA Tryz.prog f76b
def f76n1 := f76d 3
def f76r1 := f76s 6
def f76r1_0 := faE f76r1 0 1 1 1 3
def f76r1_1 := lsE f76r1 1 2 1 3 4
def f76r1_2 := clE f76r1 2 3 Tryz.prog 5 75 [.const (.int .i64 0), .tmp 4, .const (.int .i64 100000)]
def f76r1_3 := mvE f76r1 3 4 5 6
def f76r1_4 := gfa f76r1 4 5 6 true 2 1 7
def f76r1_5 := gls f76r1 5 6 6 true 1 7 8
def f76r1_6 := gcl f76r1 6 7 6 true Tryz.prog 9 75 [.const (.int .i64 0), .tmp 8, .const (.int .i64 100000)]
def f76r1_7 := pfE f76r1 7 8 6 10 9
def f76r1_8 := mvE f76r1 8 9 10 11
def f76r1_9 := gfa f76r1 9 10 11 true 3 1 12
def f76r1_10 := gls f76r1 10 11 11 true 1 12 13
def f76r1_11 := gcl f76r1 11 12 11 true Tryz.prog 14 75 [.const (.int .i64 0), .tmp 13, .const (.int .i64 100000)]
def f76r1_12 := pfE f76r1 12 13 11 15 14
def f76r1_13 := mvE f76r1 13 14 15 16
def f76r1_14 := gfa f76r1 14 15 16 true 4 1 17
def f76r1_15 := gls f76r1 15 16 16 true 1 17 18
def f76r1_16 := gcl f76r1 16 17 16 true Tryz.prog 19 75 [.const (.int .i64 0), .tmp 18, .const (.int .i64 1000)]
def f76r1_17 := pfE f76r1 17 18 16 20 19
def f76r1_18 := mvL f76r1 18 20 2
def f76n1_eq := nrR f76n1 f76r1
def f76r0 := f76s 2
def f76r0_0 := bxE f76r0 0 1 1 0
def f76r0_1 := cbL f76r0 1 2 false
def f76n_eq := nrE f76n f76r0 f76n1
def f76_calls := caE Tryz.prog 76 Tryz.f76 f76b f76n 21 [.tmp 2] Tryz.func76 mixed
attribute [go_sem] f76r1_0 f76r1_1 f76r1_2 f76r1_3 f76r1_4 f76r1_5 f76r1_6 f76r1_7 f76r1_8 f76r1_9 f76r1_10 f76r1_11 f76r1_12 f76r1_13 f76r1_14 f76r1_15 f76r1_16 f76r1_17 f76r1_18 f76n1_eq f76r0_0 f76r0_1 f76n_eq
noncomputable def f77b : Code := Tryz.f77.body.getD .skip
def f77d := ndB Tryz.prog f77b
def f77s := rsB Tryz.prog f77b
def f77n : WP := wpA Tryz.prog f77b
def f77n1 := f77d 3
def f77r1 := f77s 6
def f77r1_0 := lsE f77r1 0 1 1 3 8
def f77r1_1 := mvE f77r1 1 2 0 9
def f77r1_2 := mvE f77r1 2 3 1 10
def f77r1_3 := mvE f77r1 3 4 2 11
def f77r1_4 := mvE f77r1 4 5 1 12
def f77r1_5 := mvE f77r1 5 6 2 13
def f77r1_6 := biE f77r1 6 7 Tryz.prog 12 13 14 .mul 3
def f77r1_7 := bdE f77r1 7 8 15 [(0, .tmp 8), (1, .tmp 9), (2, .tmp 10), (3, .tmp 11), (4, .tmp 14)] [(0, 1), (1, 1), (2, 1), (3, 1), (4, 1)] [.int .i64 0, .int .i64 0, .int .i64 0, .int .i64 0, .int .i64 0]
def f77r1_8 := stL f77r1 8 5 7 15
def f77n1_eq := nrR f77n1 f77r1
def f77r0 := f77s 2
def f77r0_0 := alL f77r0 0 7 [.int .i64 0, .int .i64 0, .int .i64 0, .int .i64 0, .int .i64 0]
def f77n_eq := nrE f77n f77r0 f77n1
def f77_calls := ccE Tryz.prog 77 Tryz.f77 f77b f77n 16 [.cell 7 true 5] Tryz.func77 mixed
attribute [go_sem] f77r1_0 f77r1_1 f77r1_2 f77r1_3 f77r1_4 f77r1_5 f77r1_6 f77r1_7 f77r1_8 f77n1_eq f77r0_0 f77n_eq
noncomputable def f78b : Code := Tryz.f78.body.getD .skip
def f78d := ndB Tryz.prog f78b
def f78s := rsB Tryz.prog f78b
def f78n : WP := wpA Tryz.prog f78b
def f78n1 := f78d 3
def f78n2 := f78d 6
def f78n3 := f78d 13
def f78n4 := f78d 26
def f78r2 := f78s 52
def f78r2_0 := ciE f78r2 0 1 4 0
def f78r2_1 := ciL f78r2 1 5 1
def f78n4_eq := nrR f78n4 f78r2
def f78n3_eq := ncN f78n3 13 f78n4
def f78r1 := f78s 12
def f78r1_0 := lgE f78r1 0 1 5 2 6
def f78r1_1 := clE f78r1 1 2 Tryz.prog 7 76 [.tmp 6]
def f78r1_2 := noE f78r1 2 3 7 8
def f78r1_3 := mvE f78r1 3 4 8 9
def f78r1_4 := glg f78r1 4 5 9 false 2 3 10
def f78r1_5 := gcl f78r1 5 6 9 false Tryz.prog 11 97 [.tmp 10]
def f78r1_6 := gno f78r1 6 7 9 false 11 12
def f78r1_7 := ptL f78r1 7 9 13 12
def f78n2_eq := nrE f78n2 f78r1 f78n3
def f78n5 := f78d 7
def f78r3 := f78s 14
def f78r3_0 := faE f78r3 0 1 0 3 14
def f78r3_1 := lsE f78r3 1 2 1 14 15
def f78r3_2 := bnE f78r3 2 3 Tryz.prog 15 16 .quo 3 1000
def f78r3_3 := faE f78r3 3 4 4 2 17
def f78r3_4 := lsE f78r3 4 5 1 17 18
def f78r3_5 := biE f78r3 5 6 Tryz.prog 16 18 19 .sub 3
theorem f78r3_6 : Run (f78r3 6 K ⟨e, m⟩) = Run (withV (some (.int .i64 0)) fun v1 => withV (lk e 19) fun v2 => mnK true v1 v2 (fun x => f78r3 7 K ⟨(20, x) :: e, m⟩)) := rk
def f78r3_7 := mvE f78r3 7 8 20 4
def f78r3_8 := ciL f78r3 8 5 0
def f78n5_eq := nrR f78n5 f78r3
def f78n1_eq := ntE f78n1 f78n2 f78n5
def f78r0 := f78s 2
def f78r0_0 := bxE f78r0 0 1 2 0
def f78r0_1 := bxE f78r0 1 2 3 1
def f78r0_2 := ciE f78r0 2 3 4 0
def f78r0_3 := ciL f78r0 3 5 0
def f78n_eq := nrE f78n f78r0 f78n1
def f78_calls := caE Tryz.prog 78 Tryz.f78 f78b f78n 21 [.tmp 4, .tmp 5] Tryz.func78 mixed
attribute [go_sem] f78r2_0 f78r2_1 f78n4_eq f78n3_eq f78r1_0 f78r1_1 f78r1_2 f78r1_3 f78r1_4 f78r1_5 f78r1_6 f78r1_7 f78n2_eq f78r3_0 f78r3_1 f78r3_2 f78r3_3 f78r3_4 f78r3_5 f78r3_6 f78r3_7 f78r3_8 f78n5_eq f78n1_eq f78r0_0 f78r0_1 f78r0_2 f78r0_3 f78n_eq
noncomputable def f83b : Code := Tryz.f83.body.getD .skip
def f83d := ndB Tryz.prog f83b
def f83s := rsB Tryz.prog f83b
def f83n : WP := wpA Tryz.prog f83b
def f83n1 := f83d 3
def f83r1 := f83s 6
def f83r1_0 := mvE f83r1 0 1 0 7
def f83r1_1 := mvE f83r1 1 2 1 8
def f83r1_2 := biE f83r1 2 3 Tryz.prog 7 8 9 .geq 3
def f83r1_3 := mvE f83r1 3 4 9 10
def f83r1_4 := gmv f83r1 4 5 10 true 0 11
def f83r1_5 := gmv f83r1 5 6 10 true 2 12
def f83r1_6 := gbi f83r1 6 7 10 true Tryz.prog 11 12 13 .leq 3
def f83r1_7 := pfE f83r1 7 8 10 14 13
def f83r1_8 := mvL f83r1 8 14 6
def f83n1_eq := nrR f83n1 f83r1
def f83r0 := f83s 2
def f83r0_0 := cbL f83r0 0 6 false
def f83n_eq := nrE f83n f83r0 f83n1
def f83_calls := caE Tryz.prog 83 Tryz.f83 f83b f83n 15 [.tmp 6] Tryz.func83 mixed
attribute [go_sem] f83r1_0 f83r1_1 f83r1_2 f83r1_3 f83r1_4 f83r1_5 f83r1_6 f83r1_7 f83r1_8 f83n1_eq f83r0_0 f83n_eq
noncomputable def f84b : Code := Tryz.f84.body.getD .skip
def f84d := ndB Tryz.prog f84b
def f84s := rsB Tryz.prog f84b
def f84n : WP := wpA Tryz.prog f84b
def f84n1 := f84d 3
def f84n2 := f84d 7
def f84n3 := f84d 14
def f84n4 := f84d 29
def f84L5 := f84d 58
def f84n6 := f84d 116
def f84n7 := f84d 233
def f84n8 := f84d 466
def f84n8_eq := ncX f84n8 11 0
def f84n9 := f84d 467
def f84n10 := f84d 934
def f84n11 := f84d 1868
def f84n12 := f84d 3737
def f84r5 := f84s 3737
def f84r5_0 := mvE f84r5 0 1 3 13
def f84r5_1 := mvE f84r5 1 2 4 14
def f84r5_2 := mvE f84r5 2 3 4 15
def f84r5_3 := iaE f84r5 3 4 1 13 14 16
def f84r5_4 := stL f84r5 4 1 16 15
def f84n12_eq := nrN f84n12 f84r5
def f84r4 := f84s 3736
def f84r4_0 := mvE f84r4 0 1 10 12
def f84r4_1 := mvL f84r4 1 12 4
def f84n11_eq := nrE f84n11 f84r4 f84n12
def f84n10_eq := nbE f84n10 f84n11 1
def f84n13 := f84d 935
def f84r6 := f84s 935
def f84r6_0 := bnE f84r6 0 1 Tryz.prog 10 17 .add 3 1
def f84r6_1 := mvL f84r6 1 17 10
def f84n13_eq := nrN f84n13 f84r6
def f84n9_eq := ntE f84n9 f84n10 f84n13
def f84n7_eq := ntE f84n7 f84n8 f84n9
def f84r3 := f84s 232
def f84r3_0 := biL f84r3 0 Tryz.prog 10 9 11 .lss 3
def f84n6_eq := nrE f84n6 f84r3 f84n7
def f84L5_is := loE f84L5 f84n6 Tryz.prog f84b 116
def f84n4_eq := nbE f84n4 f84L5 0
def f84r2 := f84s 28
def f84r2_0 := mvE f84r2 0 1 3 8
def f84r2_1 := lnE f84r2 1 2 8 9
def f84r2_2 := ciL f84r2 2 10 0
def f84n3_eq := nrE f84n3 f84r2 f84n4
def f84n14 := f84d 15
def f84n15 := f84d 31
def f84r8 := f84s 62
def f84r8_0 := mvE f84r8 0 1 3 21
def f84r8_1 := mvL f84r8 1 21 2
def f84n15_eq := nrR f84n15 f84r8
def f84r7 := f84s 30
def f84r7_0 := mvE f84r7 0 1 3 18
def f84r7_1 := fnE f84r7 1 2 19 102 [.tmp 1]
def f84r7_2 := clL f84r7 2 Tryz.prog 20 101 [.tmp 18, .tmp 19]
def f84n14_eq := nrE f84n14 f84r7 f84n15
def f84n2_eq := ntE f84n2 f84n3 f84n14
def f84r1 := f84s 6
def f84r1_0 := lsE f84r1 0 1 1 1 5
def f84r1_1 := lnE f84r1 1 2 5 6
theorem f84r1_2 : Run (f84r1 2 K ⟨e, m⟩) = Run (mkK 3 1 8 (.int .i64 0) 7 (lk e 6) (lk e 6) (f84r1 3 K) e m) := rk
def f84r1_3 := mvL f84r1 3 7 3
def f84n1_eq := nrE f84n1 f84r1 f84n2
def f84r0 := f84s 2
def f84r0_0 := bxE f84r0 0 1 1 0
def f84r0_1 := nlL f84r0 1 2 3 1
def f84n_eq := nrE f84n f84r0 f84n1
def f84_calls := caE Tryz.prog 84 Tryz.f84 f84b f84n 22 [.tmp 2] Tryz.func84 mixed
attribute [go_sem] f84n8_eq f84r5_0 f84r5_1 f84r5_2 f84r5_3 f84r5_4 f84n12_eq f84r4_0 f84r4_1 f84n11_eq f84n10_eq f84r6_0 f84r6_1 f84n13_eq f84n9_eq f84n7_eq f84r3_0 f84n6_eq f84n4_eq f84r2_0 f84r2_1 f84r2_2 f84n3_eq f84r8_0 f84r8_1 f84n15_eq f84r7_0 f84r7_1 f84r7_2 f84n14_eq f84n2_eq f84r1_0 f84r1_1 f84r1_2 f84r1_3 f84n1_eq f84r0_0 f84r0_1 f84n_eq
noncomputable def f85b : Code := Tryz.f85.body.getD .skip
def f85d := ndB Tryz.prog f85b
def f85s := rsB Tryz.prog f85b
def f85n : WP := wpA Tryz.prog f85b
def f85n1 := f85d 3
def f85n2 := f85d 6
def f85n3 := f85d 13
def f85L4 := f85d 26
def f85n5 := f85d 52
def f85n6 := f85d 105
def f85n7 := f85d 210
def f85n7_eq := ncX f85n7 9 0
def f85n8 := f85d 211
def f85n9 := f85d 422
def f85n10 := f85d 844
def f85n11 := f85d 1689
def f85n12 := f85d 3379
def f85n13 := f85d 6758
def f85r5 := f85s 13516
def f85r5_0 := mvE f85r5 0 1 5 17
def f85r5_1 := mvL f85r5 1 17 4
def f85n13_eq := nrR f85n13 f85r5
def f85n12_eq := ncN f85n12 16 f85n13
def f85r4 := f85s 3378
def f85r4_0 := mvE f85r4 0 1 1 11
def f85r4_1 := mvE f85r4 1 2 0 12
def f85r4_2 := mvE f85r4 2 3 5 13
def f85r4_3 := iaE f85r4 3 4 1 12 13 14
def f85r4_4 := lsE f85r4 4 5 1 14 15
theorem f85r4_5 : Run (f85r4 5 K ⟨e, m⟩) = Run (withV (lk e 11) fun v1 => withVs (St.evs ⟨e, m⟩ [.tmp 15]) fun vs => callA Tryz.prog (some 16) v1 vs K ⟨e, m⟩) := rk
def f85n11_eq := nrE f85n11 f85r4 f85n12
def f85r3 := f85s 1688
def f85r3_0 := mvE f85r3 0 1 8 10
def f85r3_1 := mvL f85r3 1 10 5
def f85n10_eq := nrE f85n10 f85r3 f85n11
def f85n9_eq := nbE f85n9 f85n10 1
def f85n14 := f85d 423
def f85r6 := f85s 423
def f85r6_0 := bnE f85r6 0 1 Tryz.prog 8 18 .add 3 1
def f85r6_1 := mvL f85r6 1 18 8
def f85n14_eq := nrN f85n14 f85r6
def f85n8_eq := ntE f85n8 f85n9 f85n14
def f85n6_eq := ntE f85n6 f85n7 f85n8
def f85r2 := f85s 104
def f85r2_0 := biL f85r2 0 Tryz.prog 8 7 9 .lss 3
def f85n5_eq := nrE f85n5 f85r2 f85n6
def f85L4_is := loE f85L4 f85n5 Tryz.prog f85b 52
def f85n3_eq := nbE f85n3 f85L4 0
def f85r1 := f85s 12
def f85r1_0 := mvE f85r1 0 1 0 6
def f85r1_1 := lnE f85r1 1 2 6 7
def f85r1_2 := ciL f85r1 2 8 0
def f85n2_eq := nrE f85n2 f85r1 f85n3
def f85n15 := f85d 7
def f85r7 := f85s 14
def f85r7_0 := ciL f85r7 0 4 (-1)
def f85n15_eq := nrR f85n15 f85r7
def f85n1_eq := ntE f85n1 f85n2 f85n15
def f85r0 := f85s 2
def f85r0_0 := ciL f85r0 0 4 0
def f85n_eq := nrE f85n f85r0 f85n1
def f85_calls := caE Tryz.prog 85 Tryz.f85 f85b f85n 19 [.tmp 4] Tryz.func85 mixed
attribute [go_sem] f85n7_eq f85r5_0 f85r5_1 f85n13_eq f85n12_eq f85r4_0 f85r4_1 f85r4_2 f85r4_3 f85r4_4 f85r4_5 f85n11_eq f85r3_0 f85r3_1 f85n10_eq f85n9_eq f85r6_0 f85r6_1 f85n14_eq f85n8_eq f85n6_eq f85r2_0 f85n5_eq f85n3_eq f85r1_0 f85r1_1 f85r1_2 f85n2_eq f85r7_0 f85n15_eq f85n1_eq f85r0_0 f85n_eq
noncomputable def f86b : Code := Tryz.f86.body.getD .skip
def f86d := ndB Tryz.prog f86b
def f86s := rsB Tryz.prog f86b
def f86n : WP := wpA Tryz.prog f86b
def f86n1 := f86d 3
def f86n2 := f86d 7
def f86n3 := f86d 14
def f86n4 := f86d 29
def f86L5 := f86d 58
def f86n6 := f86d 116
def f86n7 := f86d 233
def f86n8 := f86d 466
def f86n8_eq := ncX f86n8 11 0
def f86n9 := f86d 467
def f86n10 := f86d 934
def f86n11 := f86d 1868
def f86n12 := f86d 3737
def f86n13 := f86d 7475
def f86n14 := f86d 14950
def f86r6 := f86s 14950
def f86r6_0 := mvE f86r6 0 1 5 17
def f86r6_1 := lgE f86r6 1 2 4 7 18
def f86r6_2 := bsE f86r6 2 3 19 87 4 1 (.agg [.int .i64 0, .int .i64 0, .int .i64 0, .int .i64 0]) [(0, .tmp 18)]
def f86r6_3 := apE f86r6 3 4 Tryz.prog 20 17 19 24
def f86r6_4 := mvL f86r6 4 20 5
def f86n14_eq := nrN f86n14 f86r6
def f86n13_eq := ncN f86n13 16 f86n14
def f86r5 := f86s 7474
def f86r5_0 := mvE f86r5 0 1 1 14
def f86r5_1 := lgE f86r5 1 2 4 7 15
theorem f86r5_2 : Run (f86r5 2 K ⟨e, m⟩) = Run (withV (lk e 14) fun v1 => withVs (St.evs ⟨e, m⟩ [.tmp 15]) fun vs => callA Tryz.prog (some 16) v1 vs K ⟨e, m⟩) := rk
def f86n12_eq := nrE f86n12 f86r5 f86n13
def f86r4 := f86s 3736
def f86r4_0 := iaE f86r4 0 1 4 8 10 12
def f86r4_1 := lgE f86r4 1 2 4 12 13
def f86r4_2 := alE f86r4 2 3 7 [.int .i64 0, .int .i64 0, .int .i64 0, .int .i64 0]
def f86r4_3 := stL f86r4 3 4 7 13
def f86n11_eq := nrE f86n11 f86r4 f86n12
def f86n10_eq := nbE f86n10 f86n11 1
def f86n15 := f86d 935
def f86r7 := f86s 935
def f86r7_0 := bnE f86r7 0 1 Tryz.prog 10 21 .add 3 1
def f86r7_1 := mvL f86r7 1 21 10
def f86n15_eq := nrN f86n15 f86r7
def f86n9_eq := ntE f86n9 f86n10 f86n15
def f86n7_eq := ntE f86n7 f86n8 f86n9
def f86r3 := f86s 232
def f86r3_0 := biL f86r3 0 Tryz.prog 10 9 11 .lss 3
def f86n6_eq := nrE f86n6 f86r3 f86n7
def f86L5_is := loE f86L5 f86n6 Tryz.prog f86b 116
def f86n4_eq := nbE f86n4 f86L5 0
def f86r2 := f86s 28
def f86r2_0 := mvE f86r2 0 1 0 8
def f86r2_1 := lnE f86r2 1 2 8 9
def f86r2_2 := ciL f86r2 2 10 0
def f86n3_eq := nrE f86n3 f86r2 f86n4
def f86n16 := f86d 15
def f86r8 := f86s 30
def f86r8_0 := mvE f86r8 0 1 5 22
def f86r8_1 := mvL f86r8 1 22 4
def f86n16_eq := nrR f86n16 f86r8
def f86n2_eq := ntE f86n2 f86n3 f86n16
def f86r1 := f86s 6
def f86r1_0 := nlL f86r1 0 5 87 4
def f86n1_eq := nrE f86n1 f86r1 f86n2
def f86r0 := f86s 2
def f86r0_0 := nlL f86r0 0 4 87 4
def f86n_eq := nrE f86n f86r0 f86n1
def f86_calls := caE Tryz.prog 86 Tryz.f86 f86b f86n 23 [.tmp 4] Tryz.func86 mixed
attribute [go_sem] f86n8_eq f86r6_0 f86r6_1 f86r6_2 f86r6_3 f86r6_4 f86n14_eq f86n13_eq f86r5_0 f86r5_1 f86r5_2 f86n12_eq f86r4_0 f86r4_1 f86r4_2 f86r4_3 f86n11_eq f86n10_eq f86r7_0 f86r7_1 f86n15_eq f86n9_eq f86n7_eq f86r3_0 f86n6_eq f86n4_eq f86r2_0 f86r2_1 f86r2_2 f86n3_eq f86r8_0 f86r8_1 f86n16_eq f86n2_eq f86r1_0 f86n1_eq f86r0_0 f86n_eq
noncomputable def f87b : Code := Tryz.f87.body.getD .skip
def f87d := ndB Tryz.prog f87b
def f87s := rsB Tryz.prog f87b
def f87n : WP := wpA Tryz.prog f87b
def f87n1 := f87d 3
def f87r1 := f87s 6
def f87r1_0 := faE f87r1 0 1 0 3 5
def f87r1_1 := lsE f87r1 1 2 1 5 6
def f87r1_2 := lsE f87r1 2 3 1 1 7
def f87r1_3 := biE f87r1 3 4 Tryz.prog 6 7 8 .eql 3
def f87r1_4 := mvE f87r1 4 5 8 9
def f87r1_5 := gfa f87r1 5 6 9 true 2 3 10
def f87r1_6 := gfa f87r1 6 7 9 true 0 10 11
def f87r1_7 := gls f87r1 7 8 9 true 1 11 12
def f87r1_8 := gls f87r1 8 9 9 true 1 2 13
def f87r1_9 := gbi f87r1 9 10 9 true Tryz.prog 12 13 14 .leq 3
def f87r1_10 := pfE f87r1 10 11 9 15 14
def f87r1_11 := mvE f87r1 11 12 15 16
def f87r1_12 := gls f87r1 12 13 16 true 1 2 17
def f87r1_13 := gfa f87r1 13 14 16 true 2 3 18
def f87r1_14 := gfa f87r1 14 15 16 true 1 18 19
def f87r1_15 := gls f87r1 15 16 16 true 1 19 20
def f87r1_16 := gbi f87r1 16 17 16 true Tryz.prog 17 20 21 .lss 3
def f87r1_17 := pfE f87r1 17 18 16 22 21
def f87r1_18 := mvL f87r1 18 22 4
def f87n1_eq := nrR f87n1 f87r1
def f87r0 := f87s 2
def f87r0_0 := bxE f87r0 0 1 3 0
def f87r0_1 := cbL f87r0 1 4 false
def f87n_eq := nrE f87n f87r0 f87n1
def f87_calls := caE Tryz.prog 87 Tryz.f87 f87b f87n 23 [.tmp 4] Tryz.func87 mixed
attribute [go_sem] f87r1_0 f87r1_1 f87r1_2 f87r1_3 f87r1_4 f87r1_5 f87r1_6 f87r1_7 f87r1_8 f87r1_9 f87r1_10 f87r1_11 f87r1_12 f87r1_13 f87r1_14 f87r1_15 f87r1_16 f87r1_17 f87r1_18 f87n1_eq f87r0_0 f87r0_1 f87n_eq
noncomputable def f88b : Code := Tryz.f88.body.getD .skip
def f88d := ndB Tryz.prog f88b
def f88s := rsB Tryz.prog f88b
def f88n : WP := wpA Tryz.prog f88b
def f88n1 := f88d 3
def f88n2 := f88d 6
def f88n3 := f88d 13
def f88L4 := f88d 26
def f88n5 := f88d 52
def f88n6 := f88d 105
def f88n7 := f88d 210
def f88n7_eq := ncX f88n7 9 0
def f88n8 := f88d 211
def f88n9 := f88d 422
def f88n10 := f88d 844
def f88n11 := f88d 1689
def f88n12 := f88d 3379
def f88n13 := f88d 6758
def f88r5 := f88s 13516
def f88r5_0 := mvE f88r5 0 1 5 17
def f88r5_1 := mvL f88r5 1 17 4
def f88n13_eq := nrR f88n13 f88r5
def f88n12_eq := ncN f88n12 16 f88n13
def f88r4 := f88s 3378
def f88r4_0 := mvE f88r4 0 1 1 11
def f88r4_1 := mvE f88r4 1 2 0 12
def f88r4_2 := mvE f88r4 2 3 5 13
def f88r4_3 := iaE f88r4 3 4 5 12 13 14
def f88r4_4 := lgE f88r4 4 5 5 14 15
theorem f88r4_5 : Run (f88r4 5 K ⟨e, m⟩) = Run (withV (lk e 11) fun v1 => withVs (St.evs ⟨e, m⟩ [.tmp 15]) fun vs => callA Tryz.prog (some 16) v1 vs K ⟨e, m⟩) := rk
def f88n11_eq := nrE f88n11 f88r4 f88n12
def f88r3 := f88s 1688
def f88r3_0 := mvE f88r3 0 1 8 10
def f88r3_1 := mvL f88r3 1 10 5
def f88n10_eq := nrE f88n10 f88r3 f88n11
def f88n9_eq := nbE f88n9 f88n10 1
def f88n14 := f88d 423
def f88r6 := f88s 423
def f88r6_0 := bnE f88r6 0 1 Tryz.prog 8 18 .add 3 1
def f88r6_1 := mvL f88r6 1 18 8
def f88n14_eq := nrN f88n14 f88r6
def f88n8_eq := ntE f88n8 f88n9 f88n14
def f88n6_eq := ntE f88n6 f88n7 f88n8
def f88r2 := f88s 104
def f88r2_0 := biL f88r2 0 Tryz.prog 8 7 9 .lss 3
def f88n5_eq := nrE f88n5 f88r2 f88n6
def f88L4_is := loE f88L4 f88n5 Tryz.prog f88b 52
def f88n3_eq := nbE f88n3 f88L4 0
def f88r1 := f88s 12
def f88r1_0 := mvE f88r1 0 1 0 6
def f88r1_1 := lnE f88r1 1 2 6 7
def f88r1_2 := ciL f88r1 2 8 0
def f88n2_eq := nrE f88n2 f88r1 f88n3
def f88n15 := f88d 7
def f88r7 := f88s 14
def f88r7_0 := ciL f88r7 0 4 (-1)
def f88n15_eq := nrR f88n15 f88r7
def f88n1_eq := ntE f88n1 f88n2 f88n15
def f88r0 := f88s 2
def f88r0_0 := ciL f88r0 0 4 0
def f88n_eq := nrE f88n f88r0 f88n1
def f88_calls := caE Tryz.prog 88 Tryz.f88 f88b f88n 19 [.tmp 4] Tryz.func88 mixed
attribute [go_sem] f88n7_eq f88r5_0 f88r5_1 f88n13_eq f88n12_eq f88r4_0 f88r4_1 f88r4_2 f88r4_3 f88r4_4 f88r4_5 f88n11_eq f88r3_0 f88r3_1 f88n10_eq f88n9_eq f88r6_0 f88r6_1 f88n14_eq f88n8_eq f88n6_eq f88r2_0 f88n5_eq f88n3_eq f88r1_0 f88r1_1 f88r1_2 f88n2_eq f88r7_0 f88n15_eq f88n1_eq f88r0_0 f88n_eq
noncomputable def f89b : Code := Tryz.f89.body.getD .skip
def f89d := ndB Tryz.prog f89b
def f89s := rsB Tryz.prog f89b
def f89n : WP := wpA Tryz.prog f89b
def f89n1 := f89d 3
def f89n2 := f89d 6
def f89n3 := f89d 13
def f89L4 := f89d 26
def f89n5 := f89d 52
def f89n6 := f89d 105
def f89n7 := f89d 210
def f89n7_eq := ncX f89n7 9 0
def f89n8 := f89d 211
def f89n9 := f89d 422
def f89n10 := f89d 844
def f89n11 := f89d 1689
def f89n12 := f89d 3379
def f89n13 := f89d 6758
def f89r5 := f89s 13516
def f89r5_0 := mvE f89r5 0 1 5 17
def f89r5_1 := mvL f89r5 1 17 4
def f89n13_eq := nrR f89n13 f89r5
def f89n12_eq := ncN f89n12 16 f89n13
noncomputable def f89r4a := raB f89b 3378
def f89r4 (i : Nat) : SP := opsQ Tryz.prog f89r4a (f89r4a.toList.drop i)
theorem f89r4wr : cutAt f89r4a = none := by kernel_rfl
theorem f89r4lex : Region.lexB .any f89r4a = true := by kernel_rfl
theorem f89r4my : manyB f89r4a = false := by kernel_rfl
def f89r4_0 := lgE f89r4 0 1 5 3 11
def f89r4_1 := mvE f89r4 1 2 0 12
def f89r4_2 := mvE f89r4 2 3 5 13
def f89r4_3 := iaE f89r4 3 4 5 12 13 14
def f89r4_4 := lgE f89r4 4 5 5 14 15
def f89r4_5 := biL f89r4 5 Tryz.prog 11 15 16 .eql 42
theorem f89n11_eq : Run (f89n11 Q s) = Run (f89r4 0 (f89n12 Q) s) := run_eq (Eq.trans (b := drawA Tryz.prog f89r4a (f89n12 Q) s) (by kernel_rfl) (Eq.trans (draw_q f89r4wr f89r4lex f89r4my) (by kernel_rfl)))
def f89r3 := f89s 1688
def f89r3_0 := mvE f89r3 0 1 8 10
def f89r3_1 := mvL f89r3 1 10 5
def f89n10_eq := nrE f89n10 f89r3 f89n11
def f89n9_eq := nbE f89n9 f89n10 1
def f89n14 := f89d 423
def f89r6 := f89s 423
def f89r6_0 := bnE f89r6 0 1 Tryz.prog 8 18 .add 3 1
def f89r6_1 := mvL f89r6 1 18 8
def f89n14_eq := nrN f89n14 f89r6
def f89n8_eq := ntE f89n8 f89n9 f89n14
def f89n6_eq := ntE f89n6 f89n7 f89n8
def f89r2 := f89s 104
def f89r2_0 := biL f89r2 0 Tryz.prog 8 7 9 .lss 3
def f89n5_eq := nrE f89n5 f89r2 f89n6
def f89L4_is := loE f89L4 f89n5 Tryz.prog f89b 52
def f89n3_eq := nbE f89n3 f89L4 0
def f89r1 := f89s 12
def f89r1_0 := mvE f89r1 0 1 0 6
def f89r1_1 := lnE f89r1 1 2 6 7
def f89r1_2 := ciL f89r1 2 8 0
def f89n2_eq := nrE f89n2 f89r1 f89n3
def f89n15 := f89d 7
def f89r7 := f89s 14
def f89r7_0 := ciL f89r7 0 4 (-1)
def f89n15_eq := nrR f89n15 f89r7
def f89n1_eq := ntE f89n1 f89n2 f89n15
def f89r0 := f89s 2
def f89r0_0 := bxE f89r0 0 1 3 1
def f89r0_1 := ciL f89r0 1 4 0
def f89n_eq := nrE f89n f89r0 f89n1
def f89_calls := caE Tryz.prog 89 Tryz.f89 f89b f89n 19 [.tmp 4] Tryz.func89 mixed
attribute [go_sem] f89n7_eq f89r5_0 f89r5_1 f89n13_eq f89n12_eq f89r4_0 f89r4_1 f89r4_2 f89r4_3 f89r4_4 f89r4_5 f89n11_eq f89r3_0 f89r3_1 f89n10_eq f89n9_eq f89r6_0 f89r6_1 f89n14_eq f89n8_eq f89n6_eq f89r2_0 f89n5_eq f89n3_eq f89r1_0 f89r1_1 f89r1_2 f89n2_eq f89r7_0 f89n15_eq f89n1_eq f89r0_0 f89r0_1 f89n_eq
noncomputable def f90b : Code := Tryz.f90.body.getD .skip
def f90d := ndB Tryz.prog f90b
def f90s := rsB Tryz.prog f90b
def f90n : WP := wpA Tryz.prog f90b
def f90n1 := f90d 3
def f90r1 := f90s 6
def f90r1_0 := faE f90r1 0 1 0 2 4
def f90r1_1 := lsE f90r1 1 2 1 4 5
def f90r1_2 := bnE f90r1 2 3 Tryz.prog 5 6 .eql 3 2
def f90r1_3 := mvE f90r1 3 4 6 7
def f90r1_4 := gfa f90r1 4 5 7 true 1 2 8
def f90r1_5 := gls f90r1 5 6 7 true 1 8 9
def f90r1_6 := gls f90r1 6 7 7 true 1 1 10
def f90r1_7 := gbi f90r1 7 8 7 true Tryz.prog 9 10 11 .eql 3
def f90r1_8 := pfE f90r1 8 9 7 12 11
def f90r1_9 := mvL f90r1 9 12 3
def f90n1_eq := nrR f90n1 f90r1
def f90r0 := f90s 2
def f90r0_0 := bxE f90r0 0 1 2 0
def f90r0_1 := cbL f90r0 1 3 false
def f90n_eq := nrE f90n f90r0 f90n1
def f90_calls := caE Tryz.prog 90 Tryz.f90 f90b f90n 13 [.tmp 3] Tryz.func90 mixed
attribute [go_sem] f90r1_0 f90r1_1 f90r1_2 f90r1_3 f90r1_4 f90r1_5 f90r1_6 f90r1_7 f90r1_8 f90r1_9 f90n1_eq f90r0_0 f90r0_1 f90n_eq
noncomputable def f91b : Code := Tryz.f91.body.getD .skip
def f91d := ndB Tryz.prog f91b
def f91s := rsB Tryz.prog f91b
def f91n : WP := wpA Tryz.prog f91b
def f91n1 := f91d 3
def f91r1 := f91s 6
def f91r1_0 := faE f91r1 0 1 0 2 4
def f91r1_1 := lsE f91r1 1 2 1 4 5
def f91r1_2 := lsE f91r1 2 3 1 1 6
def f91r1_3 := biE f91r1 3 4 Tryz.prog 5 6 7 .eql 3
def f91r1_4 := mvL f91r1 4 7 3
def f91n1_eq := nrR f91n1 f91r1
def f91r0 := f91s 2
def f91r0_0 := bxE f91r0 0 1 2 0
def f91r0_1 := cbL f91r0 1 3 false
def f91n_eq := nrE f91n f91r0 f91n1
def f91_calls := caE Tryz.prog 91 Tryz.f91 f91b f91n 8 [.tmp 3] Tryz.func91 mixed
attribute [go_sem] f91r1_0 f91r1_1 f91r1_2 f91r1_3 f91r1_4 f91n1_eq f91r0_0 f91r0_1 f91n_eq
noncomputable def f92b : Code := Tryz.f92.body.getD .skip
def f92d := ndB Tryz.prog f92b
def f92s := rsB Tryz.prog f92b
def f92n : WP := wpA Tryz.prog f92b
def f92n1 := f92d 3
def f92n2 := f92d 6
def f92n3 := f92d 13
def f92L4 := f92d 26
def f92n5 := f92d 52
def f92n6 := f92d 105
def f92n7 := f92d 210
def f92n7_eq := ncX f92n7 9 0
def f92n8 := f92d 211
def f92n9 := f92d 422
def f92n10 := f92d 844
def f92n11 := f92d 1689
def f92n12 := f92d 3379
def f92n13 := f92d 6758
def f92r5 := f92s 13516
def f92r5_0 := mvE f92r5 0 1 5 17
def f92r5_1 := mvL f92r5 1 17 4
def f92n13_eq := nrR f92n13 f92r5
def f92n12_eq := ncN f92n12 16 f92n13
def f92r4 := f92s 3378
def f92r4_0 := mvE f92r4 0 1 1 11
def f92r4_1 := mvE f92r4 1 2 0 12
def f92r4_2 := mvE f92r4 2 3 5 13
def f92r4_3 := iaE f92r4 3 4 1 12 13 14
def f92r4_4 := lsE f92r4 4 5 1 14 15
def f92r4_5 := biL f92r4 5 Tryz.prog 11 15 16 .eql 3
def f92n11_eq := nrE f92n11 f92r4 f92n12
def f92r3 := f92s 1688
def f92r3_0 := mvE f92r3 0 1 8 10
def f92r3_1 := mvL f92r3 1 10 5
def f92n10_eq := nrE f92n10 f92r3 f92n11
def f92n9_eq := nbE f92n9 f92n10 1
def f92n14 := f92d 423
def f92r6 := f92s 423
def f92r6_0 := bnE f92r6 0 1 Tryz.prog 8 18 .add 3 1
def f92r6_1 := mvL f92r6 1 18 8
def f92n14_eq := nrN f92n14 f92r6
def f92n8_eq := ntE f92n8 f92n9 f92n14
def f92n6_eq := ntE f92n6 f92n7 f92n8
def f92r2 := f92s 104
def f92r2_0 := biL f92r2 0 Tryz.prog 8 7 9 .lss 3
def f92n5_eq := nrE f92n5 f92r2 f92n6
def f92L4_is := loE f92L4 f92n5 Tryz.prog f92b 52
def f92n3_eq := nbE f92n3 f92L4 0
def f92r1 := f92s 12
def f92r1_0 := mvE f92r1 0 1 0 6
def f92r1_1 := lnE f92r1 1 2 6 7
def f92r1_2 := ciL f92r1 2 8 0
def f92n2_eq := nrE f92n2 f92r1 f92n3
def f92n15 := f92d 7
def f92r7 := f92s 14
def f92r7_0 := ciL f92r7 0 4 (-1)
def f92n15_eq := nrR f92n15 f92r7
def f92n1_eq := ntE f92n1 f92n2 f92n15
def f92r0 := f92s 2
def f92r0_0 := ciL f92r0 0 4 0
def f92n_eq := nrE f92n f92r0 f92n1
def f92_calls := caE Tryz.prog 92 Tryz.f92 f92b f92n 19 [.tmp 4] Tryz.func92 mixed
attribute [go_sem] f92n7_eq f92r5_0 f92r5_1 f92n13_eq f92n12_eq f92r4_0 f92r4_1 f92r4_2 f92r4_3 f92r4_4 f92r4_5 f92n11_eq f92r3_0 f92r3_1 f92n10_eq f92n9_eq f92r6_0 f92r6_1 f92n14_eq f92n8_eq f92n6_eq f92r2_0 f92n5_eq f92n3_eq f92r1_0 f92r1_1 f92r1_2 f92n2_eq f92r7_0 f92n15_eq f92n1_eq f92r0_0 f92n_eq
noncomputable def f93b : Code := Tryz.f93.body.getD .skip
def f93d := ndB Tryz.prog f93b
def f93s := rsB Tryz.prog f93b
def f93n : WP := wpA Tryz.prog f93b
def f93n1 := f93d 3
def f93n2 := f93d 6
def f93n3 := f93d 13
def f93n4 := f93d 26
def f93r2 := f93s 52
def f93r2_0 := cbL f93r2 0 2 false
def f93n4_eq := nrR f93n4 f93r2
def f93n3_eq := ncN f93n3 18 f93n4
def f93r1 := f93s 12
def f93r1_0 := mvE f93r1 0 1 0 5
theorem f93r1_1 : Run (f93r1 1 K ⟨e, m⟩) = Run (lnT e m (f93r1 2 K) 5 6 false true) := rk
def f93r1_2 := bnE f93r1 2 3 Tryz.prog 6 7 .lss 3 1
def f93r1_3 := mvE f93r1 3 4 7 8
def f93r1_4 := gmv f93r1 4 5 8 false 0 9
theorem f93r1_5 : Run (f93r1 5 K ⟨e, m⟩) = Run (gN e m (f93r1 6 K) 8 10 false fun e => lnT e m (f93r1 6 K) 9 10 false true) := rk
def f93r1_6 := gbn f93r1 6 7 8 false Tryz.prog 10 11 .gtr 3 32
def f93r1_7 := ptE f93r1 7 8 8 12 11
def f93r1_8 := mvE f93r1 8 9 12 13
def f93r1_9 := gmv f93r1 9 10 13 false 0 14
theorem f93r1_10 : Run (f93r1 10 K ⟨e, m⟩) = Run (gN e m (f93r1 11 K) 13 15 false fun e => withV (lk e 14) fun v1 => withV (some (.int .i64 0)) fun v2 => ixS v1 v2 (fun x => f93r1 11 K ⟨(15, x) :: e, m⟩)) := rk
def f93r1_11 := gcl f93r1 11 12 13 false Tryz.prog 16 105 [.tmp 15]
def f93r1_12 := gno f93r1 12 13 13 false 16 17
def f93r1_13 := ptL f93r1 13 13 18 17
def f93n2_eq := nrE f93n2 f93r1 f93n3
def f93n5 := f93d 7
def f93n6 := f93d 14
def f93n7 := f93d 29
def f93L8 := f93d 58
def f93n9 := f93d 116
def f93n10 := f93d 232
def f93n11 := f93d 465
def f93n11_eq := ncX f93n11 22 0
def f93r4 := f93s 464
def f93r4_0 := mvE f93r4 0 1 3 19
def f93r4_1 := mvE f93r4 1 2 0 20
theorem f93r4_2 : Run (f93r4 2 K ⟨e, m⟩) = Run (lnT e m (f93r4 3 K) 20 21 false true) := rk
def f93r4_3 := biL f93r4 3 Tryz.prog 19 21 22 .lss 3
def f93n10_eq := nrE f93n10 f93r4 f93n11
def f93n12 := f93d 233
def f93n13 := f93d 466
def f93n14 := f93d 932
def f93n15 := f93d 1865
def f93n16 := f93d 3731
def f93n17 := f93d 7462
def f93r8 := f93s 14924
def f93r8_0 := cbL f93r8 0 2 false
def f93n17_eq := nrR f93n17 f93r8
def f93n16_eq := ncN f93n16 50 f93n17
def f93r7 := f93s 3730
def f93r7_0 := mvE f93r7 0 1 4 28
def f93r7_1 := clE f93r7 1 2 Tryz.prog 29 105 [.tmp 28]
def f93r7_2 := noE f93r7 2 3 29 30
def f93r7_3 := mvE f93r7 3 4 30 31
def f93r7_4 := gmv f93r7 4 5 31 true 4 32
def f93r7_5 := gbc f93r7 5 6 31 true Tryz.prog 32 33 .lss 5 (.int .u8 48)
def f93r7_6 := gmv f93r7 6 7 31 true 33 34
def f93r7_7 := gmv f93r7 7 8 34 false 4 35
def f93r7_8 := gbc f93r7 8 9 34 false Tryz.prog 35 36 .gtr 5 (.int .u8 57)
theorem f93r7_9 : Run (f93r7 9 K ⟨e, m⟩) = Run (gN e m (f93r7 10 K) 31 37 true fun e => pkT e m (f93r7 10 K) 34 37 (some (.bool true)) (lk e 36)) := rk
def f93r7_10 := pfE f93r7 10 11 31 38 37
def f93r7_11 := mvE f93r7 11 12 38 39
def f93r7_12 := gmv f93r7 12 13 39 true 4 40
def f93r7_13 := gbc f93r7 13 14 39 true Tryz.prog 40 41 .neq 5 (.int .u8 45)
def f93r7_14 := pfE f93r7 14 15 39 42 41
def f93r7_15 := mvE f93r7 15 16 42 43
def f93r7_16 := gmv f93r7 16 17 43 true 4 44
def f93r7_17 := gbc f93r7 17 18 43 true Tryz.prog 44 45 .neq 5 (.int .u8 95)
def f93r7_18 := pfE f93r7 18 19 43 46 45
def f93r7_19 := mvE f93r7 19 20 46 47
def f93r7_20 := gmv f93r7 20 21 47 true 4 48
def f93r7_21 := gbc f93r7 21 22 47 true Tryz.prog 48 49 .neq 5 (.int .u8 46)
def f93r7_22 := pfL f93r7 22 47 50 49
def f93n15_eq := nrE f93n15 f93r7 f93n16
def f93r6 := f93s 1864
def f93r6_0 := mvE f93r6 0 1 0 25
def f93r6_1 := mvE f93r6 1 2 3 26
theorem f93r6_2 : Run (f93r6 2 K ⟨e, m⟩) = Run (withV (lk e 25) fun v1 => withV (lk e 26) fun v2 => ixS v1 v2 (fun x => f93r6 3 K ⟨(27, x) :: e, m⟩)) := rk
def f93r6_3 := mvL f93r6 3 27 4
def f93n14_eq := nrE f93n14 f93r6 f93n15
def f93n13_eq := nbE f93n13 f93n14 1
def f93n18 := f93d 467
def f93r5 := f93s 467
def f93r5_0 := mvE f93r5 0 1 3 23
def f93r5_1 := bnE f93r5 1 2 Tryz.prog 23 24 .add 3 1
def f93r5_2 := mvL f93r5 2 24 3
def f93n18_eq := nrN f93n18 f93r5
def f93n12_eq := ntE f93n12 f93n13 f93n18
def f93n9_eq := ntE f93n9 f93n10 f93n12
def f93L8_is := loE f93L8 f93n9 Tryz.prog f93b 116
def f93n7_eq := nbE f93n7 f93L8 0
def f93r3 := f93s 28
def f93r3_0 := ciL f93r3 0 3 1
def f93n6_eq := nrE f93n6 f93r3 f93n7
def f93n19 := f93d 15
def f93r9 := f93s 30
def f93r9_0 := cbL f93r9 0 2 true
def f93n19_eq := nrR f93n19 f93r9
def f93n5_eq := ntE f93n5 f93n6 f93n19
def f93n1_eq := ntE f93n1 f93n2 f93n5
def f93r0 := f93s 2
def f93r0_0 := cbL f93r0 0 2 false
def f93n_eq := nrE f93n f93r0 f93n1
def f93_calls := caE Tryz.prog 93 Tryz.f93 f93b f93n 51 [.tmp 2] Tryz.func93 mixed
attribute [go_sem] f93r2_0 f93n4_eq f93n3_eq f93r1_0 f93r1_1 f93r1_2 f93r1_3 f93r1_4 f93r1_5 f93r1_6 f93r1_7 f93r1_8 f93r1_9 f93r1_10 f93r1_11 f93r1_12 f93r1_13 f93n2_eq f93n11_eq f93r4_0 f93r4_1 f93r4_2 f93r4_3 f93n10_eq f93r8_0 f93n17_eq f93n16_eq f93r7_0 f93r7_1 f93r7_2 f93r7_3 f93r7_4 f93r7_5 f93r7_6 f93r7_7 f93r7_8 f93r7_9 f93r7_10 f93r7_11 f93r7_12
attribute [go_sem] f93r7_13 f93r7_14 f93r7_15 f93r7_16 f93r7_17 f93r7_18 f93r7_19 f93r7_20 f93r7_21 f93r7_22 f93n15_eq f93r6_0 f93r6_1 f93r6_2 f93r6_3 f93n14_eq f93n13_eq f93r5_0 f93r5_1 f93r5_2 f93n18_eq f93n12_eq f93n9_eq f93n7_eq f93r3_0 f93n6_eq f93r9_0 f93n19_eq f93n5_eq f93n1_eq f93r0_0 f93n_eq
noncomputable def f94b : Code := Tryz.f94.body.getD .skip
def f94d := ndB Tryz.prog f94b
def f94s := rsB Tryz.prog f94b
def f94n : WP := wpA Tryz.prog f94b
def f94n1 := f94d 3
def f94r1 := f94s 6
def f94r1_0 := mvE f94r1 0 1 0 5
def f94r1_1 := mvE f94r1 1 2 1 6
def f94r1_2 := clE f94r1 2 3 Tryz.prog 7 106 [.tmp 5, .tmp 6]
def f94r1_3 := bnE f94r1 3 4 Tryz.prog 7 8 .geq 3 0
def f94r1_4 := mvL f94r1 4 8 4
def f94n1_eq := nrR f94n1 f94r1
def f94r0 := f94s 2
def f94r0_0 := cbL f94r0 0 4 false
def f94n_eq := nrE f94n f94r0 f94n1
def f94_calls := caE Tryz.prog 94 Tryz.f94 f94b f94n 9 [.tmp 4] Tryz.func94 mixed
attribute [go_sem] f94r1_0 f94r1_1 f94r1_2 f94r1_3 f94r1_4 f94n1_eq f94r0_0 f94n_eq
noncomputable def f95b : Code := Tryz.f95.body.getD .skip
def f95d := ndB Tryz.prog f95b
def f95s := rsB Tryz.prog f95b
def f95n : WP := wpA Tryz.prog f95b
def f95n1 := f95d 3
def f95r1 := f95s 6
def f95r1_0 := faE f95r1 0 1 0 2 4
def f95r1_1 := lsE f95r1 1 2 1 4 5
def f95r1_2 := faE f95r1 2 3 0 1 6
def f95r1_3 := lsE f95r1 3 4 1 6 7
def f95r1_4 := biE f95r1 4 5 Tryz.prog 5 7 8 .eql 9
def f95r1_5 := mvL f95r1 5 8 3
def f95n1_eq := nrR f95n1 f95r1
def f95r0 := f95s 2
def f95r0_0 := bxE f95r0 0 1 2 0
def f95r0_1 := cbL f95r0 1 3 false
def f95n_eq := nrE f95n f95r0 f95n1
def f95_calls := caE Tryz.prog 95 Tryz.f95 f95b f95n 9 [.tmp 3] Tryz.func95 mixed
attribute [go_sem] f95r1_0 f95r1_1 f95r1_2 f95r1_3 f95r1_4 f95r1_5 f95n1_eq f95r0_0 f95r0_1 f95n_eq
noncomputable def f96b : Code := Tryz.f96.body.getD .skip
def f96d := ndB Tryz.prog f96b
def f96s := rsB Tryz.prog f96b
def f96n : WP := wpA Tryz.prog f96b
def f96n1 := f96d 3
def f96n2 := f96d 6
def f96n3 := f96d 13
def f96L4 := f96d 26
def f96n5 := f96d 52
def f96n6 := f96d 105
def f96n7 := f96d 210
def f96n7_eq := ncX f96n7 9 0
def f96n8 := f96d 211
def f96n9 := f96d 422
def f96n10 := f96d 844
def f96n11 := f96d 1689
def f96n12 := f96d 3379
def f96n13 := f96d 6758
def f96r5 := f96s 13516
def f96r5_0 := mvE f96r5 0 1 5 17
def f96r5_1 := mvL f96r5 1 17 4
def f96n13_eq := nrR f96n13 f96r5
def f96n12_eq := ncN f96n12 16 f96n13
def f96r4 := f96s 3378
def f96r4_0 := mvE f96r4 0 1 1 11
def f96r4_1 := mvE f96r4 1 2 0 12
def f96r4_2 := mvE f96r4 2 3 5 13
def f96r4_3 := iaE f96r4 3 4 4 12 13 14
def f96r4_4 := lgE f96r4 4 5 4 14 15
theorem f96r4_5 : Run (f96r4 5 K ⟨e, m⟩) = Run (withV (lk e 11) fun v1 => withVs (St.evs ⟨e, m⟩ [.tmp 15]) fun vs => callA Tryz.prog (some 16) v1 vs K ⟨e, m⟩) := rk
def f96n11_eq := nrE f96n11 f96r4 f96n12
def f96r3 := f96s 1688
def f96r3_0 := mvE f96r3 0 1 8 10
def f96r3_1 := mvL f96r3 1 10 5
def f96n10_eq := nrE f96n10 f96r3 f96n11
def f96n9_eq := nbE f96n9 f96n10 1
def f96n14 := f96d 423
def f96r6 := f96s 423
def f96r6_0 := bnE f96r6 0 1 Tryz.prog 8 18 .add 3 1
def f96r6_1 := mvL f96r6 1 18 8
def f96n14_eq := nrN f96n14 f96r6
def f96n8_eq := ntE f96n8 f96n9 f96n14
def f96n6_eq := ntE f96n6 f96n7 f96n8
def f96r2 := f96s 104
def f96r2_0 := biL f96r2 0 Tryz.prog 8 7 9 .lss 3
def f96n5_eq := nrE f96n5 f96r2 f96n6
def f96L4_is := loE f96L4 f96n5 Tryz.prog f96b 52
def f96n3_eq := nbE f96n3 f96L4 0
def f96r1 := f96s 12
def f96r1_0 := mvE f96r1 0 1 0 6
def f96r1_1 := lnE f96r1 1 2 6 7
def f96r1_2 := ciL f96r1 2 8 0
def f96n2_eq := nrE f96n2 f96r1 f96n3
def f96n15 := f96d 7
def f96r7 := f96s 14
def f96r7_0 := ciL f96r7 0 4 (-1)
def f96n15_eq := nrR f96n15 f96r7
def f96n1_eq := ntE f96n1 f96n2 f96n15
def f96r0 := f96s 2
def f96r0_0 := ciL f96r0 0 4 0
def f96n_eq := nrE f96n f96r0 f96n1
def f96_calls := caE Tryz.prog 96 Tryz.f96 f96b f96n 19 [.tmp 4] Tryz.func96 mixed
attribute [go_sem] f96n7_eq f96r5_0 f96r5_1 f96n13_eq f96n12_eq f96r4_0 f96r4_1 f96r4_2 f96r4_3 f96r4_4 f96r4_5 f96n11_eq f96r3_0 f96r3_1 f96n10_eq f96n9_eq f96r6_0 f96r6_1 f96n14_eq f96n8_eq f96n6_eq f96r2_0 f96n5_eq f96n3_eq f96r1_0 f96r1_1 f96r1_2 f96n2_eq f96r7_0 f96n15_eq f96n1_eq f96r0_0 f96n_eq
noncomputable def f97b : Code := Tryz.f97.body.getD .skip
def f97d := ndB Tryz.prog f97b
def f97s := rsB Tryz.prog f97b
def f97n : WP := wpA Tryz.prog f97b
def f97n1 := f97d 3
def f97r1 := f97s 6
def f97r1_0 := faE f97r1 0 1 0 1 3
def f97r1_1 := lsE f97r1 1 2 1 3 4
theorem f97r1_2 : Run (f97r1 2 K ⟨e, m⟩) = Run (withV (some (.int .i64 0)) fun v1 => withV (lk e 4) fun v2 => binA Tryz.prog .leq 3 v1 v2 (fun x => f97r1 3 K ⟨(5, x) :: e, m⟩)) := rk
def f97r1_3 := mvE f97r1 3 4 5 6
def f97r1_4 := gfa f97r1 4 5 6 true 0 1 7
def f97r1_5 := gls f97r1 5 6 6 true 1 7 8
def f97r1_6 := gfa f97r1 6 7 6 true 1 1 9
def f97r1_7 := gls f97r1 7 8 6 true 1 9 10
def f97r1_8 := gbi f97r1 8 9 6 true Tryz.prog 8 10 11 .leq 3
def f97r1_9 := pfE f97r1 9 10 6 12 11
def f97r1_10 := mvE f97r1 10 11 12 13
def f97r1_11 := gfa f97r1 11 12 13 true 1 1 14
def f97r1_12 := gls f97r1 12 13 13 true 1 14 15
def f97r1_13 := gbn f97r1 13 14 13 true Tryz.prog 15 16 .leq 3 1073741824
def f97r1_14 := pfE f97r1 14 15 13 17 16
def f97r1_15 := mvL f97r1 15 17 2
def f97n1_eq := nrR f97n1 f97r1
def f97r0 := f97s 2
def f97r0_0 := bxE f97r0 0 1 1 0
def f97r0_1 := cbL f97r0 1 2 false
def f97n_eq := nrE f97n f97r0 f97n1
def f97_calls := caE Tryz.prog 97 Tryz.f97 f97b f97n 18 [.tmp 2] Tryz.func97 mixed
attribute [go_sem] f97r1_0 f97r1_1 f97r1_2 f97r1_3 f97r1_4 f97r1_5 f97r1_6 f97r1_7 f97r1_8 f97r1_9 f97r1_10 f97r1_11 f97r1_12 f97r1_13 f97r1_14 f97r1_15 f97n1_eq f97r0_0 f97r0_1 f97n_eq
noncomputable def f102b : Code := Tryz.f102.body.getD .skip
def f102d := ndB Tryz.prog f102b
def f102s := rsB Tryz.prog f102b
def f102n : WP := wpA Tryz.prog f102b
def f102n1 := f102d 3
noncomputable def f102r1a := raB f102b 6
def f102r1 := f102s 6
def f102r1q (i : Nat) : SP := opsQ Tryz.prog f102r1a ((f102r1a.toList.take 22).drop i)
theorem f102r1wr : cutAt f102r1a = some 22 := by kernel_rfl
theorem f102r1tl : (Region.lexTailB .any f102r1a 22 && (f102r1a.toList.take 22).all noCall) = false := by kernel_rfl
theorem f102r1mv : (lexMoveB .any f102r1a 22 && (f102r1a.toList.take 22).all noCall && tailB f102r1a 22) = false := by kernel_rfl
theorem f102r1cb : callB f102r1a 22 = false := by kernel_rfl
theorem f102r1so : (stoB f102r1a 22 && scCalls Tryz.prog f102r1a 22) = false := by kernel_rfl
theorem f102r1nw : (newB f102r1a 22 && scCalls Tryz.prog f102r1a 22) = false := by kernel_rfl
theorem f102r1ap : (appB f102r1a 22 && noClo f102r1a 22) = false := by kernel_rfl
theorem f102r1qt : (Region.lexTailB .any f102r1a 22 && noClo f102r1a 22) = true := by kernel_rfl
theorem f102r1_0 : Run (f102r1q 0 (f102r1 22 K) ⟨e, m⟩) = Run (lsT e m (f102r1q 1 (f102r1 22 K)) 1 2 6) := rk
theorem f102r1_1 : Run (f102r1q 1 (f102r1 22 K) ⟨e, m⟩) = Run (mvT e m (f102r1q 2 (f102r1 22 K)) 0 7) := rk
theorem f102r1_2 : Run (f102r1q 2 (f102r1 22 K) ⟨e, m⟩) = Run (iaT e m (f102r1q 3 (f102r1 22 K)) 7 6 7 8) := rk
theorem f102r1_3 : Run (f102r1q 3 (f102r1 22 K) ⟨e, m⟩) = Run (faT e m (f102r1q 4 (f102r1 22 K)) 3 8 9) := rk
theorem f102r1_4 : Run (f102r1q 4 (f102r1 22 K) ⟨e, m⟩) = Run (lsT e m (f102r1q 5 (f102r1 22 K)) 1 9 10) := rk
theorem f102r1_5 : Run (f102r1q 5 (f102r1 22 K) ⟨e, m⟩) = Run (lsT e m (f102r1q 6 (f102r1 22 K)) 1 2 11) := rk
theorem f102r1_6 : Run (f102r1q 6 (f102r1 22 K) ⟨e, m⟩) = Run (mvT e m (f102r1q 7 (f102r1 22 K)) 1 12) := rk
theorem f102r1_7 : Run (f102r1q 7 (f102r1 22 K) ⟨e, m⟩) = Run (iaT e m (f102r1q 8 (f102r1 22 K)) 7 11 12 13) := rk
theorem f102r1_8 : Run (f102r1q 8 (f102r1 22 K) ⟨e, m⟩) = Run (faT e m (f102r1q 9 (f102r1 22 K)) 3 13 14) := rk
theorem f102r1_9 : Run (f102r1q 9 (f102r1 22 K) ⟨e, m⟩) = Run (lsT e m (f102r1q 10 (f102r1 22 K)) 1 14 15) := rk
theorem f102r1_10 : Run (f102r1q 10 (f102r1 22 K) ⟨e, m⟩) = Run (clQ e m Tryz.prog (f102r1q 11 (f102r1 22 K)) 16 104 [.tmp 10, .tmp 15]) := rk
theorem f102r1_11 : Run (f102r1q 11 (f102r1 22 K) ⟨e, m⟩) = Run (lsT e m (f102r1q 12 (f102r1 22 K)) 1 2 17) := rk
theorem f102r1_12 : Run (f102r1q 12 (f102r1 22 K) ⟨e, m⟩) = Run (mvT e m (f102r1q 13 (f102r1 22 K)) 0 18) := rk
theorem f102r1_13 : Run (f102r1q 13 (f102r1 22 K) ⟨e, m⟩) = Run (iaT e m (f102r1q 14 (f102r1 22 K)) 7 17 18 19) := rk
theorem f102r1_14 : Run (f102r1q 14 (f102r1 22 K) ⟨e, m⟩) = Run (faT e m (f102r1q 15 (f102r1 22 K)) 0 19 20) := rk
theorem f102r1_15 : Run (f102r1q 15 (f102r1 22 K) ⟨e, m⟩) = Run (lsT e m (f102r1q 16 (f102r1 22 K)) 1 20 21) := rk
theorem f102r1_16 : Run (f102r1q 16 (f102r1 22 K) ⟨e, m⟩) = Run (lsT e m (f102r1q 17 (f102r1 22 K)) 1 2 22) := rk
theorem f102r1_17 : Run (f102r1q 17 (f102r1 22 K) ⟨e, m⟩) = Run (mvT e m (f102r1q 18 (f102r1 22 K)) 1 23) := rk
theorem f102r1_18 : Run (f102r1q 18 (f102r1 22 K) ⟨e, m⟩) = Run (iaT e m (f102r1q 19 (f102r1 22 K)) 7 22 23 24) := rk
theorem f102r1_19 : Run (f102r1q 19 (f102r1 22 K) ⟨e, m⟩) = Run (faT e m (f102r1q 20 (f102r1 22 K)) 0 24 25) := rk
theorem f102r1_20 : Run (f102r1q 20 (f102r1 22 K) ⟨e, m⟩) = Run (lsT e m (f102r1q 21 (f102r1 22 K)) 1 25 26) := rk
theorem f102r1_21 : Run (f102r1q 21 (f102r1 22 K) ⟨e, m⟩) = Run (clQ e m Tryz.prog (f102r1 22 K) 27 104 [.tmp 21, .tmp 26]) := rk
def f102r1_22 := bsE f102r1 22 23 28 3 1 2 (.int .i64 0) [(0, .tmp 16), (1, .tmp 27)]
def f102r1_23 := clE f102r1 23 24 Tryz.prog 29 103 [.tmp 28]
def f102r1_24 := mvL f102r1 24 29 5
theorem f102n1_eq : Run (f102n1 Q s) = Run (f102r1q 0 (f102r1 22 (Q .ret)) s) := run_eq (Eq.trans (b := drawA Tryz.prog f102r1a (Q .ret) s) (by kernel_rfl) (Eq.trans (draw_qt f102r1wr f102r1tl f102r1mv f102r1cb f102r1so f102r1nw f102r1ap f102r1qt) (by kernel_rfl)))
def f102r0 := f102s 2
def f102r0_0 := ciL f102r0 0 5 0
def f102n_eq := nrE f102n f102r0 f102n1
def f102_calls := caE Tryz.prog 102 Tryz.f102 f102b f102n 30 [.tmp 5] Tryz.func102 mixed
attribute [go_sem] f102r1_0 f102r1_1 f102r1_2 f102r1_3 f102r1_4 f102r1_5 f102r1_6 f102r1_7 f102r1_8 f102r1_9 f102r1_10 f102r1_11 f102r1_12 f102r1_13 f102r1_14 f102r1_15 f102r1_16 f102r1_17 f102r1_18 f102r1_19 f102r1_20 f102r1_21 f102r1_22 f102r1_23 f102r1_24 f102n1_eq f102r0_0 f102n_eq
noncomputable def f103b : Code := Tryz.f103.body.getD .skip
def f103d := ndB Tryz.prog f103b
def f103s := rsB Tryz.prog f103b
def f103n : WP := wpA Tryz.prog f103b
def f103n1 := f103d 3
def f103n2 := f103d 7
def f103n3 := f103d 14
def f103n4 := f103d 29
def f103L5 := f103d 58
def f103n6 := f103d 116
def f103n7 := f103d 233
def f103n8 := f103d 466
def f103n8_eq := ncX f103n8 9 0
def f103n9 := f103d 467
def f103n10 := f103d 934
def f103n11 := f103d 1868
def f103n12 := f103d 3737
def f103n13 := f103d 7475
def f103n14 := f103d 14950
def f103r6 := f103s 29900
def f103r6_0 := mvE f103r6 0 1 5 15
def f103r6_1 := mvL f103r6 1 15 2
def f103n14_eq := nrR f103n14 f103r6
def f103n13_eq := ncN f103n13 14 f103n14
def f103r5 := f103s 7474
def f103r5_0 := mvE f103r5 0 1 5 12
def f103r5_1 := mvE f103r5 1 2 3 13
def f103r5_2 := biL f103r5 2 Tryz.prog 12 13 14 .neq 3
def f103n12_eq := nrE f103n12 f103r5 f103n13
def f103r4 := f103s 3736
def f103r4_0 := iaE f103r4 0 1 1 6 8 10
def f103r4_1 := lsE f103r4 1 2 1 10 11
def f103r4_2 := mvL f103r4 2 11 5
def f103n11_eq := nrE f103n11 f103r4 f103n12
def f103n10_eq := nbE f103n10 f103n11 1
def f103n15 := f103d 935
def f103r7 := f103s 935
def f103r7_0 := bnE f103r7 0 1 Tryz.prog 8 16 .add 3 1
def f103r7_1 := mvL f103r7 1 16 8
def f103n15_eq := nrN f103n15 f103r7
def f103n9_eq := ntE f103n9 f103n10 f103n15
def f103n7_eq := ntE f103n7 f103n8 f103n9
def f103r3 := f103s 232
def f103r3_0 := biL f103r3 0 Tryz.prog 8 7 9 .lss 3
def f103n6_eq := nrE f103n6 f103r3 f103n7
def f103L5_is := loE f103L5 f103n6 Tryz.prog f103b 116
def f103n4_eq := nbE f103n4 f103L5 0
def f103r2 := f103s 28
def f103r2_0 := mvE f103r2 0 1 0 6
def f103r2_1 := lnE f103r2 1 2 6 7
def f103r2_2 := ciL f103r2 2 8 0
def f103n3_eq := nrE f103n3 f103r2 f103n4
def f103n16 := f103d 15
def f103r8 := f103s 30
def f103r8_0 := mvE f103r8 0 1 3 17
def f103r8_1 := mvL f103r8 1 17 2
def f103n16_eq := nrR f103n16 f103r8
def f103n2_eq := ntE f103n2 f103n3 f103n16
def f103r1 := f103s 6
def f103r1_0 := ciL f103r1 0 3 0
def f103n1_eq := nrE f103n1 f103r1 f103n2
def f103r0 := f103s 2
def f103r0_0 := ciL f103r0 0 2 0
def f103n_eq := nrE f103n f103r0 f103n1
def f103_calls := caE Tryz.prog 103 Tryz.f103 f103b f103n 18 [.tmp 2] Tryz.func103 mixed
attribute [go_sem] f103n8_eq f103r6_0 f103r6_1 f103n14_eq f103n13_eq f103r5_0 f103r5_1 f103r5_2 f103n12_eq f103r4_0 f103r4_1 f103r4_2 f103n11_eq f103n10_eq f103r7_0 f103r7_1 f103n15_eq f103n9_eq f103n7_eq f103r3_0 f103n6_eq f103n4_eq f103r2_0 f103r2_1 f103r2_2 f103n3_eq f103r8_0 f103r8_1 f103n16_eq f103n2_eq f103r1_0 f103n1_eq f103r0_0 f103n_eq
noncomputable def f104b : Code := Tryz.f104.body.getD .skip
def f104d := ndB Tryz.prog f104b
def f104s := rsB Tryz.prog f104b
def f104n : WP := wpA Tryz.prog f104b
def f104n1 := f104d 3
def f104n2 := f104d 7
def f104n3 := f104d 15
def f104n4 := f104d 30
def f104n5 := f104d 61
def f104n6 := f104d 122
def f104n5_eq := ncN f104n5 11 f104n6
def f104r3 := f104s 60
def f104r3_0 := mvL f104r3 0 5 11
def f104n4_eq := nrE f104n4 f104r3 f104n5
def f104n11 := f104d 31
def f104n12 := f104d 62
def f104n13 := f104d 125
def f104n14 := f104d 250
def f104n13_eq := ncN f104n13 13 f104n14
def f104r7 := f104s 124
def f104r7_0 := mvL f104r7 0 6 13
def f104n12_eq := nrE f104n12 f104r7 f104n13
def f104n15 := f104d 63
def f104n16 := f104d 126
def f104n17 := f104d 253
def f104n18 := f104d 506
def f104r10 := f104s 1012
def f104r10_0 := ciL f104r10 0 4 (-1)
def f104n18_eq := nrR f104n18 f104r10
def f104n17_eq := ncN f104n17 16 f104n18
def f104r9 := f104s 252
def f104r9_0 := mvE f104r9 0 1 0 14
def f104r9_1 := mvE f104r9 1 2 1 15
def f104r9_2 := biL f104r9 2 Tryz.prog 14 15 16 .lss 3
def f104n16_eq := nrE f104n16 f104r9 f104n17
def f104n19 := f104d 127
def f104n20 := f104d 254
def f104n21 := f104d 509
def f104n22 := f104d 1018
def f104r12 := f104s 2036
def f104r12_0 := ciL f104r12 0 4 1
def f104n22_eq := nrR f104n22 f104r12
def f104n21_eq := ncN f104n21 19 f104n22
def f104r11 := f104s 508
def f104r11_0 := mvE f104r11 0 1 0 17
def f104r11_1 := mvE f104r11 1 2 1 18
def f104r11_2 := biL f104r11 2 Tryz.prog 17 18 19 .gtr 3
def f104n20_eq := nrE f104n20 f104r11 f104n21
def f104n23 := f104d 255
def f104r13 := f104s 510
def f104r13_0 := ciL f104r13 0 4 0
def f104n23_eq := nrR f104n23 f104r13
def f104n19_eq := ntE f104n19 f104n20 f104n23
def f104n15_eq := ntE f104n15 f104n16 f104n19
def f104n11_eq := ntE f104n11 f104n12 f104n15
def f104n3_eq := ntE f104n3 f104n4 f104n11
def f104r2 := f104s 14
def f104r2_0 := mvE f104r2 0 1 1 9
def f104r2_1 := clE f104r2 1 2 Tryz.prog 10 115 [.tmp 9]
def f104r2_2 := mvL f104r2 2 10 6
def f104n2_eq := nrE f104n2 f104r2 f104n3
def f104r1 := f104s 6
def f104r1_0 := mvE f104r1 0 1 0 7
def f104r1_1 := clE f104r1 1 2 Tryz.prog 8 115 [.tmp 7]
def f104r1_2 := mvL f104r1 2 8 5
def f104n1_eq := nrE f104n1 f104r1 f104n2
def f104r0 := f104s 2
def f104r0_0 := ciL f104r0 0 4 0
def f104n_eq := nrE f104n f104r0 f104n1
def f104_calls := caE Tryz.prog 104 Tryz.f104 f104b f104n 20 [.tmp 4] Tryz.func104 mixed
attribute [go_sem] f104n5_eq f104r3_0 f104n4_eq f104n13_eq f104r7_0 f104n12_eq f104r10_0 f104n18_eq f104n17_eq f104r9_0 f104r9_1 f104r9_2 f104n16_eq f104r12_0 f104n22_eq f104n21_eq f104r11_0 f104r11_1 f104r11_2 f104n20_eq f104r13_0 f104n23_eq f104n19_eq f104n15_eq f104n11_eq f104n3_eq f104r2_0 f104r2_1 f104r2_2 f104n2_eq
attribute [go_sem] f104r1_0 f104r1_1 f104r1_2 f104n1_eq f104r0_0 f104n_eq
noncomputable def f105b : Code := Tryz.f105.body.getD .skip
def f105d := ndB Tryz.prog f105b
def f105s := rsB Tryz.prog f105b
def f105n : WP := wpA Tryz.prog f105b
def f105n1 := f105d 3
def f105r1 := f105s 6
def f105r1_0 := mvE f105r1 0 1 0 3
def f105r1_1 := bcE f105r1 1 2 Tryz.prog 3 4 .geq 5 (.int .u8 97)
def f105r1_2 := mvE f105r1 2 3 4 5
def f105r1_3 := gmv f105r1 3 4 5 true 0 6
def f105r1_4 := gbc f105r1 4 5 5 true Tryz.prog 6 7 .leq 5 (.int .u8 122)
def f105r1_5 := pfE f105r1 5 6 5 8 7
def f105r1_6 := mvE f105r1 6 7 8 9
def f105r1_7 := gmv f105r1 7 8 9 false 0 10
def f105r1_8 := gbc f105r1 8 9 9 false Tryz.prog 10 11 .geq 5 (.int .u8 65)
def f105r1_9 := gmv f105r1 9 10 9 false 11 12
def f105r1_10 := gmv f105r1 10 11 12 true 0 13
def f105r1_11 := gbc f105r1 11 12 12 true Tryz.prog 13 14 .leq 5 (.int .u8 90)
theorem f105r1_12 : Run (f105r1 12 K ⟨e, m⟩) = Run (gN e m (f105r1 13 K) 9 15 false fun e => pkT e m (f105r1 13 K) 12 15 (lk e 14) (some (.bool false))) := rk
def f105r1_13 := ptE f105r1 13 14 9 16 15
def f105r1_14 := mvL f105r1 14 16 2
def f105n1_eq := nrR f105n1 f105r1
def f105r0 := f105s 2
def f105r0_0 := cbL f105r0 0 2 false
def f105n_eq := nrE f105n f105r0 f105n1
def f105_calls := caE Tryz.prog 105 Tryz.f105 f105b f105n 17 [.tmp 2] Tryz.func105 mixed
attribute [go_sem] f105r1_0 f105r1_1 f105r1_2 f105r1_3 f105r1_4 f105r1_5 f105r1_6 f105r1_7 f105r1_8 f105r1_9 f105r1_10 f105r1_11 f105r1_12 f105r1_13 f105r1_14 f105n1_eq f105r0_0 f105n_eq
noncomputable def f106b : Code := Tryz.f106.body.getD .skip
def f106d := ndB Tryz.prog f106b
def f106s := rsB Tryz.prog f106b
def f106n : WP := wpA Tryz.prog f106b
def f106n1 := f106d 3
def f106n2 := f106d 6
def f106n3 := f106d 13
def f106L4 := f106d 26
def f106n5 := f106d 52
def f106n6 := f106d 105
def f106n7 := f106d 210
def f106n7_eq := ncX f106n7 9 0
def f106n8 := f106d 211
def f106n9 := f106d 422
def f106n10 := f106d 844
def f106n11 := f106d 1689
def f106n12 := f106d 3379
def f106n13 := f106d 6758
def f106r5 := f106s 13516
def f106r5_0 := mvE f106r5 0 1 5 17
def f106r5_1 := mvL f106r5 1 17 4
def f106n13_eq := nrR f106n13 f106r5
def f106n12_eq := ncN f106n12 16 f106n13
def f106r4 := f106s 3378
def f106r4_0 := mvE f106r4 0 1 1 11
def f106r4_1 := mvE f106r4 1 2 0 12
def f106r4_2 := mvE f106r4 2 3 5 13
def f106r4_3 := iaE f106r4 3 4 2 12 13 14
def f106r4_4 := lgE f106r4 4 5 2 14 15
theorem f106r4_5 : Run (f106r4 5 K ⟨e, m⟩) = Run (withV (lk e 11) fun v1 => withVs (St.evs ⟨e, m⟩ [.tmp 15]) fun vs => callA Tryz.prog (some 16) v1 vs K ⟨e, m⟩) := rk
def f106n11_eq := nrE f106n11 f106r4 f106n12
def f106r3 := f106s 1688
def f106r3_0 := mvE f106r3 0 1 8 10
def f106r3_1 := mvL f106r3 1 10 5
def f106n10_eq := nrE f106n10 f106r3 f106n11
def f106n9_eq := nbE f106n9 f106n10 1
def f106n14 := f106d 423
def f106r6 := f106s 423
def f106r6_0 := bnE f106r6 0 1 Tryz.prog 8 18 .add 3 1
def f106r6_1 := mvL f106r6 1 18 8
def f106n14_eq := nrN f106n14 f106r6
def f106n8_eq := ntE f106n8 f106n9 f106n14
def f106n6_eq := ntE f106n6 f106n7 f106n8
def f106r2 := f106s 104
def f106r2_0 := biL f106r2 0 Tryz.prog 8 7 9 .lss 3
def f106n5_eq := nrE f106n5 f106r2 f106n6
def f106L4_is := loE f106L4 f106n5 Tryz.prog f106b 52
def f106n3_eq := nbE f106n3 f106L4 0
def f106r1 := f106s 12
def f106r1_0 := mvE f106r1 0 1 0 6
def f106r1_1 := lnE f106r1 1 2 6 7
def f106r1_2 := ciL f106r1 2 8 0
def f106n2_eq := nrE f106n2 f106r1 f106n3
def f106n15 := f106d 7
def f106r7 := f106s 14
def f106r7_0 := ciL f106r7 0 4 (-1)
def f106n15_eq := nrR f106n15 f106r7
def f106n1_eq := ntE f106n1 f106n2 f106n15
def f106r0 := f106s 2
def f106r0_0 := ciL f106r0 0 4 0
def f106n_eq := nrE f106n f106r0 f106n1
def f106_calls := caE Tryz.prog 106 Tryz.f106 f106b f106n 19 [.tmp 4] Tryz.func106 mixed
attribute [go_sem] f106n7_eq f106r5_0 f106r5_1 f106n13_eq f106n12_eq f106r4_0 f106r4_1 f106r4_2 f106r4_3 f106r4_4 f106r4_5 f106n11_eq f106r3_0 f106r3_1 f106n10_eq f106n9_eq f106r6_0 f106r6_1 f106n14_eq f106n8_eq f106n6_eq f106r2_0 f106n5_eq f106n3_eq f106r1_0 f106r1_1 f106r1_2 f106n2_eq f106r7_0 f106n15_eq f106n1_eq f106r0_0 f106n_eq
noncomputable def f115b : Code := Tryz.f115.body.getD .skip
def f115d := ndB Tryz.prog f115b
def f115s := rsB Tryz.prog f115b
def f115n : WP := wpA Tryz.prog f115b
def f115n1 := f115d 3
def f115r1 := f115s 6
def f115r1_0 := mvE f115r1 0 1 0 3
def f115r1_1 := mvE f115r1 1 2 0 4
def f115r1_2 := biE f115r1 2 3 Tryz.prog 3 4 5 .neq 3
def f115r1_3 := mvL f115r1 3 5 2
def f115n1_eq := nrR f115n1 f115r1
def f115r0 := f115s 2
def f115r0_0 := cbL f115r0 0 2 false
def f115n_eq := nrE f115n f115r0 f115n1
def f115_calls := caE Tryz.prog 115 Tryz.f115 f115b f115n 6 [.tmp 2] Tryz.func115 mixed
attribute [go_sem] f115r1_0 f115r1_1 f115r1_2 f115r1_3 f115n1_eq f115r0_0 f115n_eq
end
end Go.Proofs.YtkkpjmcpnmbbfaaGreatDoor
