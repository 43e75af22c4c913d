/- Made by a program of ours (shallow.py): functions of the seat as predicates, checked by the kernel against their code. -/
import Derived.Test.YtglkgmomnbdkoaaWp2
import Derived.Test.YtglkgmomnbdkoaaTab
namespace Go.Proofs.Ytglkgmomnbdkoaa
namespace Ev
noncomputable section
set_option linter.unusedVariables false

/-- trunkline/trunklinelaw09.ArpBounds -/
def w3 (X : Ctx) (a0 a1 : Value) (H : Heap) (Q : Value → Heap → Prop) : Prop :=
 C X 9 [(.int .u64 5), a0] H fun v12_3 H_4 =>
 Ok (extract v12_3 0) fun v13_6 =>
 Ok (extract v12_3 1) fun v14_7 =>
 Ok (bin X .neq 25 v14_7 (.int .i64 0)) fun v16_11 =>
 Br v16_11
 (Q (.bool false) H_4)
 (Ok (bin X .eql 24 v13_6 (.pointer none)) fun v19_16 =>
 Br v19_16
 (Q (.bool false) H_4)
 (∀ P_20 : List Value → Heap → Prop, (∀ x7_21 : Value, ∀ H_22,
 (Ok2 (builtin X H_22 .len [23] [a1]) fun v23_25 H_26 =>
 Ok (bin X .lss 3 x7_21 v23_25) fun v24_27 =>
 Br v24_27
 (Ok (bin X .lss 3 x7_21 (.int .i64 300)) fun v27_30 =>
 Br v27_30
 (∀ P_32 : List Value → Heap → Prop, (∀ H_33,
 (C X 13 [v13_6] H_33 fun v77_35 H_36 =>
 Ok2 (builtin X H_36 .len [39] [v77_35]) fun v79_39 H_40 =>
 Ok (bin X .gtr 3 v79_39 (.int .i64 8)) fun v80_41 =>
 Br v80_41
 (Q (.bool false) H_40)
 (∀ P_44 : List Value → Heap → Prop, (∀ x9_45 : Value, ∀ H_46,
 (Ok2 (builtin X H_46 .len [39] [v77_35]) fun v83_49 H_50 =>
 Ok (bin X .lss 3 x9_45 v83_49) fun v84_51 =>
 Br v84_51
 (IA v77_35 x9_45 4 fun v89_54 =>
 FA v89_54 3 fun v90_55 =>
 Ld1 X H_50 v90_55 fun v91_56 =>
 Ok (bin X .gtr 3 v91_56 (.int .i64 4)) fun v92_57 =>
 Br v92_57
 (Q (.bool false) H_50)
 (IA v77_35 x9_45 4 fun v96_65 =>
 FA v96_65 2 fun v97_66 =>
 Ld1 X H_50 v97_66 fun v98_67 =>
 Br v98_67
 (IA v77_35 x9_45 4 fun v102_71 =>
 FA v102_71 3 fun v103_72 =>
 Ld1 X H_50 v103_72 fun v104_73 =>
 Ok (bin X .gtr 3 v104_73 (.int .i64 0)) fun v105_74 =>
 Br v105_74
 (Q (.bool false) H_50)
 (Ok (bin X .gtr 3 x9_45 (.int .i64 0)) fun v110_81 =>
 Br v110_81
 (IA v77_35 x9_45 4 fun v114_85 =>
 FA v114_85 0 fun v115_86 =>
 Ld1 X H_50 v115_86 fun v116_87 =>
 Ok (bin X .sub 3 x9_45 (.int .i64 1)) fun v119_90 =>
 IA v77_35 v119_90 4 fun v120_91 =>
 FA v120_91 0 fun v121_92 =>
 Ld1 X H_50 v121_92 fun v122_93 =>
 Ok (bin X .leq 22 v116_87 v122_93) fun v123_94 =>
 Br v123_94
 (Q (.bool false) H_50)
 (Ok (bin X .add 3 x9_45 (.int .i64 1)) fun v86_99 =>
 P_44 [v86_99] H_50))
 (Ok (bin X .add 3 x9_45 (.int .i64 1)) fun v86_104 =>
 P_44 [v86_104] H_50)))
 (Ok (bin X .gtr 3 x9_45 (.int .i64 0)) fun v110_110 =>
 Br v110_110
 (IA v77_35 x9_45 4 fun v114_114 =>
 FA v114_114 0 fun v115_115 =>
 Ld1 X H_50 v115_115 fun v116_116 =>
 Ok (bin X .sub 3 x9_45 (.int .i64 1)) fun v119_119 =>
 IA v77_35 v119_119 4 fun v120_120 =>
 FA v120_120 0 fun v121_121 =>
 Ld1 X H_50 v121_121 fun v122_122 =>
 Ok (bin X .leq 22 v116_116 v122_122) fun v123_123 =>
 Br v123_123
 (Q (.bool false) H_50)
 (Ok (bin X .add 3 x9_45 (.int .i64 1)) fun v86_128 =>
 P_44 [v86_128] H_50))
 (Ok (bin X .add 3 x9_45 (.int .i64 1)) fun v86_133 =>
 P_44 [v86_133] H_50))))
 (Ok (bin X .add 3 x7_21 (.int .i64 1)) fun v30_136 =>
 P_20 [v30_136] H_50)) →
 P_44 [x9_45] H_46) →
 P_44 [(.int .i64 0)] H_40)) →
 P_32 [] H_33) →
 IA a1 x7_21 9 fun v33_140 =>
 FA v33_140 0 fun v34_141 =>
 Ld1 X H_26 v34_141 fun v35_142 =>
 Ok (bin X .eql 3 v35_142 (.int .i64 0)) fun v44_143 =>
 Br v44_143
 (IA a1 x7_21 9 fun v48_148 =>
 FA v48_148 1 fun v49_149 =>
 Ld1 X H_26 v49_149 fun v50_150 =>
 IA a1 x7_21 9 fun v53_153 =>
 FA v53_153 2 fun v54_154 =>
 Ld1 X H_26 v54_154 fun v55_155 =>
 IA a1 x7_21 9 fun v58_158 =>
 FA v58_158 8 fun v59_159 =>
 Ld1 X H_26 v59_159 fun v60_160 =>
 C X 10 [v13_6, v50_150, v55_155, v60_160] H_26 fun v61_161 H_162 =>
 P_32 [] H_162)
 (Ok (bin X .eql 3 v35_142 (.int .i64 1)) fun v63_163 =>
 Br v63_163
 (IA a1 x7_21 9 fun v67_168 =>
 FA v67_168 3 fun v68_169 =>
 LdN X H_26 v68_169 5 fun v69_170 =>
 IA a1 x7_21 9 fun v72_173 =>
 FA v72_173 8 fun v73_174 =>
 Ld1 X H_26 v73_174 fun v74_175 =>
 C X 11 [v13_6, v69_170, v74_175] H_26 fun v75_176 H_177 =>
 P_32 [] H_177)
 (IA a1 x7_21 9 fun v39_181 =>
 FA v39_181 8 fun v40_182 =>
 Ld1 X H_26 v40_182 fun v41_183 =>
 C X 12 [v13_6, v41_183] H_26 fun v42_184 H_185 =>
 P_32 [] H_185)))
 (C X 14 [] H_26 fun v126_186 H_187 =>
 Q v126_186 H_187))
 (C X 14 [] H_26 fun v126_190 H_191 =>
 Q v126_190 H_191)) →
 P_20 [x7_21] H_22) →
 P_20 [(.int .i64 0)] H_4))

set_option maxRecDepth 100000 in
theorem w3_eq : (fun (ext : Nat → Nat → Option Value) (spec : FuncId → Option (List Value → Heap → Option (Value × Heap))) (a0 a1 : Value) (H : Heap) (Q : Value → Heap → Prop) => w3 (Tab.ctx ext spec) a0 a1 H Q) =
  fun ext spec a0 a1 H Q => wpF (Tab.ctx ext spec) (fun i => cond (Nat.beq i 6) (some [7]) (cond (Nat.beq i 18) (some [9]) (none))) (fun i => cond (Nat.beq i 14) (some []) (none)) 3 [a0, a1] H Q := by kernel_rfl

theorem w3_ok {ext : Nat → Nat → Option Value} {spec : FuncId → Option (List Value → Heap → Option (Value × Heap))} {a0 a1 : Value} {H : Heap} {Q : Value → Heap → Prop} (hs : spec 3 = none) (h : w3 (Tab.ctx ext spec) a0 a1 H Q) : C (Tab.ctx ext spec) 3 [a0, a1] H Q :=
  C_of hs (Eq.mp (congrFun (congrFun (congrFun (congrFun (congrFun (congrFun w3_eq ext) spec) a0) a1) H) Q) h)

/-- trunkline/trunklinelaw09.ArpPlays -/
def w4 (X : Ctx) (a0 a1 a2 : Value) (H : Heap) (Q : Value → Heap → Prop) : Prop :=
 C X 15 [a0, a1, a2] H fun v14_5 H_6 =>
 Ok (extract v14_5 0) fun v15_8 =>
 Ok (extract v14_5 1) fun v16_9 =>
 Ok (extract v14_5 2) fun v17_10 =>
 C X 14 [] H_6 fun v18_14 H_15 =>
 Br v18_14
 (Q v17_10 H_15)
 (Q (.bool false) H_15)

set_option maxRecDepth 100000 in
theorem w4_eq : (fun (ext : Nat → Nat → Option Value) (spec : FuncId → Option (List Value → Heap → Option (Value × Heap))) (a0 a1 a2 : Value) (H : Heap) (Q : Value → Heap → Prop) => w4 (Tab.ctx ext spec) a0 a1 a2 H Q) =
  fun ext spec a0 a1 a2 H Q => wpF (Tab.ctx ext spec) (fun i => none) (fun i => none) 4 [a0, a1, a2] H Q := by kernel_rfl

theorem w4_ok {ext : Nat → Nat → Option Value} {spec : FuncId → Option (List Value → Heap → Option (Value × Heap))} {a0 a1 a2 : Value} {H : Heap} {Q : Value → Heap → Prop} (hs : spec 4 = none) (h : w4 (Tab.ctx ext spec) a0 a1 a2 H Q) : C (Tab.ctx ext spec) 4 [a0, a1, a2] H Q :=
  C_of hs (Eq.mp (congrFun (congrFun (congrFun (congrFun (congrFun (congrFun (congrFun w4_eq ext) spec) a0) a1) a2) H) Q) h)

/-- trunkline/trunklinelaw09.ArpCounts -/
def w5 (X : Ctx) (a0 a1 : Value) (H : Heap) (Q : Value → Heap → Prop) : Prop :=
 C X 9 [(.int .u64 5), a0] H fun v19_3 H_4 =>
 Ok (extract v19_3 0) fun v20_6 =>
 Ok (extract v19_3 1) fun v21_7 =>
 Ok (bin X .neq 25 v21_7 (.int .i64 0)) fun v23_11 =>
 Br v23_11
 (Q (.bool false) H_4)
 (Ok (bin X .eql 24 v20_6 (.pointer none)) fun v26_16 =>
 Br v26_16
 (Q (.bool false) H_4)
 (∀ P_22 : List Value → Heap → Prop, (∀ x7_23 x8_24 x9_25 : Value, ∀ H_26,
 (Ok2 (builtin X H_26 .len [23] [a1]) fun v30_29 H_30 =>
 Ok (bin X .lss 3 x9_25 v30_29) fun v31_31 =>
 Br v31_31
 (Ok (bin X .lss 3 x9_25 (.int .i64 300)) fun v34_34 =>
 Br v34_34
 (∀ P_38 : List Value → Heap → Prop, (∀ x7_39 x10_40 : Value, ∀ H_41,
 (C X 16 [x10_40, (.int .u64 5)] H_41 fun v102_43 H_44 =>
 Ok (extract v102_43 0) fun v103_46 =>
 Ok (extract v102_43 1) fun v104_47 =>
 Ok (un .not v104_47) fun v106_51 =>
 Br v106_51
 (Q (.bool false) H_44)
 (Ok (bin X .add 3 x8_24 v103_46) fun v109_55 =>
 C X 13 [v20_6] H_44 fun v111_59 H_60 =>
 ∀ P_63 : List Value → Heap → Prop, (∀ x14_64 x16_65 : Value, ∀ H_66,
 (Ok2 (builtin X H_66 .len [39] [v111_59]) fun v114_69 H_70 =>
 Ok (bin X .lss 3 x16_65 v114_69) fun v115_71 =>
 Br v115_71
 (IA v111_59 x16_65 4 fun v121_75 =>
 FA v121_75 3 fun v122_76 =>
 Ld1 X H_70 v122_76 fun v123_77 =>
 Ok (bin X .add 3 x14_64 v123_77) fun v124_78 =>
 Ok (bin X .add 3 x16_65 (.int .i64 1)) fun v117_81 =>
 P_63 [v124_78, v117_81] H_70)
 (Ok (bin X .add 3 v109_55 x14_64) fun v128_86 =>
 C X 17 [v20_6] H_70 fun v130_88 H_89 =>
 Ok (bin X .add 3 v128_86 v130_88) fun v131_90 =>
 Ok (bin X .neq 3 x7_39 v131_90) fun v132_91 =>
 Br v132_91
 (Q (.bool false) H_89)
 (Ok (bin X .add 3 x9_25 (.int .i64 1)) fun v37_94 =>
 P_22 [x7_39, v109_55, v37_94] H_89))) →
 P_63 [x14_64, x16_65] H_66) →
 P_63 [(.int .i64 0), (.int .i64 0)] H_60)) →
 P_38 [x7_39, x10_40] H_41) →
 IA a1 x9_25 9 fun v40_98 =>
 FA v40_98 0 fun v41_99 =>
 Ld1 X H_30 v41_99 fun v42_100 =>
 Ok (bin X .eql 3 v42_100 (.int .i64 0)) fun v54_101 =>
 Br v54_101
 (IA a1 x9_25 9 fun v59_106 =>
 FA v59_106 1 fun v60_107 =>
 Ld1 X H_30 v60_107 fun v61_108 =>
 IA a1 x9_25 9 fun v64_111 =>
 FA v64_111 2 fun v65_112 =>
 Ld1 X H_30 v65_112 fun v66_113 =>
 IA a1 x9_25 9 fun v69_116 =>
 FA v69_116 8 fun v70_117 =>
 Ld1 X H_30 v70_117 fun v71_118 =>
 C X 10 [v20_6, v61_108, v66_113, v71_118] H_30 fun v72_119 H_120 =>
 Ok (extract v72_119 0) fun v73_122 =>
 Ok (extract v72_119 1) fun v74_123 =>
 Ok (bin X .eql 25 v74_123 (.int .i64 0)) fun v76_127 =>
 Br v76_127
 (Ok (bin X .add 3 x7_23 (.int .i64 1)) fun v82_131 =>
 P_38 [v82_131, v73_122] H_120)
 (Ok (bin X .eql 25 v74_123 (.int .i64 10)) fun v79_134 =>
 Br v79_134
 (Ok (bin X .add 3 x7_23 (.int .i64 1)) fun v82_137 =>
 P_38 [v82_137, v73_122] H_120)
 (P_38 [x7_23, v73_122] H_120)))
 (Ok (bin X .eql 3 v42_100 (.int .i64 1)) fun v84_139 =>
 Br v84_139
 (IA a1 x9_25 9 fun v89_144 =>
 FA v89_144 3 fun v90_145 =>
 LdN X H_30 v90_145 5 fun v91_146 =>
 IA a1 x9_25 9 fun v94_149 =>
 FA v94_149 8 fun v95_150 =>
 Ld1 X H_30 v95_150 fun v96_151 =>
 C X 11 [v20_6, v91_146, v96_151] H_30 fun v97_152 H_153 =>
 Ok (extract v97_152 0) fun v98_155 =>
 Ok (extract v97_152 1) fun v99_156 =>
 P_38 [x7_23, v98_155] H_153)
 (IA a1 x9_25 9 fun v47_161 =>
 FA v47_161 8 fun v48_162 =>
 Ld1 X H_30 v48_162 fun v49_163 =>
 C X 12 [v20_6, v49_163] H_30 fun v50_164 H_165 =>
 Ok (extract v50_164 0) fun v51_167 =>
 Ok (extract v50_164 1) fun v52_168 =>
 P_38 [x7_23, v51_167] H_165)))
 (C X 14 [] H_30 fun v133_170 H_171 =>
 Q v133_170 H_171))
 (C X 14 [] H_30 fun v133_174 H_175 =>
 Q v133_174 H_175)) →
 P_22 [x7_23, x8_24, x9_25] H_26) →
 P_22 [(.int .i64 0), (.int .i64 0), (.int .i64 0)] H_4))

set_option maxRecDepth 100000 in
theorem w5_eq : (fun (ext : Nat → Nat → Option Value) (spec : FuncId → Option (List Value → Heap → Option (Value × Heap))) (a0 a1 : Value) (H : Heap) (Q : Value → Heap → Prop) => w5 (Tab.ctx ext spec) a0 a1 H Q) =
  fun ext spec a0 a1 H Q => wpF (Tab.ctx ext spec) (fun i => cond (Nat.beq i 7) (some [7, 8, 9]) (cond (Nat.beq i 26) (some [14, 16]) (none))) (fun i => cond (Nat.beq i 19) (some [7, 10]) (none)) 5 [a0, a1] H Q := by kernel_rfl

theorem w5_ok {ext : Nat → Nat → Option Value} {spec : FuncId → Option (List Value → Heap → Option (Value × Heap))} {a0 a1 : Value} {H : Heap} {Q : Value → Heap → Prop} (hs : spec 5 = none) (h : w5 (Tab.ctx ext spec) a0 a1 H Q) : C (Tab.ctx ext spec) 5 [a0, a1] H Q :=
  C_of hs (Eq.mp (congrFun (congrFun (congrFun (congrFun (congrFun (congrFun w5_eq ext) spec) a0) a1) H) Q) h)

/-- trunkline/trunklinelaw09.ArpAsks -/
def w6 (X : Ctx) (a0 a1 a2 : Value) (H : Heap) (Q : Value → Heap → Prop) : Prop :=
 Ok (bin X .add 22 a0 (.int .u32 1)) fun v19_3 =>
 C X 9 [(.int .u64 5), v19_3] H fun v20_4 H_5 =>
 Ok (extract v20_4 0) fun v21_7 =>
 Ok (extract v20_4 1) fun v22_8 =>
 Ok (bin X .neq 25 v22_8 (.int .i64 0)) fun v24_12 =>
 Br v24_12
 (Q (.bool false) H_5)
 (Ok (bin X .eql 24 v21_7 (.pointer none)) fun v27_17 =>
 Br v27_17
 (Q (.bool false) H_5)
 (Ok2 (conv X H_5 5 3 a1) fun v30_21 H_22 =>
 Ok (bin X .rem 3 v30_21 (.int .i64 4)) fun v31_23 =>
 Ok (bin X .add 3 (.int .i64 1) v31_23) fun v32_24 =>
 ∀ P_27 : List Value → Heap → Prop, (∀ x10_28 : Value, ∀ H_29,
 (Ok (bin X .lss 3 x10_28 v32_24) fun v35_32 =>
 Br v35_32
 (Ok2 (buildSlice X H_29 29 1 [(0, (.int .u8 1))]) fun v40_35 H_36 =>
 C X 10 [v21_7, a0, v40_35, (.int .i64 0)] H_36 fun v41_37 H_38 =>
 Ok (bin X .add 3 x10_28 (.int .i64 1)) fun v37_40 =>
 P_27 [v37_40] H_38)
 (∀ P_45 : List Value → Heap → Prop, (∀ x11_46 x12_47 x13_48 : Value, ∀ H_49,
 (Ok2 (builtin X H_49 .len [29] [a2]) fun v44_52 H_53 =>
 Ok (bin X .lss 3 x13_48 v44_52) fun v45_54 =>
 Br v45_54
 (Ok (bin X .lss 3 x13_48 (.int .i64 100)) fun v48_57 =>
 Br v48_57
 (IA a2 x13_48 1 fun v55_62 =>
 Ld1 X H_53 v55_62 fun v56_63 =>
 Ok2 (conv X H_53 5 3 v56_63) fun v57_64 H_65 =>
 Ok (bin X .rem 3 v57_64 (.int .i64 25)) fun v58_66 =>
 Ok (bin X .add 3 x11_46 v58_66) fun v59_67 =>
 C X 12 [v21_7, v59_67] H_65 fun v63_71 H_72 =>
 Ok (extract v63_71 0) fun v64_74 =>
 Ok (extract v63_71 1) fun v65_75 =>
 Ok (bin X .neq 25 v65_75 (.int .i64 0)) fun v67_79 =>
 Br v67_79
 (Q (.bool false) H_72)
 (Ok2 (builtin X H_72 .len [34] [v64_74]) fun v70_84 H_85 =>
 Ok (bin X .gtr 3 v70_84 (.int .i64 1)) fun v71_86 =>
 Br v71_86
 (Q (.bool false) H_85)
 (Ok2 (builtin X H_85 .len [34] [v64_74]) fun v75_91 H_92 =>
 Ok (bin X .add 3 x12_47 v75_91) fun v76_93 =>
 C X 13 [v21_7] H_92 fun v78_96 H_97 =>
 Ok2 (builtin X H_97 .len [39] [v78_96]) fun v79_98 H_99 =>
 Ok (bin X .eql 3 v79_98 (.int .i64 0)) fun v80_100 =>
 C X 17 [v21_7] H_99 fun v83_104 H_105 =>
 Ok (bin X .eql 3 v83_104 v32_24) fun v85_107 =>
 Ok (bin X .neq 4 v80_100 v85_107) fun v86_108 =>
 Br v86_108
 (Q (.bool false) H_105)
 (Br v80_100
 (Ok (bin X .neq 3 v76_93 (.int .i64 3)) fun v91_117 =>
 Br v91_117
 (Q (.bool false) H_105)
 (Ok (bin X .gtr 3 v76_93 (.int .i64 3)) fun v96_124 =>
 Br v96_124
 (Q (.bool false) H_105)
 (Ok (bin X .add 3 x13_48 (.int .i64 1)) fun v51_128 =>
 P_45 [v59_67, v76_93, v51_128] H_105)))
 (Ok (bin X .gtr 3 v76_93 (.int .i64 3)) fun v96_134 =>
 Br v96_134
 (Q (.bool false) H_105)
 (Ok (bin X .add 3 x13_48 (.int .i64 1)) fun v51_138 =>
 P_45 [v59_67, v76_93, v51_138] H_105))))))
 (C X 14 [] H_53 fun v98_140 H_141 =>
 Br v98_140
 (Ok (bin X .lss 3 x11_46 (.int .i64 30)) fun v101_144 =>
 Br v101_144
 (Q (.bool true) H_141)
 (Ok (bin X .gtr 3 x12_47 (.int .i64 1)) fun v104_152 =>
 Br v104_152
 (Q (.bool true) H_141)
 (C X 17 [v21_7] H_141 fun v108_159 H_160 =>
 Ok (bin X .eql 3 v108_159 v32_24) fun v110_162 =>
 Q v110_162 H_160)))
 (Q (.bool false) H_141)))
 (C X 14 [] H_53 fun v98_169 H_170 =>
 Br v98_169
 (Ok (bin X .lss 3 x11_46 (.int .i64 30)) fun v101_173 =>
 Br v101_173
 (Q (.bool true) H_170)
 (Ok (bin X .gtr 3 x12_47 (.int .i64 1)) fun v104_181 =>
 Br v104_181
 (Q (.bool true) H_170)
 (C X 17 [v21_7] H_170 fun v108_188 H_189 =>
 Ok (bin X .eql 3 v108_188 v32_24) fun v110_191 =>
 Q v110_191 H_189)))
 (Q (.bool false) H_170))) →
 P_45 [x11_46, x12_47, x13_48] H_49) →
 P_45 [(.int .i64 0), (.int .i64 1), (.int .i64 0)] H_29)) →
 P_27 [x10_28] H_29) →
 P_27 [(.int .i64 0)] H_22))

set_option maxRecDepth 100000 in
theorem w6_eq : (fun (ext : Nat → Nat → Option Value) (spec : FuncId → Option (List Value → Heap → Option (Value × Heap))) (a0 a1 a2 : Value) (H : Heap) (Q : Value → Heap → Prop) => w6 (Tab.ctx ext spec) a0 a1 a2 H Q) =
  fun ext spec a0 a1 a2 H Q => wpF (Tab.ctx ext spec) (fun i => cond (Nat.beq i 7) (some [10]) (cond (Nat.beq i 12) (some [11, 12, 13]) (none))) (fun i => none) 6 [a0, a1, a2] H Q := by kernel_rfl

theorem w6_ok {ext : Nat → Nat → Option Value} {spec : FuncId → Option (List Value → Heap → Option (Value × Heap))} {a0 a1 a2 : Value} {H : Heap} {Q : Value → Heap → Prop} (hs : spec 6 = none) (h : w6 (Tab.ctx ext spec) a0 a1 a2 H Q) : C (Tab.ctx ext spec) 6 [a0, a1, a2] H Q :=
  C_of hs (Eq.mp (congrFun (congrFun (congrFun (congrFun (congrFun (congrFun (congrFun w6_eq ext) spec) a0) a1) a2) H) Q) h)

/-- trunkline/trunklinelaw09.ArpForks -/
def w7 (X : Ctx) (a0 a1 a2 : Value) (H : Heap) (Q : Value → Heap → Prop) : Prop :=
 C X 15 [(.int .u64 5), a0, a1] H fun v16_4 H_5 =>
 Ok (extract v16_4 0) fun v17_7 =>
 Ok (extract v16_4 1) fun v18_8 =>
 Ok (extract v16_4 2) fun v19_9 =>
 Ok (un .not v19_9) fun v21_14 =>
 Br v21_14
 (Q (.bool false) H_5)
 (Ok (bin X .eql 24 v17_7 (.pointer none)) fun v24_19 =>
 Br v24_19
 (Q (.bool false) H_5)
 (C X 18 [v17_7] H_5 fun v27_23 H_24 =>
 C X 19 [v18_8] H_24 fun v29_26 H_27 =>
 ∀ P_31 : List Value → Heap → Prop, (∀ x12_32 : Value, ∀ H_33,
 (Ok2 (builtin X H_33 .len [23] [a2]) fun v32_36 H_37 =>
 Ok (bin X .lss 3 x12_32 v32_36) fun v33_38 =>
 Br v33_38
 (Ok (bin X .lss 3 x12_32 (.int .i64 150)) fun v36_41 =>
 Br v36_41
 (IA a2 x12_32 9 fun v44_47 =>
 LdN X H_37 v44_47 9 fun v45_48 =>
 C X 20 [v27_23, v29_26, v45_48] H_37 fun v46_49 H_50 =>
 Ok (un .not v46_49) fun v47_51 =>
 Br v47_51
 (Q (.bool false) H_50)
 (Ok (bin X .add 3 x12_32 (.int .i64 1)) fun v39_54 =>
 P_31 [v39_54] H_50))
 (C X 14 [] H_37 fun v48_56 H_57 =>
 Br v48_56
 (C X 13 [v17_7] H_57 fun v51_60 H_61 =>
 C X 22 [v18_8] H_61 fun v53_63 H_64 =>
 C X 21 [v51_60, v53_63] H_64 fun v54_65 H_66 =>
 Br v54_65
 (Ok (nilCheck v18_8) fun v60_72 =>
 FA v60_72 2 fun v61_73 =>
 Ld1 X H_66 v61_73 fun v62_74 =>
 Ok (build X 33 [(0, (.int .i64 2)), (4, v62_74)]) fun v63_75 =>
 C X 20 [v17_7, v18_8, v63_75] H_66 fun v64_76 H_77 =>
 Q v64_76 H_77)
 (Q (.bool false) H_66))
 (Q (.bool false) H_57)))
 (C X 14 [] H_37 fun v48_87 H_88 =>
 Br v48_87
 (C X 13 [v17_7] H_88 fun v51_91 H_92 =>
 C X 22 [v18_8] H_92 fun v53_94 H_95 =>
 C X 21 [v51_91, v53_94] H_95 fun v54_96 H_97 =>
 Br v54_96
 (Ok (nilCheck v18_8) fun v60_103 =>
 FA v60_103 2 fun v61_104 =>
 Ld1 X H_97 v61_104 fun v62_105 =>
 Ok (build X 33 [(0, (.int .i64 2)), (4, v62_105)]) fun v63_106 =>
 C X 20 [v17_7, v18_8, v63_106] H_97 fun v64_107 H_108 =>
 Q v64_107 H_108)
 (Q (.bool false) H_97))
 (Q (.bool false) H_88))) →
 P_31 [x12_32] H_33) →
 P_31 [(.int .i64 0)] H_27))

set_option maxRecDepth 100000 in
theorem w7_eq : (fun (ext : Nat → Nat → Option Value) (spec : FuncId → Option (List Value → Heap → Option (Value × Heap))) (a0 a1 a2 : Value) (H : Heap) (Q : Value → Heap → Prop) => w7 (Tab.ctx ext spec) a0 a1 a2 H Q) =
  fun ext spec a0 a1 a2 H Q => wpF (Tab.ctx ext spec) (fun i => cond (Nat.beq i 7) (some [12]) (none)) (fun i => none) 7 [a0, a1, a2] H Q := by kernel_rfl

theorem w7_ok {ext : Nat → Nat → Option Value} {spec : FuncId → Option (List Value → Heap → Option (Value × Heap))} {a0 a1 a2 : Value} {H : Heap} {Q : Value → Heap → Prop} (hs : spec 7 = none) (h : w7 (Tab.ctx ext spec) a0 a1 a2 H Q) : C (Tab.ctx ext spec) 7 [a0, a1, a2] H Q :=
  C_of hs (Eq.mp (congrFun (congrFun (congrFun (congrFun (congrFun (congrFun (congrFun w7_eq ext) spec) a0) a1) a2) H) Q) h)

/-- trunkline/arp.New -/
def w9 (X : Ctx) (a0 a1 : Value) (H : Heap) (Q : Value → Heap → Prop) : Prop :=
 Ok (bin X .geq 28 a0 (.int .u64 281474976710655)) fun v7_4 =>
 Br v7_4
 (Q (.tuple #[(.pointer none), (.int .i64 2)]) H)
 (AlM H fun v10_9 H_10 =>
 Ok (build X 64 [(0, a0), (1, a1), (3, v10_9)]) fun v11_11 =>
 Al H_10 (.cells (cellsOf v11_11) 64) fun v12_12 H_13 =>
 Q (.tuple #[v12_12, (.int .i64 0)]) H_13)

set_option maxRecDepth 100000 in
theorem w9_eq : (fun (ext : Nat → Nat → Option Value) (spec : FuncId → Option (List Value → Heap → Option (Value × Heap))) (a0 a1 : Value) (H : Heap) (Q : Value → Heap → Prop) => w9 (Tab.ctx ext spec) a0 a1 H Q) =
  fun ext spec a0 a1 H Q => wpF (Tab.ctx ext spec) (fun i => none) (fun i => none) 9 [a0, a1] H Q := by kernel_rfl

theorem w9_ok {ext : Nat → Nat → Option Value} {spec : FuncId → Option (List Value → Heap → Option (Value × Heap))} {a0 a1 : Value} {H : Heap} {Q : Value → Heap → Prop} (hs : spec 9 = none) (h : w9 (Tab.ctx ext spec) a0 a1 H Q) : C (Tab.ctx ext spec) 9 [a0, a1] H Q :=
  C_of hs (Eq.mp (congrFun (congrFun (congrFun (congrFun (congrFun (congrFun w9_eq ext) spec) a0) a1) H) Q) h)

/-- (*trunkline/arp.Cache).Send -/
def w10 (X : Ctx) (a0 a1 a2 a3 : Value) (H : Heap) (Q : Value → Heap → Prop) : Prop :=
 C X 23 [a0, a3] H fun v16_5 H_6 =>
 Ok (bin X .neq 25 v16_5 (.int .i64 0)) fun v18_9 =>
 Br v18_9
 (Q (.tuple #[(.slice none 0 0), v16_5]) H_6)
 (Ok2 (builtin X H_6 .len [29] [a2]) fun v21_14 H_15 =>
 Ok (bin X .eql 3 v21_14 (.int .i64 0)) fun v22_16 =>
 Br v22_16
 (Q (.tuple #[(.slice none 0 0), (.int .i64 6)]) H_15)
 (Ok2 (builtin X H_15 .len [29] [a2]) fun v25_22 H_23 =>
 Ok (bin X .gtr 3 v25_22 (.int .i64 1500)) fun v26_24 =>
 Br v26_24
 (Q (.tuple #[(.slice none 0 0), (.int .i64 6)]) H_23)
 (Ok (nilCheck a0) fun v30_29 =>
 FA v30_29 3 fun v31_30 =>
 Ld1 X H_23 v31_30 fun v32_31 =>
 Ok (lookup X H_23 62 v32_31 a1 true) fun v34_33 =>
 Ok (extract v34_33 0) fun v35_35 =>
 Ok (extract v34_33 1) fun v36_36 =>
 Al H_23 (.cells [.bool false, .int .u64 0, .int .i64 0, .int .i64 0, .slice none 0 0] 67) fun v11_37 H_38 =>
 St H_38 v11_37 5 v35_35 fun H_40 =>
 FA v11_37 0 fun v38_42 =>
 Ld1 X H_40 v38_42 fun v39_43 =>
 Br v39_43
 (FA v11_37 1 fun v41_46 =>
 Ld1 X H_40 v41_46 fun v42_47 =>
 C X 24 [a0, v42_47, a2] H_40 fun v44_49 H_50 =>
 Ok2 (buildSlice X H_50 34 1 [(0, v44_49)]) fun v45_51 H_52 =>
 Q (.tuple #[v45_51, (.int .i64 0)]) H_52)
 (FA v11_37 4 fun v47_55 =>
 Ld1 X H_40 v47_55 fun v48_56 =>
 Ok2 (builtin X H_40 .len [34] [v48_56]) fun v49_57 H_58 =>
 Ok (bin X .eql 3 v49_57 (.int .i64 4)) fun v50_59 =>
 Br v50_59
 (Ok (nilCheck a0) fun v59_62 =>
 FA v59_62 4 fun v60_63 =>
 Ld1 X H_58 v60_63 fun v61_64 =>
 Ok (bin X .add 3 v61_64 (.int .i64 1)) fun v62_65 =>
 Ok (nilCheck a0) fun v63_66 =>
 FA v63_66 4 fun v64_67 =>
 St H_58 v64_67 1 v62_65 fun H_69 =>
 Q (.tuple #[(.slice none 0 0), (.int .i64 10)]) H_69)
 (Ok (un .not v36_36) fun v52_73 =>
 Br v52_73
 (C X 25 [a0] H_58 fun v55_76 H_77 =>
 Ok (un .not v55_76) fun v56_78 =>
 Br v56_78
 (Ok (nilCheck a0) fun v59_82 =>
 FA v59_82 4 fun v60_83 =>
 Ld1 X H_77 v60_83 fun v61_84 =>
 Ok (bin X .add 3 v61_84 (.int .i64 1)) fun v62_85 =>
 Ok (nilCheck a0) fun v63_86 =>
 FA v63_86 4 fun v64_87 =>
 St H_77 v64_87 1 v62_85 fun H_89 =>
 Q (.tuple #[(.slice none 0 0), (.int .i64 10)]) H_89)
 (∀ P_93 : List Value → Heap → Prop, (∀ x13_94 : Value, ∀ H_95,
 (FA v11_37 4 fun v76_96 =>
 Ld1 X H_95 v76_96 fun v77_97 =>
 C X 27 [v77_97] H_95 fun v78_98 H_99 =>
 C X 28 [a2] H_99 fun v80_101 H_102 =>
 Ok2 (buildSlice X H_102 34 1 [(0, v80_101)]) fun v81_103 H_104 =>
 Ok2 (builtin X H_104 .append [34, 34] [v78_98, v81_103]) fun v82_105 H_106 =>
 FA v11_37 4 fun v83_107 =>
 St H_106 v83_107 1 v82_105 fun H_109 =>
 Ok (nilCheck a0) fun v85_111 =>
 FA v85_111 3 fun v86_112 =>
 Ld1 X H_109 v86_112 fun v87_113 =>
 LdN X H_109 v11_37 5 fun v89_115 =>
 Ok (mapUpdate X H_109 62 v87_113 a1 v89_115) fun H_117 =>
 Q (.tuple #[x13_94, (.int .i64 0)]) H_117) →
 P_93 [x13_94] H_95) →
 Ok (un .not v36_36) fun v66_122 =>
 Br v66_122
 (FA v11_37 2 fun v68_124 =>
 St H_77 v68_124 1 a3 fun H_126 =>
 FA v11_37 3 fun v69_127 =>
 St H_126 v69_127 1 (.int .i64 1) fun H_129 =>
 C X 26 [a0, a1] H_129 fun v73_133 H_134 =>
 Ok2 (buildSlice X H_134 34 1 [(0, v73_133)]) fun v74_135 H_136 =>
 Ok2 (builtin X H_136 .append [34, 34] [(.slice none 0 0), v74_135]) fun v75_137 H_138 =>
 P_93 [v75_137] H_138)
 (P_93 [(.slice none 0 0)] H_77)))
 (∀ P_143 : List Value → Heap → Prop, (∀ x13_144 : Value, ∀ H_145,
 (FA v11_37 4 fun v76_146 =>
 Ld1 X H_145 v76_146 fun v77_147 =>
 C X 27 [v77_147] H_145 fun v78_148 H_149 =>
 C X 28 [a2] H_149 fun v80_151 H_152 =>
 Ok2 (buildSlice X H_152 34 1 [(0, v80_151)]) fun v81_153 H_154 =>
 Ok2 (builtin X H_154 .append [34, 34] [v78_148, v81_153]) fun v82_155 H_156 =>
 FA v11_37 4 fun v83_157 =>
 St H_156 v83_157 1 v82_155 fun H_159 =>
 Ok (nilCheck a0) fun v85_161 =>
 FA v85_161 3 fun v86_162 =>
 Ld1 X H_159 v86_162 fun v87_163 =>
 LdN X H_159 v11_37 5 fun v89_165 =>
 Ok (mapUpdate X H_159 62 v87_163 a1 v89_165) fun H_167 =>
 Q (.tuple #[x13_144, (.int .i64 0)]) H_167) →
 P_143 [x13_144] H_145) →
 Ok (un .not v36_36) fun v66_172 =>
 Br v66_172
 (FA v11_37 2 fun v68_174 =>
 St H_58 v68_174 1 a3 fun H_176 =>
 FA v11_37 3 fun v69_177 =>
 St H_176 v69_177 1 (.int .i64 1) fun H_179 =>
 C X 26 [a0, a1] H_179 fun v73_183 H_184 =>
 Ok2 (buildSlice X H_184 34 1 [(0, v73_183)]) fun v74_185 H_186 =>
 Ok2 (builtin X H_186 .append [34, 34] [(.slice none 0 0), v74_185]) fun v75_187 H_188 =>
 P_143 [v75_187] H_188)
 (P_143 [(.slice none 0 0)] H_58)))))))

set_option maxRecDepth 100000 in
theorem w10_eq : (fun (ext : Nat → Nat → Option Value) (spec : FuncId → Option (List Value → Heap → Option (Value × Heap))) (a0 a1 a2 a3 : Value) (H : Heap) (Q : Value → Heap → Prop) => w10 (Tab.ctx ext spec) a0 a1 a2 a3 H Q) =
  fun ext spec a0 a1 a2 a3 H Q => wpF (Tab.ctx ext spec) (fun i => none) (fun i => cond (Nat.beq i 18) (some [13]) (none)) 10 [a0, a1, a2, a3] H Q := by kernel_rfl

theorem w10_ok {ext : Nat → Nat → Option Value} {spec : FuncId → Option (List Value → Heap → Option (Value × Heap))} {a0 a1 a2 a3 : Value} {H : Heap} {Q : Value → Heap → Prop} (hs : spec 10 = none) (h : w10 (Tab.ctx ext spec) a0 a1 a2 a3 H Q) : C (Tab.ctx ext spec) 10 [a0, a1, a2, a3] H Q :=
  C_of hs (Eq.mp (congrFun (congrFun (congrFun (congrFun (congrFun (congrFun (congrFun (congrFun w10_eq ext) spec) a0) a1) a2) a3) H) Q) h)

/-- (*trunkline/arp.Cache).Take -/
def w11 (X : Ctx) (a0 a1 a2 : Value) (H : Heap) (Q : Value → Heap → Prop) : Prop :=
 Al H (.cells (cellsOf a1) 31) fun v4_1 H_2 =>
 C X 23 [a0, a2] H_2 fun v16_7 H_8 =>
 Ok (bin X .neq 25 v16_7 (.int .i64 0)) fun v18_11 =>
 Br v18_11
 (Q (.tuple #[(.slice none 0 0), v16_7]) H_8)
 (FA v4_1 2 fun v20_15 =>
 Ld1 X H_8 v20_15 fun v21_16 =>
 Ok (nilCheck a0) fun v23_18 =>
 FA v23_18 1 fun v24_19 =>
 Ld1 X H_8 v24_19 fun v25_20 =>
 Ok (bin X .eql 22 v21_16 v25_20) fun v26_21 =>
 Br v26_21
 (Q (.tuple #[(.slice none 0 0), (.int .i64 12)]) H_8)
 (FA v4_1 1 fun v28_26 =>
 Ld1 X H_8 v28_26 fun v29_27 =>
 Ok (bin X .geq 28 v29_27 (.int .u64 281474976710655)) fun v30_28 =>
 Br v30_28
 (Q (.tuple #[(.slice none 0 0), (.int .i64 12)]) H_8)
 (∀ P_33 : List Value → Heap → Prop, (∀ x9_34 : Value, ∀ H_35,
 (FA v4_1 0 fun v82_36 =>
 Ld1 X H_35 v82_36 fun v83_37 =>
 Ok (bin X .eql 3 v83_37 (.int .i64 1)) fun v84_38 =>
 Br v84_38
 (FA v4_1 4 fun v86_40 =>
 Ld1 X H_35 v86_40 fun v87_41 =>
 Ok (nilCheck a0) fun v89_43 =>
 FA v89_43 1 fun v90_44 =>
 Ld1 X H_35 v90_44 fun v91_45 =>
 Ok (bin X .eql 22 v87_41 v91_45) fun v92_46 =>
 Br v92_46
 (FA v4_1 1 fun v96_50 =>
 Ld1 X H_35 v96_50 fun v97_51 =>
 FA v4_1 1 fun v98_52 =>
 Ld1 X H_35 v98_52 fun v99_53 =>
 FA v4_1 2 fun v100_54 =>
 Ld1 X H_35 v100_54 fun v101_55 =>
 C X 29 [a0, (.int .i64 2), v97_51, v99_53, v101_55] H_35 fun v102_56 H_57 =>
 Ok2 (buildSlice X H_57 34 1 [(0, v102_56)]) fun v103_58 H_59 =>
 Ok2 (builtin X H_59 .append [34, 34] [x9_34, v103_58]) fun v104_60 H_61 =>
 Q (.tuple #[v104_60, (.int .i64 0)]) H_61)
 (Q (.tuple #[x9_34, (.int .i64 0)]) H_35))
 (Q (.tuple #[x9_34, (.int .i64 0)]) H_35)) →
 P_33 [x9_34] H_35) →
 Ok (nilCheck a0) fun v34_74 =>
 FA v34_74 3 fun v35_75 =>
 Ld1 X H_8 v35_75 fun v36_76 =>
 FA v4_1 2 fun v37_77 =>
 Ld1 X H_8 v37_77 fun v38_78 =>
 Ok (lookup X H_8 62 v36_76 v38_78 true) fun v39_79 =>
 Ok (extract v39_79 0) fun v40_81 =>
 Ok (extract v39_79 1) fun v41_82 =>
 Al H_8 (.cells [.bool false, .int .u64 0, .int .i64 0, .int .i64 0, .slice none 0 0] 67) fun v10_83 H_84 =>
 St H_84 v10_83 5 v40_81 fun H_86 =>
 Br v41_82
 (FA v10_83 4 fun v56_91 =>
 Ld1 X H_86 v56_91 fun v57_92 =>
 Ok2 (builtin X H_86 .len [34] [v57_92]) fun v58_93 H_94 =>
 ∀ P_96 : List Value → Heap → Prop, (∀ x9_97 x59_98 : Value, ∀ H_99,
 (Ok (bin X .lss 3 x59_98 v58_93) fun v60_100 =>
 Br v60_100
 (IA v57_92 x59_98 1 fun v61_101 =>
 Ld1 X H_99 v61_101 fun v62_102 =>
 FA v4_1 1 fun v65_106 =>
 Ld1 X H_99 v65_106 fun v66_107 =>
 C X 24 [a0, v66_107, v62_102] H_99 fun v68_109 H_110 =>
 Ok2 (buildSlice X H_110 34 1 [(0, v68_109)]) fun v69_111 H_112 =>
 Ok2 (builtin X H_112 .append [34, 34] [x9_97, v69_111]) fun v70_113 H_114 =>
 Ok (bin X .add 3 x59_98 (.int .i64 1)) fun v71_116 =>
 P_96 [v70_113, v71_116] H_114)
 (Ok (nilCheck a0) fun v73_119 =>
 FA v73_119 3 fun v74_120 =>
 Ld1 X H_99 v74_120 fun v75_121 =>
 FA v4_1 2 fun v76_122 =>
 Ld1 X H_99 v76_122 fun v77_123 =>
 FA v4_1 1 fun v78_124 =>
 Ld1 X H_99 v78_124 fun v79_125 =>
 Ok (build X 67 [(0, (.bool true)), (1, v79_125), (2, a2)]) fun v81_127 =>
 Ok (mapUpdate X H_99 62 v75_121 v77_123 v81_127) fun H_129 =>
 P_33 [x9_97] H_129)) →
 P_96 [x9_97, x59_98] H_99) →
 P_96 [(.slice none 0 0), (.int .i64 0)] H_94)
 (FA v4_1 4 fun v44_130 =>
 Ld1 X H_86 v44_130 fun v45_131 =>
 Ok (nilCheck a0) fun v47_133 =>
 FA v47_133 1 fun v48_134 =>
 Ld1 X H_86 v48_134 fun v49_135 =>
 Ok (bin X .eql 22 v45_131 v49_135) fun v50_136 =>
 Br v50_136
 (C X 25 [a0] H_86 fun v53_139 H_140 =>
 Br v53_139
 (FA v10_83 4 fun v56_143 =>
 Ld1 X H_140 v56_143 fun v57_144 =>
 Ok2 (builtin X H_140 .len [34] [v57_144]) fun v58_145 H_146 =>
 ∀ P_148 : List Value → Heap → Prop, (∀ x9_149 x59_150 : Value, ∀ H_151,
 (Ok (bin X .lss 3 x59_150 v58_145) fun v60_152 =>
 Br v60_152
 (IA v57_144 x59_150 1 fun v61_153 =>
 Ld1 X H_151 v61_153 fun v62_154 =>
 FA v4_1 1 fun v65_158 =>
 Ld1 X H_151 v65_158 fun v66_159 =>
 C X 24 [a0, v66_159, v62_154] H_151 fun v68_161 H_162 =>
 Ok2 (buildSlice X H_162 34 1 [(0, v68_161)]) fun v69_163 H_164 =>
 Ok2 (builtin X H_164 .append [34, 34] [x9_149, v69_163]) fun v70_165 H_166 =>
 Ok (bin X .add 3 x59_150 (.int .i64 1)) fun v71_168 =>
 P_148 [v70_165, v71_168] H_166)
 (Ok (nilCheck a0) fun v73_171 =>
 FA v73_171 3 fun v74_172 =>
 Ld1 X H_151 v74_172 fun v75_173 =>
 FA v4_1 2 fun v76_174 =>
 Ld1 X H_151 v76_174 fun v77_175 =>
 FA v4_1 1 fun v78_176 =>
 Ld1 X H_151 v78_176 fun v79_177 =>
 Ok (build X 67 [(0, (.bool true)), (1, v79_177), (2, a2)]) fun v81_179 =>
 Ok (mapUpdate X H_151 62 v75_173 v77_175 v81_179) fun H_181 =>
 P_33 [x9_149] H_181)) →
 P_148 [x9_149, x59_150] H_151) →
 P_148 [(.slice none 0 0), (.int .i64 0)] H_146)
 (P_33 [(.slice none 0 0)] H_140))
 (P_33 [(.slice none 0 0)] H_86)))))

set_option maxRecDepth 100000 in
theorem w11_eq : (fun (ext : Nat → Nat → Option Value) (spec : FuncId → Option (List Value → Heap → Option (Value × Heap))) (a0 a1 a2 : Value) (H : Heap) (Q : Value → Heap → Prop) => w11 (Tab.ctx ext spec) a0 a1 a2 H Q) =
  fun ext spec a0 a1 a2 H Q => wpF (Tab.ctx ext spec) (fun i => cond (Nat.beq i 11) (some [9, 59]) (none)) (fun i => cond (Nat.beq i 16) (some [9]) (none)) 11 [a0, a1, a2] H Q := by kernel_rfl

theorem w11_ok {ext : Nat → Nat → Option Value} {spec : FuncId → Option (List Value → Heap → Option (Value × Heap))} {a0 a1 a2 : Value} {H : Heap} {Q : Value → Heap → Prop} (hs : spec 11 = none) (h : w11 (Tab.ctx ext spec) a0 a1 a2 H Q) : C (Tab.ctx ext spec) 11 [a0, a1, a2] H Q :=
  C_of hs (Eq.mp (congrFun (congrFun (congrFun (congrFun (congrFun (congrFun (congrFun w11_eq ext) spec) a0) a1) a2) H) Q) h)

/-- (*trunkline/arp.Cache).Tick -/
def w12 (X : Ctx) (a0 a1 : Value) (H : Heap) (Q : Value → Heap → Prop) : Prop :=
 C X 23 [a0, a1] H fun v14_5 H_6 =>
 Ok (bin X .neq 25 v14_5 (.int .i64 0)) fun v16_9 =>
 Br v16_9
 (Q (.tuple #[(.slice none 0 0), v14_5]) H_6)
 (C X 30 [a0] H_6 fun v19_15 H_16 =>
 Ok2 (builtin X H_16 .len [74] [v19_15]) fun v20_17 H_18 =>
 ∀ P_20 : List Value → Heap → Prop, (∀ x7_21 x21_22 : Value, ∀ H_23,
 (Ok (bin X .lss 3 x21_22 v20_17) fun v22_24 =>
 Br v22_24
 (IA v19_15 x21_22 1 fun v23_25 =>
 Ld1 X H_23 v23_25 fun v24_26 =>
 Ok (nilCheck a0) fun v26_29 =>
 FA v26_29 3 fun v27_30 =>
 Ld1 X H_23 v27_30 fun v28_31 =>
 Ok (lookup X H_23 62 v28_31 v24_26 false) fun v30_33 =>
 Al H_23 (.cells [.bool false, .int .u64 0, .int .i64 0, .int .i64 0, .slice none 0 0] 67) fun v10_34 H_35 =>
 St H_35 v10_34 5 v30_33 fun H_37 =>
 FA v10_34 2 fun v32_39 =>
 Ld1 X H_37 v32_39 fun v33_40 =>
 Ok (bin X .sub 3 a1 v33_40) fun v34_41 =>
 ∀ P_43 : List Value → Heap → Prop, (∀ x35_44 : Value, ∀ H_45,
 (Br x35_44
 (Ok (nilCheck a0) fun v55_47 =>
 FA v55_47 4 fun v56_48 =>
 Ld1 X H_45 v56_48 fun v57_49 =>
 FA v10_34 4 fun v58_50 =>
 Ld1 X H_45 v58_50 fun v59_51 =>
 Ok2 (builtin X H_45 .len [34] [v59_51]) fun v60_52 H_53 =>
 Ok (bin X .add 3 v57_49 v60_52) fun v61_54 =>
 Ok (nilCheck a0) fun v62_55 =>
 FA v62_55 4 fun v63_56 =>
 St H_53 v63_56 1 v61_54 fun H_58 =>
 Ok (nilCheck a0) fun v65_60 =>
 FA v65_60 3 fun v66_61 =>
 Ld1 X H_58 v66_61 fun v67_62 =>
 Ok2 (builtin X H_58 .delete [62, 22] [v67_62, v24_26]) fun u_64 H_65 =>
 Ok (bin X .add 3 x21_22 (.int .i64 1)) fun v95_66 =>
 P_20 [x7_21, v95_66] H_65)
 (FA v10_34 0 fun v70_68 =>
 Ld1 X H_45 v70_68 fun v71_69 =>
 Ok (un .not v71_69) fun v72_70 =>
 Br v72_70
 (Ok (bin X .geq 3 v34_41 (.int .i64 10)) fun v75_73 =>
 Br v75_73
 (FA v10_34 3 fun v78_77 =>
 Ld1 X H_45 v78_77 fun v79_78 =>
 Ok (bin X .add 3 v79_78 (.int .i64 1)) fun v80_79 =>
 FA v10_34 2 fun v81_80 =>
 St H_45 v81_80 1 a1 fun H_82 =>
 FA v10_34 3 fun v82_83 =>
 St H_82 v82_83 1 v80_79 fun H_85 =>
 Ok (nilCheck a0) fun v84_87 =>
 FA v84_87 3 fun v85_88 =>
 Ld1 X H_85 v85_88 fun v86_89 =>
 LdN X H_85 v10_34 5 fun v88_91 =>
 Ok (mapUpdate X H_85 62 v86_89 v24_26 v88_91) fun H_93 =>
 C X 26 [a0, v24_26] H_93 fun v92_97 H_98 =>
 Ok2 (buildSlice X H_98 34 1 [(0, v92_97)]) fun v93_99 H_100 =>
 Ok2 (builtin X H_100 .append [34, 34] [x7_21, v93_99]) fun v94_101 H_102 =>
 Ok (bin X .add 3 x21_22 (.int .i64 1)) fun v95_104 =>
 P_20 [v94_101, v95_104] H_102)
 (Ok (bin X .add 3 x21_22 (.int .i64 1)) fun v95_106 =>
 P_20 [x7_21, v95_106] H_45))
 (Ok (bin X .add 3 x21_22 (.int .i64 1)) fun v95_110 =>
 P_20 [x7_21, v95_110] H_45))) →
 P_43 [x35_44] H_45) →
 FA v10_34 0 fun v36_112 =>
 Ld1 X H_37 v36_112 fun v37_113 =>
 Br v37_113
 (Ok (bin X .geq 3 v34_41 (.int .i64 600)) fun v40_116 =>
 Br v40_116
 (P_43 [v40_116] H_37)
 (FA v10_34 0 fun v42_119 =>
 Ld1 X H_37 v42_119 fun v43_120 =>
 Ok (un .not v43_120) fun v44_121 =>
 Br v44_121
 (Ok (bin X .geq 3 v34_41 (.int .i64 10)) fun v47_124 =>
 Br v47_124
 (FA v10_34 3 fun v50_127 =>
 Ld1 X H_37 v50_127 fun v51_128 =>
 Ok (bin X .geq 3 v51_128 (.int .i64 3)) fun v52_129 =>
 P_43 [v52_129] H_37)
 (P_43 [(.bool false)] H_37))
 (P_43 [(.bool false)] H_37)))
 (FA v10_34 0 fun v42_140 =>
 Ld1 X H_37 v42_140 fun v43_141 =>
 Ok (un .not v43_141) fun v44_142 =>
 Br v44_142
 (Ok (bin X .geq 3 v34_41 (.int .i64 10)) fun v47_145 =>
 Br v47_145
 (FA v10_34 3 fun v50_148 =>
 Ld1 X H_37 v50_148 fun v51_149 =>
 Ok (bin X .geq 3 v51_149 (.int .i64 3)) fun v52_150 =>
 P_43 [v52_150] H_37)
 (P_43 [(.bool false)] H_37))
 (P_43 [(.bool false)] H_37)))
 (Q (.tuple #[x7_21, (.int .i64 0)]) H_23)) →
 P_20 [x7_21, x21_22] H_23) →
 P_20 [(.slice none 0 0), (.int .i64 0)] H_18)

set_option maxRecDepth 100000 in
theorem w12_eq : (fun (ext : Nat → Nat → Option Value) (spec : FuncId → Option (List Value → Heap → Option (Value × Heap))) (a0 a1 : Value) (H : Heap) (Q : Value → Heap → Prop) => w12 (Tab.ctx ext spec) a0 a1 H Q) =
  fun ext spec a0 a1 H Q => wpF (Tab.ctx ext spec) (fun i => cond (Nat.beq i 7) (some [7, 21]) (none)) (fun i => cond (Nat.beq i 13) (some [35]) (none)) 12 [a0, a1] H Q := by kernel_rfl

theorem w12_ok {ext : Nat → Nat → Option Value} {spec : FuncId → Option (List Value → Heap → Option (Value × Heap))} {a0 a1 : Value} {H : Heap} {Q : Value → Heap → Prop} (hs : spec 12 = none) (h : w12 (Tab.ctx ext spec) a0 a1 H Q) : C (Tab.ctx ext spec) 12 [a0, a1] H Q :=
  C_of hs (Eq.mp (congrFun (congrFun (congrFun (congrFun (congrFun (congrFun w12_eq ext) spec) a0) a1) H) Q) h)

/-- (*trunkline/arp.Cache).Table -/
def w13 (X : Ctx) (a0 : Value) (H : Heap) (Q : Value → Heap → Prop) : Prop :=
 Ok (bin X .eql 24 a0 (.pointer none)) fun v8_3 =>
 Br v8_3
 (Q (.slice none 0 0) H)
 (C X 30 [a0] H fun v10_7 H_8 =>
 Ok2 (builtin X H_8 .len [74] [v10_7]) fun v11_9 H_10 =>
 ∀ P_12 : List Value → Heap → Prop, (∀ x3_13 x12_14 : Value, ∀ H_15,
 (Ok (bin X .lss 3 x12_14 v11_9) fun v13_16 =>
 Br v13_16
 (IA v10_7 x12_14 1 fun v14_17 =>
 Ld1 X H_15 v14_17 fun v15_18 =>
 Ok (nilCheck a0) fun v17_21 =>
 FA v17_21 3 fun v18_22 =>
 Ld1 X H_15 v18_22 fun v19_23 =>
 Ok (lookup X H_15 62 v19_23 v15_18 false) fun v21_25 =>
 Al H_15 (.cells [.bool false, .int .u64 0, .int .i64 0, .int .i64 0, .slice none 0 0] 67) fun v6_26 H_27 =>
 St H_27 v6_26 5 v21_25 fun H_29 =>
 FA v6_26 1 fun v24_32 =>
 Ld1 X H_29 v24_32 fun v25_33 =>
 FA v6_26 0 fun v26_34 =>
 Ld1 X H_29 v26_34 fun v27_35 =>
 FA v6_26 4 fun v28_36 =>
 Ld1 X H_29 v28_36 fun v29_37 =>
 Ok2 (builtin X H_29 .len [34] [v29_37]) fun v30_38 H_39 =>
 Ok (build X 42 [(0, v15_18), (1, v25_33), (2, v27_35), (3, v30_38)]) fun v31_40 =>
 Ok2 (buildSlice X H_39 39 1 [(0, v31_40)]) fun v32_41 H_42 =>
 Ok2 (builtin X H_42 .append [39, 39] [x3_13, v32_41]) fun v33_43 H_44 =>
 Ok (bin X .add 3 x12_14 (.int .i64 1)) fun v34_46 =>
 P_12 [v33_43, v34_46] H_44)
 (Q x3_13 H_15)) →
 P_12 [x3_13, x12_14] H_15) →
 P_12 [(.slice none 0 0), (.int .i64 0)] H_10)

set_option maxRecDepth 100000 in
theorem w13_eq : (fun (ext : Nat → Nat → Option Value) (spec : FuncId → Option (List Value → Heap → Option (Value × Heap))) (a0 : Value) (H : Heap) (Q : Value → Heap → Prop) => w13 (Tab.ctx ext spec) a0 H Q) =
  fun ext spec a0 H Q => wpF (Tab.ctx ext spec) (fun i => cond (Nat.beq i 6) (some [3, 12]) (none)) (fun i => none) 13 [a0] H Q := by kernel_rfl

theorem w13_ok {ext : Nat → Nat → Option Value} {spec : FuncId → Option (List Value → Heap → Option (Value × Heap))} {a0 : Value} {H : Heap} {Q : Value → Heap → Prop} (hs : spec 13 = none) (h : w13 (Tab.ctx ext spec) a0 H Q) : C (Tab.ctx ext spec) 13 [a0] H Q :=
  C_of hs (Eq.mp (congrFun (congrFun (congrFun (congrFun (congrFun w13_eq ext) spec) a0) H) Q) h)

/-- trunkline/trunklinelaw09.play -/
def w15 (X : Ctx) (a0 a1 a2 : Value) (H : Heap) (Q : Value → Heap → Prop) : Prop :=
 C X 9 [a0, a1] H fun v17_6 H_7 =>
 Ok (extract v17_6 0) fun v18_9 =>
 Ok (extract v17_6 1) fun v19_10 =>
 C X 32 [a0, a1] H_7 fun v23_15 H_16 =>
 Ok (extract v23_15 0) fun v24_18 =>
 Ok (extract v23_15 1) fun v25_19 =>
 Ok (bin X .neq 25 v19_10 v25_19) fun v28_24 =>
 Br v28_24
 (Q (.tuple #[v18_9, v24_18, (.bool false)]) H_16)
 (Ok (bin X .eql 24 v18_9 (.pointer none)) fun v31_33 =>
 Ok (bin X .eql 45 v24_18 (.pointer none)) fun v33_35 =>
 Ok (bin X .neq 4 v31_33 v33_35) fun v34_36 =>
 Br v34_36
 (Q (.tuple #[v18_9, v24_18, (.bool false)]) H_16)
 (∀ P_44 : List Value → Heap → Prop, (∀ x13_45 : Value, ∀ H_46,
 (Ok (bin X .neq 24 v18_9 (.pointer none)) fun v39_48 =>
 Br v39_48
 (Ok2 (builtin X H_46 .len [23] [a2]) fun v43_52 H_53 =>
 Ok (bin X .lss 3 x13_45 v43_52) fun v44_54 =>
 Br v44_54
 (Ok (bin X .lss 3 x13_45 (.int .i64 150)) fun v48_58 =>
 Br v48_58
 (IA a2 x13_45 9 fun v56_64 =>
 LdN X H_53 v56_64 9 fun v57_65 =>
 C X 20 [v18_9, v24_18, v57_65] H_53 fun v58_66 H_67 =>
 Ok (un .not v58_66) fun v59_68 =>
 Br v59_68
 (Q (.tuple #[v18_9, v24_18, (.bool false)]) H_67)
 (Ok (bin X .add 3 x13_45 (.int .i64 1)) fun v51_75 =>
 P_44 [v51_75] H_67))
 (Q (.tuple #[v18_9, v24_18, (.bool true)]) H_53))
 (Q (.tuple #[v18_9, v24_18, (.bool true)]) H_53))
 (Q (.tuple #[v18_9, v24_18, (.bool true)]) H_46)) →
 P_44 [x13_45] H_46) →
 P_44 [(.int .i64 0)] H_16))

set_option maxRecDepth 100000 in
theorem w15_eq : (fun (ext : Nat → Nat → Option Value) (spec : FuncId → Option (List Value → Heap → Option (Value × Heap))) (a0 a1 a2 : Value) (H : Heap) (Q : Value → Heap → Prop) => w15 (Tab.ctx ext spec) a0 a1 a2 H Q) =
  fun ext spec a0 a1 a2 H Q => wpF (Tab.ctx ext spec) (fun i => cond (Nat.beq i 7) (some [13]) (none)) (fun i => none) 15 [a0, a1, a2] H Q := by kernel_rfl

theorem w15_ok {ext : Nat → Nat → Option Value} {spec : FuncId → Option (List Value → Heap → Option (Value × Heap))} {a0 a1 a2 : Value} {H : Heap} {Q : Value → Heap → Prop} (hs : spec 15 = none) (h : w15 (Tab.ctx ext spec) a0 a1 a2 H Q) : C (Tab.ctx ext spec) 15 [a0, a1, a2] H Q :=
  C_of hs (Eq.mp (congrFun (congrFun (congrFun (congrFun (congrFun (congrFun (congrFun w15_eq ext) spec) a0) a1) a2) H) Q) h)

/-- trunkline/trunklinelaw09.bodies -/
def w16 (X : Ctx) (a0 a1 : Value) (H : Heap) (Q : Value → Heap → Prop) : Prop :=
 ∀ P_5 : List Value → Heap → Prop, (∀ x6_6 x7_7 : Value, ∀ H_8,
 (Ok2 (builtin X H_8 .len [34] [a0]) fun v12_11 H_12 =>
 Ok (bin X .lss 3 x7_7 v12_11) fun v13_13 =>
 Br v13_13
 (IA a0 x7_7 1 fun v19_16 =>
 Ld1 X H_12 v19_16 fun v20_17 =>
 C X 31 [v20_17] H_12 fun v21_18 H_19 =>
 Ok (extract v21_18 0) fun v22_21 =>
 Ok (extract v21_18 1) fun v23_22 =>
 Al H_19 (.cells [.int .u64 0, .int .u64 0, .int .u16 0, .slice none 0 0] 78) fun v8_23 H_24 =>
 St H_24 v8_23 4 v22_21 fun H_26 =>
 Ok (bin X .neq 25 v23_22 (.int .i64 0)) fun v25_29 =>
 Br v25_29
 (Q (.tuple #[(.int .i64 0), (.bool false)]) H_26)
 (FA v8_23 1 fun v27_34 =>
 Ld1 X H_26 v27_34 fun v28_35 =>
 Ok (bin X .neq 28 v28_35 a1) fun v30_37 =>
 Br v30_37
 (Q (.tuple #[(.int .i64 0), (.bool false)]) H_26)
 (FA v8_23 2 fun v32_41 =>
 Ld1 X H_26 v32_41 fun v33_42 =>
 Ok (bin X .eql 76 v33_42 (.int .u16 2048)) fun v34_43 =>
 Br v34_43
 (Ok (bin X .add 3 x6_6 (.int .i64 1)) fun v36_45 =>
 Ok (bin X .add 3 x7_7 (.int .i64 1)) fun v15_48 =>
 P_5 [v36_45, v15_48] H_26)
 (Ok (bin X .add 3 x7_7 (.int .i64 1)) fun v15_51 =>
 P_5 [x6_6, v15_51] H_26))))
 (Q (.tuple #[x6_6, (.bool true)]) H_12)) →
 P_5 [x6_6, x7_7] H_8) →
 P_5 [(.int .i64 0), (.int .i64 0)] H

set_option maxRecDepth 100000 in
theorem w16_eq : (fun (ext : Nat → Nat → Option Value) (spec : FuncId → Option (List Value → Heap → Option (Value × Heap))) (a0 a1 : Value) (H : Heap) (Q : Value → Heap → Prop) => w16 (Tab.ctx ext spec) a0 a1 H Q) =
  fun ext spec a0 a1 H Q => wpF (Tab.ctx ext spec) (fun i => cond (Nat.beq i 4) (some [6, 7]) (none)) (fun i => none) 16 [a0, a1] H Q := by kernel_rfl

theorem w16_ok {ext : Nat → Nat → Option Value} {spec : FuncId → Option (List Value → Heap → Option (Value × Heap))} {a0 a1 : Value} {H : Heap} {Q : Value → Heap → Prop} (hs : spec 16 = none) (h : w16 (Tab.ctx ext spec) a0 a1 H Q) : C (Tab.ctx ext spec) 16 [a0, a1] H Q :=
  C_of hs (Eq.mp (congrFun (congrFun (congrFun (congrFun (congrFun (congrFun w16_eq ext) spec) a0) a1) H) Q) h)

/-- (*trunkline/arp.Cache).Lost -/
def w17 (X : Ctx) (a0 : Value) (H : Heap) (Q : Value → Heap → Prop) : Prop :=
 Ok (bin X .eql 24 a0 (.pointer none)) fun v4_3 =>
 Br v4_3
 (Q (.int .i64 0) H)
 (Ok (nilCheck a0) fun v6_6 =>
 FA v6_6 4 fun v7_7 =>
 Ld1 X H v7_7 fun v8_8 =>
 Q v8_8 H)

set_option maxRecDepth 100000 in
theorem w17_eq : (fun (ext : Nat → Nat → Option Value) (spec : FuncId → Option (List Value → Heap → Option (Value × Heap))) (a0 : Value) (H : Heap) (Q : Value → Heap → Prop) => w17 (Tab.ctx ext spec) a0 H Q) =
  fun ext spec a0 H Q => wpF (Tab.ctx ext spec) (fun i => none) (fun i => none) 17 [a0] H Q := by kernel_rfl

theorem w17_ok {ext : Nat → Nat → Option Value} {spec : FuncId → Option (List Value → Heap → Option (Value × Heap))} {a0 : Value} {H : Heap} {Q : Value → Heap → Prop} (hs : spec 17 = none) (h : w17 (Tab.ctx ext spec) a0 H Q) : C (Tab.ctx ext spec) 17 [a0] H Q :=
  C_of hs (Eq.mp (congrFun (congrFun (congrFun (congrFun (congrFun w17_eq ext) spec) a0) H) Q) h)

/-- (*trunkline/arp.Cache).Fork -/
def w18 (X : Ctx) (a0 : Value) (H : Heap) (Q : Value → Heap → Prop) : Prop :=
 Ok (bin X .eql 24 a0 (.pointer none)) fun v5_3 =>
 Br v5_3
 (Q (.pointer none) H)
 (Ok (nilCheck a0) fun v7_6 =>
 LdN X H v7_6 5 fun v8_7 =>
 Al H (.cells [.int .u64 0, .int .u32 0, .int .i64 0, .map none, .int .i64 0] 64) fun v3_8 H_9 =>
 St H_9 v3_8 5 v8_7 fun H_11 =>
 Ok (nilCheck a0) fun v10_13 =>
 FA v10_13 3 fun v11_14 =>
 Ld1 X H_11 v11_14 fun v12_15 =>
 C X 33 [v12_15] H_11 fun v13_16 H_17 =>
 FA v3_8 3 fun v14_18 =>
 St H_17 v14_18 1 v13_16 fun H_20 =>
 Q v3_8 H_20)

set_option maxRecDepth 100000 in
theorem w18_eq : (fun (ext : Nat → Nat → Option Value) (spec : FuncId → Option (List Value → Heap → Option (Value × Heap))) (a0 : Value) (H : Heap) (Q : Value → Heap → Prop) => w18 (Tab.ctx ext spec) a0 H Q) =
  fun ext spec a0 H Q => wpF (Tab.ctx ext spec) (fun i => none) (fun i => none) 18 [a0] H Q := by kernel_rfl

theorem w18_ok {ext : Nat → Nat → Option Value} {spec : FuncId → Option (List Value → Heap → Option (Value × Heap))} {a0 : Value} {H : Heap} {Q : Value → Heap → Prop} (hs : spec 18 = none) (h : w18 (Tab.ctx ext spec) a0 H Q) : C (Tab.ctx ext spec) 18 [a0] H Q :=
  C_of hs (Eq.mp (congrFun (congrFun (congrFun (congrFun (congrFun w18_eq ext) spec) a0) H) Q) h)

/-- (*trunkline/trunklineref09.Cache).Fork -/
def w19 (X : Ctx) (a0 : Value) (H : Heap) (Q : Value → Heap → Prop) : Prop :=
 Ok (bin X .eql 45 a0 (.pointer none)) fun v5_3 =>
 Br v5_3
 (Q (.pointer none) H)
 (Ok (nilCheck a0) fun v7_6 =>
 LdN X H v7_6 5 fun v8_7 =>
 Al H (.cells [.int .u64 0, .int .u32 0, .int .i64 0, .slice none 0 0, .int .i64 0] 59) fun v3_8 H_9 =>
 St H_9 v3_8 5 v8_7 fun H_11 =>
 Ok2 (buildSlice X H_11 57 0 []) fun v9_12 H_13 =>
 Ok (nilCheck a0) fun v11_15 =>
 FA v11_15 3 fun v12_16 =>
 Ld1 X H_13 v12_16 fun v13_17 =>
 Ok2 (builtin X H_13 .append [57, 57] [v9_12, v13_17]) fun v14_18 H_19 =>
 FA v3_8 3 fun v15_20 =>
 St H_19 v15_20 1 v14_18 fun H_22 =>
 Q v3_8 H_22)

set_option maxRecDepth 100000 in
theorem w19_eq : (fun (ext : Nat → Nat → Option Value) (spec : FuncId → Option (List Value → Heap → Option (Value × Heap))) (a0 : Value) (H : Heap) (Q : Value → Heap → Prop) => w19 (Tab.ctx ext spec) a0 H Q) =
  fun ext spec a0 H Q => wpF (Tab.ctx ext spec) (fun i => none) (fun i => none) 19 [a0] H Q := by kernel_rfl

theorem w19_ok {ext : Nat → Nat → Option Value} {spec : FuncId → Option (List Value → Heap → Option (Value × Heap))} {a0 : Value} {H : Heap} {Q : Value → Heap → Prop} (hs : spec 19 = none) (h : w19 (Tab.ctx ext spec) a0 H Q) : C (Tab.ctx ext spec) 19 [a0] H Q :=
  C_of hs (Eq.mp (congrFun (congrFun (congrFun (congrFun (congrFun w19_eq ext) spec) a0) H) Q) h)

/-- trunkline/trunklinelaw09.do -/
def w20 (X : Ctx) (a0 a1 a2 : Value) (H : Heap) (Q : Value → Heap → Prop) : Prop :=
 Al H (.cells (cellsOf a2) 33) fun v5_1 H_2 =>
 ∀ P_8 : List Value → Heap → Prop, (∀ x7_9 x8_10 x9_11 x10_12 : Value, ∀ H_13,
 (C X 37 [x7_9, x8_10] H_13 fun v93_16 H_17 =>
 Br v93_16
 (Ok (bin X .eql 25 x9_11 x10_12) fun v97_21 =>
 ∀ P_25 : List Value → Heap → Prop, (∀ x14_26 : Value, ∀ H_27,
 (Ok2 (builtin X H_27 .len [34] [x7_9]) fun v101_30 H_31 =>
 Ok (bin X .lss 3 x14_26 v101_30) fun v102_32 =>
 Br v102_32
 (∀ P_34 : List Value → Heap → Prop, (∀ x15_35 : Value, ∀ H_36,
 (IA x7_9 x14_26 1 fun v108_40 =>
 Ld1 X H_36 v108_40 fun v109_41 =>
 Ok2 (builtin X H_36 .len [29] [v109_41]) fun v110_42 H_43 =>
 Ok (bin X .lss 3 x15_35 v110_42) fun v111_44 =>
 Br v111_44
 (IA x7_9 x14_26 1 fun v116_47 =>
 Ld1 X H_43 v116_47 fun v117_48 =>
 IA v117_48 x15_35 1 fun v119_50 =>
 Ld1 X H_43 v119_50 fun v120_51 =>
 Ok (bin X .xor 5 v120_51 (.int .u8 1)) fun v121_52 =>
 IA v117_48 x15_35 1 fun v122_53 =>
 St H_43 v122_53 1 v121_52 fun H_55 =>
 Ok (bin X .add 3 x15_35 (.int .i64 1)) fun v113_57 =>
 P_34 [v113_57] H_55)
 (Ok (bin X .add 3 x14_26 (.int .i64 1)) fun v104_60 =>
 P_25 [v104_60] H_43)) →
 P_34 [x15_35] H_36) →
 P_34 [(.int .i64 0)] H_31)
 (Br v97_21
 (C X 13 [a0] H_31 fun v126_65 H_66 =>
 C X 22 [a1] H_66 fun v128_68 H_69 =>
 C X 21 [v126_65, v128_68] H_69 fun v129_70 H_71 =>
 Br v129_70
 (C X 17 [a0] H_71 fun v133_75 H_76 =>
 Ok (nilCheck a1) fun v135_78 =>
 FA v135_78 4 fun v136_79 =>
 Ld1 X H_76 v136_79 fun v137_80 =>
 Ok (bin X .eql 3 v133_75 v137_80) fun v138_81 =>
 (Ld1 X H_71 v136_79 fun v137_84 =>
 veq 3 v137_84 v137_80 = true) ∧
 (Ld1 X H_76 v136_79 fun v137_85 =>
 veq 3 v137_85 v137_80 = true) ∧
 Q v138_81 H_76)
 ((veq 3 undef undef = true) ∧
 (veq 3 undef undef = true) ∧
 Q (.bool false) H_71))
 ((veq 3 undef undef = true) ∧
 (veq 3 undef undef = true) ∧
 Q (.bool false) H_31))) →
 P_25 [x14_26] H_27) →
 P_25 [(.int .i64 0)] H_17)
 (∀ P_95 : List Value → Heap → Prop, (∀ x14_96 : Value, ∀ H_97,
 (Ok2 (builtin X H_97 .len [34] [x7_9]) fun v101_100 H_101 =>
 Ok (bin X .lss 3 x14_96 v101_100) fun v102_102 =>
 Br v102_102
 (∀ P_104 : List Value → Heap → Prop, (∀ x15_105 : Value, ∀ H_106,
 (IA x7_9 x14_96 1 fun v108_110 =>
 Ld1 X H_106 v108_110 fun v109_111 =>
 Ok2 (builtin X H_106 .len [29] [v109_111]) fun v110_112 H_113 =>
 Ok (bin X .lss 3 x15_105 v110_112) fun v111_114 =>
 Br v111_114
 (IA x7_9 x14_96 1 fun v116_117 =>
 Ld1 X H_113 v116_117 fun v117_118 =>
 IA v117_118 x15_105 1 fun v119_120 =>
 Ld1 X H_113 v119_120 fun v120_121 =>
 Ok (bin X .xor 5 v120_121 (.int .u8 1)) fun v121_122 =>
 IA v117_118 x15_105 1 fun v122_123 =>
 St H_113 v122_123 1 v121_122 fun H_125 =>
 Ok (bin X .add 3 x15_105 (.int .i64 1)) fun v113_127 =>
 P_104 [v113_127] H_125)
 (Ok (bin X .add 3 x14_96 (.int .i64 1)) fun v104_130 =>
 P_95 [v104_130] H_113)) →
 P_104 [x15_105] H_106) →
 P_104 [(.int .i64 0)] H_101)
 ((veq 3 undef undef = true) ∧
 (veq 3 undef undef = true) ∧
 Q (.bool false) H_101)) →
 P_95 [x14_96] H_97) →
 P_95 [(.int .i64 0)] H_17)) →
 P_8 [x7_9, x8_10, x9_11, x10_12] H_13) →
 FA v5_1 0 fun v16_138 =>
 Ld1 X H_2 v16_138 fun v17_139 =>
 Ok (bin X .eql 3 v17_139 (.int .i64 0)) fun v33_140 =>
 Br v33_140
 (Ok2 (buildSlice X H_2 29 0 []) fun v34_142 H_143 =>
 FA v5_1 2 fun v35_144 =>
 Ld1 X H_143 v35_144 fun v36_145 =>
 Ok2 (builtin X H_143 .append [29, 29] [v34_142, v36_145]) fun v37_146 H_147 =>
 FA v5_1 1 fun v40_150 =>
 Ld1 X H_147 v40_150 fun v41_151 =>
 FA v5_1 8 fun v43_153 =>
 Ld1 X H_147 v43_153 fun v44_154 =>
 C X 10 [a0, v41_151, v37_146, v44_154] H_147 fun v45_155 H_156 =>
 Ok (extract v45_155 0) fun v46_158 =>
 Ok (extract v45_155 1) fun v47_159 =>
 FA v5_1 1 fun v50_163 =>
 Ld1 X H_156 v50_163 fun v51_164 =>
 FA v5_1 2 fun v52_165 =>
 Ld1 X H_156 v52_165 fun v53_166 =>
 FA v5_1 8 fun v54_167 =>
 Ld1 X H_156 v54_167 fun v55_168 =>
 C X 34 [a1, v51_164, v53_166, v55_168] H_156 fun v56_169 H_170 =>
 Ok (extract v56_169 0) fun v57_172 =>
 Ok (extract v56_169 1) fun v58_173 =>
 ∀ P_177 : List Value → Heap → Prop, (∀ x12_178 : Value, ∀ H_179,
 (Ok2 (builtin X H_179 .len [29] [v37_146]) fun v61_182 H_183 =>
 Ok (bin X .lss 3 x12_178 v61_182) fun v62_184 =>
 Br v62_184
 (IA v37_146 x12_178 1 fun v67_187 =>
 Ld1 X H_183 v67_187 fun v68_188 =>
 Ok (bin X .xor 5 v68_188 (.int .u8 1)) fun v69_189 =>
 IA v37_146 x12_178 1 fun v70_190 =>
 St H_183 v70_190 1 v69_189 fun H_192 =>
 Ok (bin X .add 3 x12_178 (.int .i64 1)) fun v64_194 =>
 P_177 [v64_194] H_192)
 (P_8 [v46_158, v57_172, v47_159, v58_173] H_183)) →
 P_177 [x12_178] H_179) →
 P_177 [(.int .i64 0)] H_170)
 (Ok (bin X .eql 3 v17_139 (.int .i64 1)) fun v72_196 =>
 Br v72_196
 (FA v5_1 3 fun v75_199 =>
 LdN X H_2 v75_199 5 fun v76_200 =>
 FA v5_1 8 fun v77_201 =>
 Ld1 X H_2 v77_201 fun v78_202 =>
 C X 11 [a0, v76_200, v78_202] H_2 fun v79_203 H_204 =>
 Ok (extract v79_203 0) fun v80_206 =>
 Ok (extract v79_203 1) fun v81_207 =>
 FA v5_1 3 fun v84_211 =>
 LdN X H_204 v84_211 5 fun v85_212 =>
 FA v5_1 8 fun v86_213 =>
 Ld1 X H_204 v86_213 fun v87_214 =>
 C X 35 [a1, v85_212, v87_214] H_204 fun v88_215 H_216 =>
 Ok (extract v88_215 0) fun v89_218 =>
 Ok (extract v88_215 1) fun v90_219 =>
 P_8 [v80_206, v89_218, v81_207, v90_219] H_216)
 (FA v5_1 8 fun v20_223 =>
 Ld1 X H_2 v20_223 fun v21_224 =>
 C X 12 [a0, v21_224] H_2 fun v22_225 H_226 =>
 Ok (extract v22_225 0) fun v23_228 =>
 Ok (extract v22_225 1) fun v24_229 =>
 FA v5_1 8 fun v27_233 =>
 Ld1 X H_226 v27_233 fun v28_234 =>
 C X 36 [a1, v28_234] H_226 fun v29_235 H_236 =>
 Ok (extract v29_235 0) fun v30_238 =>
 Ok (extract v29_235 1) fun v31_239 =>
 P_8 [v23_228, v30_238, v24_229, v31_239] H_236))

set_option maxRecDepth 100000 in
theorem w20_eq : (fun (ext : Nat → Nat → Option Value) (spec : FuncId → Option (List Value → Heap → Option (Value × Heap))) (a0 a1 a2 : Value) (H : Heap) (Q : Value → Heap → Prop) => w20 (Tab.ctx ext spec) a0 a1 a2 H Q) =
  fun ext spec a0 a1 a2 H Q => wpF (Tab.ctx ext spec) (fun i => cond (Nat.beq i 12) (some [12]) (cond (Nat.beq i 20) (some [14]) (cond (Nat.beq i 23) (some [15]) (none)))) (fun i => cond (Nat.beq i 18) (some [7, 8, 9, 10]) (none)) 20 [a0, a1, a2] H Q := by kernel_rfl

theorem w20_ok {ext : Nat → Nat → Option Value} {spec : FuncId → Option (List Value → Heap → Option (Value × Heap))} {a0 a1 a2 : Value} {H : Heap} {Q : Value → Heap → Prop} (hs : spec 20 = none) (h : w20 (Tab.ctx ext spec) a0 a1 a2 H Q) : C (Tab.ctx ext spec) 20 [a0, a1, a2] H Q :=
  C_of hs (Eq.mp (congrFun (congrFun (congrFun (congrFun (congrFun (congrFun (congrFun w20_eq ext) spec) a0) a1) a2) H) Q) h)

/-- trunkline/trunklinelaw09.table -/
def w21 (X : Ctx) (a0 a1 : Value) (H : Heap) (Q : Value → Heap → Prop) : Prop :=
 Ok2 (builtin X H .len [39] [a0]) fun v7_3 H_4 =>
 Ok2 (builtin X H_4 .len [39] [a1]) fun v9_6 H_7 =>
 Ok (bin X .neq 3 v7_3 v9_6) fun v10_8 =>
 Br v10_8
 (Q (.bool false) H_7)
 (∀ P_11 : List Value → Heap → Prop, (∀ x5_12 : Value, ∀ H_13,
 (Ok2 (builtin X H_13 .len [39] [a0]) fun v13_16 H_17 =>
 Ok (bin X .lss 3 x5_12 v13_16) fun v14_18 =>
 Br v14_18
 (IA a0 x5_12 4 fun v19_21 =>
 LdN X H_17 v19_21 4 fun v20_22 =>
 IA a1 x5_12 4 fun v23_25 =>
 LdN X H_17 v23_25 4 fun v24_26 =>
 Ok (bin X .neq 42 v20_22 v24_26) fun v25_27 =>
 Br v25_27
 (Q (.bool false) H_17)
 (Ok (bin X .add 3 x5_12 (.int .i64 1)) fun v16_30 =>
 P_11 [v16_30] H_17))
 (Q (.bool true) H_17)) →
 P_11 [x5_12] H_13) →
 P_11 [(.int .i64 0)] H_7)

set_option maxRecDepth 100000 in
theorem w21_eq : (fun (ext : Nat → Nat → Option Value) (spec : FuncId → Option (List Value → Heap → Option (Value × Heap))) (a0 a1 : Value) (H : Heap) (Q : Value → Heap → Prop) => w21 (Tab.ctx ext spec) a0 a1 H Q) =
  fun ext spec a0 a1 H Q => wpF (Tab.ctx ext spec) (fun i => cond (Nat.beq i 5) (some [5]) (none)) (fun i => none) 21 [a0, a1] H Q := by kernel_rfl

theorem w21_ok {ext : Nat → Nat → Option Value} {spec : FuncId → Option (List Value → Heap → Option (Value × Heap))} {a0 a1 : Value} {H : Heap} {Q : Value → Heap → Prop} (hs : spec 21 = none) (h : w21 (Tab.ctx ext spec) a0 a1 H Q) : C (Tab.ctx ext spec) 21 [a0, a1] H Q :=
  C_of hs (Eq.mp (congrFun (congrFun (congrFun (congrFun (congrFun (congrFun w21_eq ext) spec) a0) a1) H) Q) h)

/-- (*trunkline/trunklineref09.Cache).Table -/
def w22 (X : Ctx) (a0 : Value) (H : Heap) (Q : Value → Heap → Prop) : Prop :=
 Ok (bin X .eql 45 a0 (.pointer none)) fun v6_3 =>
 Br v6_3
 (Q (.slice none 0 0) H)
 (Ok2 (buildSlice X H 39 0 []) fun v7_5 H_6 =>
 ∀ P_9 : List Value → Heap → Prop, (∀ x3_10 x4_11 : Value, ∀ H_12,
 (Ok (nilCheck a0) fun v10_15 =>
 FA v10_15 3 fun v11_16 =>
 Ld1 X H_12 v11_16 fun v12_17 =>
 Ok2 (builtin X H_12 .len [57] [v12_17]) fun v13_18 H_19 =>
 Ok (bin X .lss 3 x4_11 v13_18) fun v14_20 =>
 Br v14_20
 (Ok (nilCheck a0) fun v19_23 =>
 FA v19_23 3 fun v20_24 =>
 Ld1 X H_19 v20_24 fun v21_25 =>
 IA v21_25 x4_11 6 fun v23_27 =>
 FA v23_27 0 fun v24_28 =>
 Ld1 X H_19 v24_28 fun v25_29 =>
 Ok (nilCheck a0) fun v27_31 =>
 FA v27_31 3 fun v28_32 =>
 Ld1 X H_19 v28_32 fun v29_33 =>
 IA v29_33 x4_11 6 fun v31_35 =>
 FA v31_35 2 fun v32_36 =>
 Ld1 X H_19 v32_36 fun v33_37 =>
 Ok (nilCheck a0) fun v35_39 =>
 FA v35_39 3 fun v36_40 =>
 Ld1 X H_19 v36_40 fun v37_41 =>
 IA v37_41 x4_11 6 fun v39_43 =>
 FA v39_43 1 fun v40_44 =>
 Ld1 X H_19 v40_44 fun v41_45 =>
 Ok (nilCheck a0) fun v43_47 =>
 FA v43_47 3 fun v44_48 =>
 Ld1 X H_19 v44_48 fun v45_49 =>
 IA v45_49 x4_11 6 fun v47_51 =>
 FA v47_51 5 fun v48_52 =>
 Ld1 X H_19 v48_52 fun v49_53 =>
 Ok2 (builtin X H_19 .len [34] [v49_53]) fun v50_54 H_55 =>
 Ok (build X 42 [(0, v25_29), (1, v33_37), (2, v41_45), (3, v50_54)]) fun v51_56 =>
 Ok2 (buildSlice X H_55 39 1 [(0, v51_56)]) fun v52_57 H_58 =>
 Ok2 (builtin X H_58 .append [39, 39] [x3_10, v52_57]) fun v53_59 H_60 =>
 Ok (bin X .add 3 x4_11 (.int .i64 1)) fun v16_63 =>
 P_9 [v53_59, v16_63] H_60)
 (Q x3_10 H_19)) →
 P_9 [x3_10, x4_11] H_12) →
 P_9 [v7_5, (.int .i64 0)] H_6)

set_option maxRecDepth 100000 in
theorem w22_eq : (fun (ext : Nat → Nat → Option Value) (spec : FuncId → Option (List Value → Heap → Option (Value × Heap))) (a0 : Value) (H : Heap) (Q : Value → Heap → Prop) => w22 (Tab.ctx ext spec) a0 H Q) =
  fun ext spec a0 H Q => wpF (Tab.ctx ext spec) (fun i => cond (Nat.beq i 6) (some [3, 4]) (none)) (fun i => none) 22 [a0] H Q := by kernel_rfl

theorem w22_ok {ext : Nat → Nat → Option Value} {spec : FuncId → Option (List Value → Heap → Option (Value × Heap))} {a0 : Value} {H : Heap} {Q : Value → Heap → Prop} (hs : spec 22 = none) (h : w22 (Tab.ctx ext spec) a0 H Q) : C (Tab.ctx ext spec) 22 [a0] H Q :=
  C_of hs (Eq.mp (congrFun (congrFun (congrFun (congrFun (congrFun w22_eq ext) spec) a0) H) Q) h)

/-- (*trunkline/arp.Cache).begin -/
def w23 (X : Ctx) (a0 a1 : Value) (H : Heap) (Q : Value → Heap → Prop) : Prop :=
 Ok (bin X .eql 24 a0 (.pointer none)) fun v7_3 =>
 Br v7_3
 (Q (.int .i64 1) H)
 (Ok (bin X .lss 3 a1 (.int .i64 0)) fun v10_7 =>
 Br v10_7
 (Q (.int .i64 2) H)
 (Ok (bin X .gtr 3 a1 (.int .i64 1099511627776)) fun v13_13 =>
 Br v13_13
 (Q (.int .i64 2) H)
 (Ok (nilCheck a0) fun v18_19 =>
 FA v18_19 2 fun v19_20 =>
 Ld1 X H v19_20 fun v20_21 =>
 Ok (bin X .lss 3 a1 v20_21) fun v21_22 =>
 Br v21_22
 (Q (.int .i64 18) H)
 (Ok (nilCheck a0) fun v24_27 =>
 FA v24_27 2 fun v25_28 =>
 St H v25_28 1 a1 fun H_30 =>
 Q (.int .i64 0) H_30))))

set_option maxRecDepth 100000 in
theorem w23_eq : (fun (ext : Nat → Nat → Option Value) (spec : FuncId → Option (List Value → Heap → Option (Value × Heap))) (a0 a1 : Value) (H : Heap) (Q : Value → Heap → Prop) => w23 (Tab.ctx ext spec) a0 a1 H Q) =
  fun ext spec a0 a1 H Q => wpF (Tab.ctx ext spec) (fun i => none) (fun i => none) 23 [a0, a1] H Q := by kernel_rfl

theorem w23_ok {ext : Nat → Nat → Option Value} {spec : FuncId → Option (List Value → Heap → Option (Value × Heap))} {a0 a1 : Value} {H : Heap} {Q : Value → Heap → Prop} (hs : spec 23 = none) (h : w23 (Tab.ctx ext spec) a0 a1 H Q) : C (Tab.ctx ext spec) 23 [a0, a1] H Q :=
  C_of hs (Eq.mp (congrFun (congrFun (congrFun (congrFun (congrFun (congrFun w23_eq ext) spec) a0) a1) H) Q) h)

/-- (*trunkline/arp.Cache).frame -/
def w24 (X : Ctx) (a0 a1 a2 : Value) (H : Heap) (Q : Value → Heap → Prop) : Prop :=
 Ok (nilCheck a0) fun v12_4 =>
 FA v12_4 0 fun v13_5 =>
 Ld1 X H v13_5 fun v14_6 =>
 Ok (build X 78 [(0, a1), (1, v14_6), (2, (.int .u16 2048)), (3, a2)]) fun v16_8 =>
 C X 38 [v16_8] H fun v17_9 H_10 =>
 Ok (extract v17_9 0) fun v18_12 =>
 Ok (extract v17_9 1) fun v19_13 =>
 Q v18_12 H_10

set_option maxRecDepth 100000 in
theorem w24_eq : (fun (ext : Nat → Nat → Option Value) (spec : FuncId → Option (List Value → Heap → Option (Value × Heap))) (a0 a1 a2 : Value) (H : Heap) (Q : Value → Heap → Prop) => w24 (Tab.ctx ext spec) a0 a1 a2 H Q) =
  fun ext spec a0 a1 a2 H Q => wpF (Tab.ctx ext spec) (fun i => none) (fun i => none) 24 [a0, a1, a2] H Q := by kernel_rfl

theorem w24_ok {ext : Nat → Nat → Option Value} {spec : FuncId → Option (List Value → Heap → Option (Value × Heap))} {a0 a1 a2 : Value} {H : Heap} {Q : Value → Heap → Prop} (hs : spec 24 = none) (h : w24 (Tab.ctx ext spec) a0 a1 a2 H Q) : C (Tab.ctx ext spec) 24 [a0, a1, a2] H Q :=
  C_of hs (Eq.mp (congrFun (congrFun (congrFun (congrFun (congrFun (congrFun (congrFun w24_eq ext) spec) a0) a1) a2) H) Q) h)

/-- (*trunkline/arp.Cache).room -/
def w25 (X : Ctx) (a0 : Value) (H : Heap) (Q : Value → Heap → Prop) : Prop :=
 Ok (nilCheck a0) fun v9_3 =>
 FA v9_3 3 fun v10_4 =>
 Ld1 X H v10_4 fun v11_5 =>
 Ok2 (builtin X H .len [62] [v11_5]) fun v12_6 H_7 =>
 Ok (bin X .lss 3 v12_6 (.int .i64 8)) fun v13_8 =>
 Br v13_8
 (Q (.bool true) H_7)
 (C X 30 [a0] H_7 fun v15_13 H_14 =>
 Ok2 (builtin X H_14 .len [74] [v15_13]) fun v16_15 H_16 =>
 ∀ P_18 : List Value → Heap → Prop, (∀ x3_19 x4_20 x17_21 : Value, ∀ H_22,
 (Ok (bin X .lss 3 x17_21 v16_15) fun v18_23 =>
 Br v18_23
 (IA v15_13 x17_21 1 fun v19_24 =>
 Ld1 X H_22 v19_24 fun v20_25 =>
 Ok (nilCheck a0) fun v22_28 =>
 FA v22_28 3 fun v23_29 =>
 Ld1 X H_22 v23_29 fun v24_30 =>
 Ok (lookup X H_22 62 v24_30 v20_25 false) fun v26_32 =>
 Al H_22 (.cells [.bool false, .int .u64 0, .int .i64 0, .int .i64 0, .slice none 0 0] 67) fun v7_33 H_34 =>
 St H_34 v7_33 5 v26_32 fun H_36 =>
 FA v7_33 0 fun v27_37 =>
 Ld1 X H_36 v27_37 fun v28_38 =>
 Br v28_38
 (Ok (un .not x4_20) fun v31_41 =>
 Br v31_41
 (Ok (bin X .add 3 x17_21 (.int .i64 1)) fun v46_48 =>
 P_18 [v20_25, (.bool true), v46_48] H_36)
 (FA v7_33 2 fun v33_50 =>
 Ld1 X H_36 v33_50 fun v34_51 =>
 Ok (nilCheck a0) fun v36_53 =>
 FA v36_53 3 fun v37_54 =>
 Ld1 X H_36 v37_54 fun v38_55 =>
 Ok (lookup X H_36 62 v38_55 x3_19 false) fun v40_57 =>
 Ok (field X 67 v40_57 2) fun v41_58 =>
 Ok (bin X .lss 3 v34_51 v41_58) fun v42_59 =>
 Br v42_59
 (Ok (bin X .add 3 x17_21 (.int .i64 1)) fun v46_65 =>
 P_18 [v20_25, (.bool true), v46_65] H_36)
 (Ok (bin X .add 3 x17_21 (.int .i64 1)) fun v46_67 =>
 P_18 [x3_19, x4_20, v46_67] H_36)))
 (Ok (bin X .add 3 x17_21 (.int .i64 1)) fun v46_70 =>
 P_18 [x3_19, x4_20, v46_70] H_36))
 (Br x4_20
 (Ok (nilCheck a0) fun v49_74 =>
 FA v49_74 3 fun v50_75 =>
 Ld1 X H_22 v50_75 fun v51_76 =>
 Ok2 (builtin X H_22 .delete [62, 22] [v51_76, x3_19]) fun u_78 H_79 =>
 Q x4_20 H_79)
 (Q x4_20 H_22))) →
 P_18 [x3_19, x4_20, x17_21] H_22) →
 P_18 [(.int .u32 0), (.bool false), (.int .i64 0)] H_16)

set_option maxRecDepth 100000 in
theorem w25_eq : (fun (ext : Nat → Nat → Option Value) (spec : FuncId → Option (List Value → Heap → Option (Value × Heap))) (a0 : Value) (H : Heap) (Q : Value → Heap → Prop) => w25 (Tab.ctx ext spec) a0 H Q) =
  fun ext spec a0 H Q => wpF (Tab.ctx ext spec) (fun i => cond (Nat.beq i 6) (some [3, 4, 17]) (none)) (fun i => none) 25 [a0] H Q := by kernel_rfl

theorem w25_ok {ext : Nat → Nat → Option Value} {spec : FuncId → Option (List Value → Heap → Option (Value × Heap))} {a0 : Value} {H : Heap} {Q : Value → Heap → Prop} (hs : spec 25 = none) (h : w25 (Tab.ctx ext spec) a0 H Q) : C (Tab.ctx ext spec) 25 [a0] H Q :=
  C_of hs (Eq.mp (congrFun (congrFun (congrFun (congrFun (congrFun w25_eq ext) spec) a0) H) Q) h)

/-- (*trunkline/arp.Cache).question -/
def w26 (X : Ctx) (a0 a1 : Value) (H : Heap) (Q : Value → Heap → Prop) : Prop :=
 C X 29 [a0, (.int .i64 1), (.int .u64 281474976710655), (.int .u64 0), a1] H fun v7_4 H_5 =>
 Q v7_4 H_5

set_option maxRecDepth 100000 in
theorem w26_eq : (fun (ext : Nat → Nat → Option Value) (spec : FuncId → Option (List Value → Heap → Option (Value × Heap))) (a0 a1 : Value) (H : Heap) (Q : Value → Heap → Prop) => w26 (Tab.ctx ext spec) a0 a1 H Q) =
  fun ext spec a0 a1 H Q => wpF (Tab.ctx ext spec) (fun i => none) (fun i => none) 26 [a0, a1] H Q := by kernel_rfl

theorem w26_ok {ext : Nat → Nat → Option Value} {spec : FuncId → Option (List Value → Heap → Option (Value × Heap))} {a0 a1 : Value} {H : Heap} {Q : Value → Heap → Prop} (hs : spec 26 = none) (h : w26 (Tab.ctx ext spec) a0 a1 H Q) : C (Tab.ctx ext spec) 26 [a0, a1] H Q :=
  C_of hs (Eq.mp (congrFun (congrFun (congrFun (congrFun (congrFun (congrFun w26_eq ext) spec) a0) a1) H) Q) h)

/-- slices.Clonebyte,byte -/
def w27 (X : Ctx) (a0 : Value) (H : Heap) (Q : Value → Heap → Prop) : Prop :=
 Ok (bin X .eql 34 a0 (.slice none 0 0)) fun v4_3 =>
 Br v4_3
 (Q (.slice none 0 0) H)
 (Ok2 (buildSlice X H 34 0 []) fun v5_5 H_6 =>
 Ok2 (builtin X H_6 .append [34, 34] [v5_5, a0]) fun v7_8 H_9 =>
 Q v7_8 H_9)

set_option maxRecDepth 100000 in
theorem w27_eq : (fun (ext : Nat → Nat → Option Value) (spec : FuncId → Option (List Value → Heap → Option (Value × Heap))) (a0 : Value) (H : Heap) (Q : Value → Heap → Prop) => w27 (Tab.ctx ext spec) a0 H Q) =
  fun ext spec a0 H Q => wpF (Tab.ctx ext spec) (fun i => none) (fun i => none) 27 [a0] H Q := by kernel_rfl

theorem w27_ok {ext : Nat → Nat → Option Value} {spec : FuncId → Option (List Value → Heap → Option (Value × Heap))} {a0 : Value} {H : Heap} {Q : Value → Heap → Prop} (hs : spec 27 = none) (h : w27 (Tab.ctx ext spec) a0 H Q) : C (Tab.ctx ext spec) 27 [a0] H Q :=
  C_of hs (Eq.mp (congrFun (congrFun (congrFun (congrFun (congrFun w27_eq ext) spec) a0) H) Q) h)

/-- slices.Clonebyte,byte -/
def w28 (X : Ctx) (a0 : Value) (H : Heap) (Q : Value → Heap → Prop) : Prop :=
 Ok (bin X .eql 29 a0 (.slice none 0 0)) fun v4_3 =>
 Br v4_3
 (Q (.slice none 0 0) H)
 (Ok2 (buildSlice X H 29 0 []) fun v5_5 H_6 =>
 Ok2 (builtin X H_6 .append [29, 29] [v5_5, a0]) fun v7_8 H_9 =>
 Q v7_8 H_9)

set_option maxRecDepth 100000 in
theorem w28_eq : (fun (ext : Nat → Nat → Option Value) (spec : FuncId → Option (List Value → Heap → Option (Value × Heap))) (a0 : Value) (H : Heap) (Q : Value → Heap → Prop) => w28 (Tab.ctx ext spec) a0 H Q) =
  fun ext spec a0 H Q => wpF (Tab.ctx ext spec) (fun i => none) (fun i => none) 28 [a0] H Q := by kernel_rfl

theorem w28_ok {ext : Nat → Nat → Option Value} {spec : FuncId → Option (List Value → Heap → Option (Value × Heap))} {a0 : Value} {H : Heap} {Q : Value → Heap → Prop} (hs : spec 28 = none) (h : w28 (Tab.ctx ext spec) a0 H Q) : C (Tab.ctx ext spec) 28 [a0] H Q :=
  C_of hs (Eq.mp (congrFun (congrFun (congrFun (congrFun (congrFun w28_eq ext) spec) a0) H) Q) h)

/-- (*trunkline/arp.Cache).arp -/
def w29 (X : Ctx) (a0 a1 a2 a3 a4 : Value) (H : Heap) (Q : Value → Heap → Prop) : Prop :=
 Ok (nilCheck a0) fun v18_4 =>
 FA v18_4 0 fun v19_5 =>
 Ld1 X H v19_5 fun v20_6 =>
 Ok (nilCheck a0) fun v22_8 =>
 FA v22_8 1 fun v23_9 =>
 Ld1 X H v23_9 fun v24_10 =>
 Ok (build X 31 [(0, a1), (1, v20_6), (2, v24_10), (3, a3), (4, a4)]) fun v27_13 =>
 C X 39 [v27_13] H fun v28_14 H_15 =>
 Ok (extract v28_14 0) fun v29_17 =>
 Ok (extract v28_14 1) fun v30_18 =>
 Ok (nilCheck a0) fun v34_23 =>
 FA v34_23 0 fun v35_24 =>
 Ld1 X H_15 v35_24 fun v36_25 =>
 Ok (build X 78 [(0, a2), (1, v36_25), (2, (.int .u16 2054)), (3, v29_17)]) fun v38_27 =>
 C X 38 [v38_27] H_15 fun v39_28 H_29 =>
 Ok (extract v39_28 0) fun v40_31 =>
 Ok (extract v39_28 1) fun v41_32 =>
 Q v40_31 H_29

set_option maxRecDepth 100000 in
theorem w29_eq : (fun (ext : Nat → Nat → Option Value) (spec : FuncId → Option (List Value → Heap → Option (Value × Heap))) (a0 a1 a2 a3 a4 : Value) (H : Heap) (Q : Value → Heap → Prop) => w29 (Tab.ctx ext spec) a0 a1 a2 a3 a4 H Q) =
  fun ext spec a0 a1 a2 a3 a4 H Q => wpF (Tab.ctx ext spec) (fun i => none) (fun i => none) 29 [a0, a1, a2, a3, a4] H Q := by kernel_rfl

theorem w29_ok {ext : Nat → Nat → Option Value} {spec : FuncId → Option (List Value → Heap → Option (Value × Heap))} {a0 a1 a2 a3 a4 : Value} {H : Heap} {Q : Value → Heap → Prop} (hs : spec 29 = none) (h : w29 (Tab.ctx ext spec) a0 a1 a2 a3 a4 H Q) : C (Tab.ctx ext spec) 29 [a0, a1, a2, a3, a4] H Q :=
  C_of hs (Eq.mp (congrFun (congrFun (congrFun (congrFun (congrFun (congrFun (congrFun (congrFun (congrFun w29_eq ext) spec) a0) a1) a2) a3) a4) H) Q) h)

/-- (*trunkline/arp.Cache).sorted -/
def w30 (X : Ctx) (a0 : Value) (H : Heap) (Q : Value → Heap → Prop) : Prop :=
 Ok (nilCheck a0) fun v4_3 =>
 FA v4_3 3 fun v5_4 =>
 Ld1 X H v5_4 fun v6_5 =>
 C X 41 [v6_5] H fun v7_6 H_7 =>
 C X 40 [v7_6] H_7 fun v8_8 H_9 =>
 Q v8_8 H_9

set_option maxRecDepth 100000 in
theorem w30_eq : (fun (ext : Nat → Nat → Option Value) (spec : FuncId → Option (List Value → Heap → Option (Value × Heap))) (a0 : Value) (H : Heap) (Q : Value → Heap → Prop) => w30 (Tab.ctx ext spec) a0 H Q) =
  fun ext spec a0 H Q => wpF (Tab.ctx ext spec) (fun i => none) (fun i => none) 30 [a0] H Q := by kernel_rfl

theorem w30_ok {ext : Nat → Nat → Option Value} {spec : FuncId → Option (List Value → Heap → Option (Value × Heap))} {a0 : Value} {H : Heap} {Q : Value → Heap → Prop} (hs : spec 30 = none) (h : w30 (Tab.ctx ext spec) a0 H Q) : C (Tab.ctx ext spec) 30 [a0] H Q :=
  C_of hs (Eq.mp (congrFun (congrFun (congrFun (congrFun (congrFun w30_eq ext) spec) a0) H) Q) h)

/-- trunkline/ether.Take -/
def w31 (X : Ctx) (a0 : Value) (H : Heap) (Q : Value → Heap → Prop) : Prop :=
 Al H (.cells [.int .u64 0, .int .u64 0, .int .u16 0, .slice none 0 0] 78) fun v2_1 H_2 =>
 Ok2 (builtin X H_2 .len [29] [a0]) fun v8_5 H_6 =>
 Ok (bin X .lss 3 v8_5 (.int .i64 14)) fun v9_7 =>
 Br v9_7
 (Ok (build X 78 []) fun v10_9 =>
 St H_6 v2_1 4 v10_9 fun H_11 =>
 Ok (load X H_11 78 v2_1) fun r_13 =>
 Q (.tuple #[r_13, (.int .i64 3)]) H_11)
 (Ok2 (builtin X H_6 .len [29] [a0]) fun v13_15 H_16 =>
 Ok (bin X .gtr 3 v13_15 (.int .i64 1514)) fun v14_17 =>
 Br v14_17
 (Ok (build X 78 []) fun v15_19 =>
 St H_16 v2_1 4 v15_19 fun H_21 =>
 Ok (load X H_21 78 v2_1) fun r_23 =>
 Q (.tuple #[r_23, (.int .i64 6)]) H_21)
 (C X 42 [a0, (.int .i64 0)] H_16 fun v17_25 H_26 =>
 CV X v17_25 [(.int .i64 6)] H_26 fun v19_29 H_30 =>
 CV X v17_25 [(.int .i64 6)] H_30 fun v21_32 H_33 =>
 CV X v17_25 [(.int .i64 2)] H_33 fun v23_35 H_36 =>
 Ok2 (conv X H_36 28 76 v23_35) fun v24_37 H_38 =>
 Ok (slice X 29 a0 (some (.int .i64 14)) none none) fun v26_40 =>
 C X 28 [v26_40] H_38 fun v27_41 H_42 =>
 Ok (build X 78 [(0, v19_29), (1, v21_32), (2, v24_37), (3, v27_41)]) fun v28_43 =>
 Al H_42 (.cells [.int .u64 0, .int .u64 0, .int .u16 0, .slice none 0 0] 78) fun v5_44 H_45 =>
 St H_45 v5_44 4 v28_43 fun H_47 =>
 FA v5_44 2 fun v29_48 =>
 Ld1 X H_47 v29_48 fun v30_49 =>
 Ok (bin X .lss 76 v30_49 (.int .u16 1536)) fun v31_50 =>
 Br v31_50
 (Ok (build X 78 []) fun v32_51 =>
 St H_47 v2_1 4 v32_51 fun H_53 =>
 Ok (load X H_53 78 v2_1) fun r_55 =>
 Q (.tuple #[r_55, (.int .i64 4)]) H_53)
 (LdN X H_47 v5_44 4 fun v33_56 =>
 St H_47 v2_1 4 v33_56 fun H_58 =>
 Ok (load X H_58 78 v2_1) fun r_60 =>
 Q (.tuple #[r_60, (.int .i64 0)]) H_58)))

set_option maxRecDepth 100000 in
theorem w31_eq : (fun (ext : Nat → Nat → Option Value) (spec : FuncId → Option (List Value → Heap → Option (Value × Heap))) (a0 : Value) (H : Heap) (Q : Value → Heap → Prop) => w31 (Tab.ctx ext spec) a0 H Q) =
  fun ext spec a0 H Q => wpF (Tab.ctx ext spec) (fun i => none) (fun i => none) 31 [a0] H Q := by kernel_rfl

theorem w31_ok {ext : Nat → Nat → Option Value} {spec : FuncId → Option (List Value → Heap → Option (Value × Heap))} {a0 : Value} {H : Heap} {Q : Value → Heap → Prop} (hs : spec 31 = none) (h : w31 (Tab.ctx ext spec) a0 H Q) : C (Tab.ctx ext spec) 31 [a0] H Q :=
  C_of hs (Eq.mp (congrFun (congrFun (congrFun (congrFun (congrFun w31_eq ext) spec) a0) H) Q) h)

/-- trunkline/trunklineref09.New -/
def w32 (X : Ctx) (a0 a1 : Value) (H : Heap) (Q : Value → Heap → Prop) : Prop :=
 Ok (bin X .geq 28 a0 (.int .u64 281474976710655)) fun v7_4 =>
 Br v7_4
 (Q (.tuple #[(.pointer none), (.int .i64 2)]) H)
 (Ok (build X 59 [(0, a0), (1, a1)]) fun v10_9 =>
 Al H (.cells (cellsOf v10_9) 59) fun v11_10 H_11 =>
 Q (.tuple #[v11_10, (.int .i64 0)]) H_11)

set_option maxRecDepth 100000 in
theorem w32_eq : (fun (ext : Nat → Nat → Option Value) (spec : FuncId → Option (List Value → Heap → Option (Value × Heap))) (a0 a1 : Value) (H : Heap) (Q : Value → Heap → Prop) => w32 (Tab.ctx ext spec) a0 a1 H Q) =
  fun ext spec a0 a1 H Q => wpF (Tab.ctx ext spec) (fun i => none) (fun i => none) 32 [a0, a1] H Q := by kernel_rfl

theorem w32_ok {ext : Nat → Nat → Option Value} {spec : FuncId → Option (List Value → Heap → Option (Value × Heap))} {a0 a1 : Value} {H : Heap} {Q : Value → Heap → Prop} (hs : spec 32 = none) (h : w32 (Tab.ctx ext spec) a0 a1 H Q) : C (Tab.ctx ext spec) 32 [a0, a1] H Q :=
  C_of hs (Eq.mp (congrFun (congrFun (congrFun (congrFun (congrFun (congrFun w32_eq ext) spec) a0) a1) H) Q) h)

/-- (*trunkline/trunklineref09.Cache).Send -/
def w34 (X : Ctx) (a0 a1 a2 a3 : Value) (H : Heap) (Q : Value → Heap → Prop) : Prop :=
 C X 44 [a0, a3] H fun v16_5 H_6 =>
 Ok (bin X .neq 25 v16_5 (.int .i64 0)) fun v18_9 =>
 Br v18_9
 (Q (.tuple #[(.slice none 0 0), v16_5]) H_6)
 (Ok2 (builtin X H_6 .len [29] [a2]) fun v21_14 H_15 =>
 Ok (bin X .lss 3 v21_14 (.int .i64 1)) fun v22_16 =>
 Br v22_16
 (Q (.tuple #[(.slice none 0 0), (.int .i64 6)]) H_15)
 (Ok2 (builtin X H_15 .len [29] [a2]) fun v25_22 H_23 =>
 Ok (bin X .gtr 3 v25_22 (.int .i64 1500)) fun v26_24 =>
 Br v26_24
 (Q (.tuple #[(.slice none 0 0), (.int .i64 6)]) H_23)
 (C X 45 [a0, a1] H_23 fun v31_30 H_31 =>
 Ok (extract v31_30 0) fun v32_33 =>
 Ok (extract v31_30 1) fun v33_34 =>
 Br v33_34
 (Ok (nilCheck a0) fun v37_40 =>
 FA v37_40 3 fun v38_41 =>
 Ld1 X H_31 v38_41 fun v39_42 =>
 IA v39_42 v32_33 6 fun v41_44 =>
 FA v41_44 1 fun v42_45 =>
 Ld1 X H_31 v42_45 fun v43_46 =>
 Br v43_46
 (Ok (nilCheck a0) fun v47_50 =>
 FA v47_50 3 fun v48_51 =>
 Ld1 X H_31 v48_51 fun v49_52 =>
 IA v49_52 v32_33 6 fun v51_54 =>
 FA v51_54 2 fun v52_55 =>
 Ld1 X H_31 v52_55 fun v53_56 =>
 C X 46 [a0, v53_56, a2] H_31 fun v55_58 H_59 =>
 Ok2 (buildSlice X H_59 34 1 [(0, v55_58)]) fun v56_60 H_61 =>
 Q (.tuple #[v56_60, (.int .i64 0)]) H_61)
 (Br v33_34
 (Ok (nilCheck a0) fun v59_66 =>
 FA v59_66 3 fun v60_67 =>
 Ld1 X H_31 v60_67 fun v61_68 =>
 IA v61_68 v32_33 6 fun v63_70 =>
 FA v63_70 5 fun v64_71 =>
 Ld1 X H_31 v64_71 fun v65_72 =>
 Ok2 (builtin X H_31 .len [34] [v65_72]) fun v66_73 H_74 =>
 Ok (bin X .geq 3 v66_73 (.int .i64 4)) fun v67_75 =>
 Br v67_75
 (Ok (nilCheck a0) fun v69_77 =>
 FA v69_77 4 fun v70_78 =>
 Ld1 X H_74 v70_78 fun v71_79 =>
 Ok (bin X .add 3 v71_79 (.int .i64 1)) fun v72_80 =>
 Ok (nilCheck a0) fun v73_81 =>
 FA v73_81 4 fun v74_82 =>
 St H_74 v74_82 1 v72_80 fun H_84 =>
 Q (.tuple #[(.slice none 0 0), (.int .i64 10)]) H_84)
 (Ok (nilCheck a0) fun v76_88 =>
 FA v76_88 3 fun v77_89 =>
 Ld1 X H_74 v77_89 fun v78_90 =>
 IA v78_90 v32_33 6 fun v80_92 =>
 LdN X H_74 v80_92 6 fun v81_93 =>
 Al H_74 (.cells [.int .u32 0, .bool false, .int .u64 0, .int .i64 0, .int .i64 0, .slice none 0 0] 86) fun v13_94 H_95 =>
 St H_95 v13_94 6 v81_93 fun H_97 =>
 Ok2 (buildSlice X H_97 34 0 []) fun v82_98 H_99 =>
 FA v13_94 5 fun v83_100 =>
 Ld1 X H_99 v83_100 fun v84_101 =>
 Ok2 (builtin X H_99 .append [34, 34] [v82_98, v84_101]) fun v85_102 H_103 =>
 Ok2 (buildSlice X H_103 29 0 []) fun v86_104 H_105 =>
 Ok2 (builtin X H_105 .append [29, 29] [v86_104, a2]) fun v88_107 H_108 =>
 Ok2 (buildSlice X H_108 34 1 [(0, v88_107)]) fun v89_109 H_110 =>
 Ok2 (builtin X H_110 .append [34, 34] [v85_102, v89_109]) fun v90_111 H_112 =>
 FA v13_94 5 fun v91_113 =>
 St H_112 v91_113 1 v90_111 fun H_115 =>
 LdN X H_115 v13_94 6 fun v93_117 =>
 C X 47 [a0, v93_117] H_115 fun v94_118 H_119 =>
 Q (.tuple #[(.slice none 0 0), (.int .i64 0)]) H_119))
 (C X 48 [a0] H_31 fun v96_123 H_124 =>
 Ok (un .not v96_123) fun v97_125 =>
 Br v97_125
 (Ok (nilCheck a0) fun v99_127 =>
 FA v99_127 4 fun v100_128 =>
 Ld1 X H_124 v100_128 fun v101_129 =>
 Ok (bin X .add 3 v101_129 (.int .i64 1)) fun v102_130 =>
 Ok (nilCheck a0) fun v103_131 =>
 FA v103_131 4 fun v104_132 =>
 St H_124 v104_132 1 v102_130 fun H_134 =>
 Q (.tuple #[(.slice none 0 0), (.int .i64 10)]) H_134)
 (Ok2 (buildSlice X H_124 29 0 []) fun v108_140 H_141 =>
 Ok2 (builtin X H_141 .append [29, 29] [v108_140, a2]) fun v110_143 H_144 =>
 Ok2 (buildSlice X H_144 34 1 [(0, v110_143)]) fun v111_145 H_146 =>
 Ok (build X 86 [(0, a1), (3, a3), (4, (.int .i64 1)), (5, v111_145)]) fun v112_147 =>
 C X 47 [a0, v112_147] H_146 fun v113_148 H_149 =>
 C X 49 [a0, (.int .i64 1), (.int .u64 281474976710655), (.int .u64 0), a1] H_149 fun v116_152 H_153 =>
 Ok2 (buildSlice X H_153 34 1 [(0, v116_152)]) fun v117_154 H_155 =>
 Q (.tuple #[v117_154, (.int .i64 0)]) H_155))))
 (Br v33_34
 (Ok (nilCheck a0) fun v59_161 =>
 FA v59_161 3 fun v60_162 =>
 Ld1 X H_31 v60_162 fun v61_163 =>
 IA v61_163 v32_33 6 fun v63_165 =>
 FA v63_165 5 fun v64_166 =>
 Ld1 X H_31 v64_166 fun v65_167 =>
 Ok2 (builtin X H_31 .len [34] [v65_167]) fun v66_168 H_169 =>
 Ok (bin X .geq 3 v66_168 (.int .i64 4)) fun v67_170 =>
 Br v67_170
 (Ok (nilCheck a0) fun v69_172 =>
 FA v69_172 4 fun v70_173 =>
 Ld1 X H_169 v70_173 fun v71_174 =>
 Ok (bin X .add 3 v71_174 (.int .i64 1)) fun v72_175 =>
 Ok (nilCheck a0) fun v73_176 =>
 FA v73_176 4 fun v74_177 =>
 St H_169 v74_177 1 v72_175 fun H_179 =>
 Q (.tuple #[(.slice none 0 0), (.int .i64 10)]) H_179)
 (Ok (nilCheck a0) fun v76_183 =>
 FA v76_183 3 fun v77_184 =>
 Ld1 X H_169 v77_184 fun v78_185 =>
 IA v78_185 v32_33 6 fun v80_187 =>
 LdN X H_169 v80_187 6 fun v81_188 =>
 Al H_169 (.cells [.int .u32 0, .bool false, .int .u64 0, .int .i64 0, .int .i64 0, .slice none 0 0] 86) fun v13_189 H_190 =>
 St H_190 v13_189 6 v81_188 fun H_192 =>
 Ok2 (buildSlice X H_192 34 0 []) fun v82_193 H_194 =>
 FA v13_189 5 fun v83_195 =>
 Ld1 X H_194 v83_195 fun v84_196 =>
 Ok2 (builtin X H_194 .append [34, 34] [v82_193, v84_196]) fun v85_197 H_198 =>
 Ok2 (buildSlice X H_198 29 0 []) fun v86_199 H_200 =>
 Ok2 (builtin X H_200 .append [29, 29] [v86_199, a2]) fun v88_202 H_203 =>
 Ok2 (buildSlice X H_203 34 1 [(0, v88_202)]) fun v89_204 H_205 =>
 Ok2 (builtin X H_205 .append [34, 34] [v85_197, v89_204]) fun v90_206 H_207 =>
 FA v13_189 5 fun v91_208 =>
 St H_207 v91_208 1 v90_206 fun H_210 =>
 LdN X H_210 v13_189 6 fun v93_212 =>
 C X 47 [a0, v93_212] H_210 fun v94_213 H_214 =>
 Q (.tuple #[(.slice none 0 0), (.int .i64 0)]) H_214))
 (C X 48 [a0] H_31 fun v96_218 H_219 =>
 Ok (un .not v96_218) fun v97_220 =>
 Br v97_220
 (Ok (nilCheck a0) fun v99_222 =>
 FA v99_222 4 fun v100_223 =>
 Ld1 X H_219 v100_223 fun v101_224 =>
 Ok (bin X .add 3 v101_224 (.int .i64 1)) fun v102_225 =>
 Ok (nilCheck a0) fun v103_226 =>
 FA v103_226 4 fun v104_227 =>
 St H_219 v104_227 1 v102_225 fun H_229 =>
 Q (.tuple #[(.slice none 0 0), (.int .i64 10)]) H_229)
 (Ok2 (buildSlice X H_219 29 0 []) fun v108_235 H_236 =>
 Ok2 (builtin X H_236 .append [29, 29] [v108_235, a2]) fun v110_238 H_239 =>
 Ok2 (buildSlice X H_239 34 1 [(0, v110_238)]) fun v111_240 H_241 =>
 Ok (build X 86 [(0, a1), (3, a3), (4, (.int .i64 1)), (5, v111_240)]) fun v112_242 =>
 C X 47 [a0, v112_242] H_241 fun v113_243 H_244 =>
 C X 49 [a0, (.int .i64 1), (.int .u64 281474976710655), (.int .u64 0), a1] H_244 fun v116_247 H_248 =>
 Ok2 (buildSlice X H_248 34 1 [(0, v116_247)]) fun v117_249 H_250 =>
 Q (.tuple #[v117_249, (.int .i64 0)]) H_250))))))

set_option maxRecDepth 100000 in
theorem w34_eq : (fun (ext : Nat → Nat → Option Value) (spec : FuncId → Option (List Value → Heap → Option (Value × Heap))) (a0 a1 a2 a3 : Value) (H : Heap) (Q : Value → Heap → Prop) => w34 (Tab.ctx ext spec) a0 a1 a2 a3 H Q) =
  fun ext spec a0 a1 a2 a3 H Q => wpF (Tab.ctx ext spec) (fun i => none) (fun i => none) 34 [a0, a1, a2, a3] H Q := by kernel_rfl

theorem w34_ok {ext : Nat → Nat → Option Value} {spec : FuncId → Option (List Value → Heap → Option (Value × Heap))} {a0 a1 a2 a3 : Value} {H : Heap} {Q : Value → Heap → Prop} (hs : spec 34 = none) (h : w34 (Tab.ctx ext spec) a0 a1 a2 a3 H Q) : C (Tab.ctx ext spec) 34 [a0, a1, a2, a3] H Q :=
  C_of hs (Eq.mp (congrFun (congrFun (congrFun (congrFun (congrFun (congrFun (congrFun (congrFun w34_eq ext) spec) a0) a1) a2) a3) H) Q) h)

/-- (*trunkline/trunklineref09.Cache).Take -/
def w35 (X : Ctx) (a0 a1 a2 : Value) (H : Heap) (Q : Value → Heap → Prop) : Prop :=
 Al H (.cells (cellsOf a1) 31) fun v4_1 H_2 =>
 C X 44 [a0, a2] H_2 fun v15_7 H_8 =>
 Ok (bin X .neq 25 v15_7 (.int .i64 0)) fun v17_11 =>
 Br v17_11
 (Q (.tuple #[(.slice none 0 0), v15_7]) H_8)
 (FA v4_1 2 fun v19_15 =>
 Ld1 X H_8 v19_15 fun v20_16 =>
 Ok (nilCheck a0) fun v22_18 =>
 FA v22_18 1 fun v23_19 =>
 Ld1 X H_8 v23_19 fun v24_20 =>
 Ok (bin X .eql 22 v20_16 v24_20) fun v25_21 =>
 Br v25_21
 (Q (.tuple #[(.slice none 0 0), (.int .i64 12)]) H_8)
 (FA v4_1 1 fun v27_26 =>
 Ld1 X H_8 v27_26 fun v28_27 =>
 Ok (bin X .geq 28 v28_27 (.int .u64 281474976710655)) fun v29_28 =>
 Br v29_28
 (Q (.tuple #[(.slice none 0 0), (.int .i64 12)]) H_8)
 (Ok2 (buildSlice X H_8 34 0 []) fun v31_32 H_33 =>
 FA v4_1 2 fun v34_36 =>
 Ld1 X H_33 v34_36 fun v35_37 =>
 C X 45 [a0, v35_37] H_33 fun v36_38 H_39 =>
 Ok (extract v36_38 0) fun v37_41 =>
 Ok (extract v36_38 1) fun v38_42 =>
 ∀ P_45 : List Value → Heap → Prop, (∀ x9_46 : Value, ∀ H_47,
 (∀ P_48 : List Value → Heap → Prop, (∀ H_49,
 (FA v4_1 0 fun v93_50 =>
 Ld1 X H_49 v93_50 fun v94_51 =>
 Ok (bin X .eql 3 v94_51 (.int .i64 1)) fun v95_52 =>
 Br v95_52
 (FA v4_1 4 fun v97_54 =>
 Ld1 X H_49 v97_54 fun v98_55 =>
 Ok (nilCheck a0) fun v100_57 =>
 FA v100_57 1 fun v101_58 =>
 Ld1 X H_49 v101_58 fun v102_59 =>
 Ok (bin X .eql 22 v98_55 v102_59) fun v103_60 =>
 Br v103_60
 (FA v4_1 1 fun v107_64 =>
 Ld1 X H_49 v107_64 fun v108_65 =>
 FA v4_1 1 fun v109_66 =>
 Ld1 X H_49 v109_66 fun v110_67 =>
 FA v4_1 2 fun v111_68 =>
 Ld1 X H_49 v111_68 fun v112_69 =>
 C X 49 [a0, (.int .i64 2), v108_65, v110_67, v112_69] H_49 fun v113_70 H_71 =>
 Ok2 (buildSlice X H_71 34 1 [(0, v113_70)]) fun v114_72 H_73 =>
 Ok2 (builtin X H_73 .append [34, 34] [x9_46, v114_72]) fun v115_74 H_75 =>
 Q (.tuple #[v115_74, (.int .i64 0)]) H_75)
 (Q (.tuple #[x9_46, (.int .i64 0)]) H_49))
 (Q (.tuple #[x9_46, (.int .i64 0)]) H_49)) →
 P_48 [] H_49) →
 Br v38_42
 (FA v4_1 2 fun v86_91 =>
 Ld1 X H_47 v86_91 fun v87_92 =>
 FA v4_1 1 fun v88_93 =>
 Ld1 X H_47 v88_93 fun v89_94 =>
 Ok (build X 86 [(0, v87_92), (1, (.bool true)), (2, v89_94), (3, a2)]) fun v91_96 =>
 C X 47 [a0, v91_96] H_47 fun v92_97 H_98 =>
 P_48 [] H_98)
 (FA v4_1 4 fun v73_99 =>
 Ld1 X H_47 v73_99 fun v74_100 =>
 Ok (nilCheck a0) fun v76_102 =>
 FA v76_102 1 fun v77_103 =>
 Ld1 X H_47 v77_103 fun v78_104 =>
 Ok (bin X .eql 22 v74_100 v78_104) fun v79_105 =>
 Br v79_105
 (C X 48 [a0] H_47 fun v82_108 H_109 =>
 Br v82_108
 (FA v4_1 2 fun v86_113 =>
 Ld1 X H_109 v86_113 fun v87_114 =>
 FA v4_1 1 fun v88_115 =>
 Ld1 X H_109 v88_115 fun v89_116 =>
 Ok (build X 86 [(0, v87_114), (1, (.bool true)), (2, v89_116), (3, a2)]) fun v91_118 =>
 C X 47 [a0, v91_118] H_109 fun v92_119 H_120 =>
 P_48 [] H_120)
 (P_48 [] H_109))
 (P_48 [] H_47))) →
 P_45 [x9_46] H_47) →
 Br v38_42
 (∀ P_125 : List Value → Heap → Prop, (∀ x9_126 x12_127 : Value, ∀ H_128,
 (Ok (nilCheck a0) fun v42_131 =>
 FA v42_131 3 fun v43_132 =>
 Ld1 X H_128 v43_132 fun v44_133 =>
 IA v44_133 v37_41 6 fun v46_135 =>
 FA v46_135 5 fun v47_136 =>
 Ld1 X H_128 v47_136 fun v48_137 =>
 Ok2 (builtin X H_128 .len [34] [v48_137]) fun v49_138 H_139 =>
 Ok (bin X .lss 3 x12_127 v49_138) fun v50_140 =>
 Br v50_140
 (FA v4_1 1 fun v55_143 =>
 Ld1 X H_139 v55_143 fun v56_144 =>
 Ok (nilCheck a0) fun v58_146 =>
 FA v58_146 3 fun v59_147 =>
 Ld1 X H_139 v59_147 fun v60_148 =>
 IA v60_148 v37_41 6 fun v62_150 =>
 FA v62_150 5 fun v63_151 =>
 Ld1 X H_139 v63_151 fun v64_152 =>
 IA v64_152 x12_127 1 fun v66_154 =>
 Ld1 X H_139 v66_154 fun v67_155 =>
 C X 46 [a0, v56_144, v67_155] H_139 fun v68_156 H_157 =>
 Ok2 (buildSlice X H_157 34 1 [(0, v68_156)]) fun v69_158 H_159 =>
 Ok2 (builtin X H_159 .append [34, 34] [x9_126, v69_158]) fun v70_160 H_161 =>
 Ok (bin X .add 3 x12_127 (.int .i64 1)) fun v52_164 =>
 P_125 [v70_160, v52_164] H_161)
 (P_45 [x9_126] H_139)) →
 P_125 [x9_126, x12_127] H_128) →
 P_125 [v31_32, (.int .i64 0)] H_39)
 (P_45 [v31_32] H_39))))

set_option maxRecDepth 100000 in
theorem w35_eq : (fun (ext : Nat → Nat → Option Value) (spec : FuncId → Option (List Value → Heap → Option (Value × Heap))) (a0 a1 a2 : Value) (H : Heap) (Q : Value → Heap → Prop) => w35 (Tab.ctx ext spec) a0 a1 a2 H Q) =
  fun ext spec a0 a1 a2 H Q => wpF (Tab.ctx ext spec) (fun i => cond (Nat.beq i 11) (some [9, 12]) (none)) (fun i => cond (Nat.beq i 14) (some [9]) (cond (Nat.beq i 16) (some []) (none))) 35 [a0, a1, a2] H Q := by kernel_rfl

theorem w35_ok {ext : Nat → Nat → Option Value} {spec : FuncId → Option (List Value → Heap → Option (Value × Heap))} {a0 a1 a2 : Value} {H : Heap} {Q : Value → Heap → Prop} (hs : spec 35 = none) (h : w35 (Tab.ctx ext spec) a0 a1 a2 H Q) : C (Tab.ctx ext spec) 35 [a0, a1, a2] H Q :=
  C_of hs (Eq.mp (congrFun (congrFun (congrFun (congrFun (congrFun (congrFun (congrFun w35_eq ext) spec) a0) a1) a2) H) Q) h)

/-- (*trunkline/trunklineref09.Cache).Tick -/
def w36 (X : Ctx) (a0 a1 : Value) (H : Heap) (Q : Value → Heap → Prop) : Prop :=
 C X 44 [a0, a1] H fun v14_5 H_6 =>
 Ok (bin X .neq 25 v14_5 (.int .i64 0)) fun v16_9 =>
 Br v16_9
 (Q (.tuple #[(.slice none 0 0), v14_5]) H_6)
 (Ok2 (buildSlice X H_6 34 0 []) fun v18_13 H_14 =>
 Ok (nilCheck a0) fun v20_17 =>
 FA v20_17 3 fun v21_18 =>
 Ld1 X H_14 v21_18 fun v22_19 =>
 Ok (nilCheck a0) fun v24_22 =>
 FA v24_22 3 fun v25_23 =>
 St H_14 v25_23 1 (.slice none 0 0) fun H_25 =>
 ∀ P_27 : List Value → Heap → Prop, (∀ x7_28 x9_29 : Value, ∀ H_30,
 (Ok2 (builtin X H_30 .len [57] [v22_19]) fun v28_33 H_34 =>
 Ok (bin X .lss 3 x9_29 v28_33) fun v29_35 =>
 Br v29_35
 (IA v22_19 x9_29 6 fun v34_38 =>
 LdN X H_34 v34_38 6 fun v35_39 =>
 Al H_34 (.cells [.int .u32 0, .bool false, .int .u64 0, .int .i64 0, .int .i64 0, .slice none 0 0] 86) fun v10_40 H_41 =>
 St H_41 v10_40 6 v35_39 fun H_43 =>
 FA v10_40 3 fun v37_45 =>
 Ld1 X H_43 v37_45 fun v38_46 =>
 Ok (bin X .sub 3 a1 v38_46) fun v39_47 =>
 FA v10_40 1 fun v40_49 =>
 Ld1 X H_43 v40_49 fun v41_50 =>
 Br v41_50
 (Ok (bin X .geq 3 v39_47 (.int .i64 600)) fun v44_53 =>
 Br v44_53
 (Ok (bin X .add 3 x9_29 (.int .i64 1)) fun v31_56 =>
 P_27 [x7_28, v31_56] H_43)
 (∀ P_58 : List Value → Heap → Prop, (∀ x7_59 : Value, ∀ H_60,
 (Ok (nilCheck a0) fun v82_63 =>
 FA v82_63 3 fun v83_64 =>
 Ld1 X H_60 v83_64 fun v84_65 =>
 LdN X H_60 v10_40 6 fun v85_66 =>
 Ok2 (buildSlice X H_60 57 1 [(0, v85_66)]) fun v86_67 H_68 =>
 Ok2 (builtin X H_68 .append [57, 57] [v84_65, v86_67]) fun v87_69 H_70 =>
 Ok (nilCheck a0) fun v88_71 =>
 FA v88_71 3 fun v89_72 =>
 St H_70 v89_72 1 v87_69 fun H_74 =>
 Ok (bin X .add 3 x9_29 (.int .i64 1)) fun v31_76 =>
 P_27 [x7_59, v31_76] H_74) →
 P_58 [x7_59] H_60) →
 FA v10_40 1 fun v46_78 =>
 Ld1 X H_43 v46_78 fun v47_79 =>
 Ok (un .not v47_79) fun v48_80 =>
 Br v48_80
 (Ok (bin X .geq 3 v39_47 (.int .i64 10)) fun v51_83 =>
 Br v51_83
 (FA v10_40 4 fun v53_85 =>
 Ld1 X H_43 v53_85 fun v54_86 =>
 Ok (bin X .geq 3 v54_86 (.int .i64 3)) fun v55_87 =>
 Br v55_87
 (Ok (nilCheck a0) fun v58_90 =>
 FA v58_90 4 fun v59_91 =>
 Ld1 X H_43 v59_91 fun v60_92 =>
 FA v10_40 5 fun v61_93 =>
 Ld1 X H_43 v61_93 fun v62_94 =>
 Ok2 (builtin X H_43 .len [34] [v62_94]) fun v63_95 H_96 =>
 Ok (bin X .add 3 v60_92 v63_95) fun v64_97 =>
 Ok (nilCheck a0) fun v65_98 =>
 FA v65_98 4 fun v66_99 =>
 St H_96 v66_99 1 v64_97 fun H_101 =>
 Ok (bin X .add 3 x9_29 (.int .i64 1)) fun v31_103 =>
 P_27 [x7_28, v31_103] H_101)
 (FA v10_40 3 fun v68_106 =>
 St H_43 v68_106 1 a1 fun H_108 =>
 FA v10_40 4 fun v69_109 =>
 Ld1 X H_108 v69_109 fun v70_110 =>
 Ok (bin X .add 3 v70_110 (.int .i64 1)) fun v71_111 =>
 FA v10_40 4 fun v72_112 =>
 St H_108 v72_112 1 v71_111 fun H_114 =>
 FA v10_40 0 fun v75_117 =>
 Ld1 X H_114 v75_117 fun v76_118 =>
 C X 49 [a0, (.int .i64 1), (.int .u64 281474976710655), (.int .u64 0), v76_118] H_114 fun v77_119 H_120 =>
 Ok2 (buildSlice X H_120 34 1 [(0, v77_119)]) fun v78_121 H_122 =>
 Ok2 (builtin X H_122 .append [34, 34] [x7_28, v78_121]) fun v79_123 H_124 =>
 P_58 [v79_123] H_124))
 (P_58 [x7_28] H_43))
 (P_58 [x7_28] H_43)))
 (∀ P_128 : List Value → Heap → Prop, (∀ x7_129 : Value, ∀ H_130,
 (Ok (nilCheck a0) fun v82_133 =>
 FA v82_133 3 fun v83_134 =>
 Ld1 X H_130 v83_134 fun v84_135 =>
 LdN X H_130 v10_40 6 fun v85_136 =>
 Ok2 (buildSlice X H_130 57 1 [(0, v85_136)]) fun v86_137 H_138 =>
 Ok2 (builtin X H_138 .append [57, 57] [v84_135, v86_137]) fun v87_139 H_140 =>
 Ok (nilCheck a0) fun v88_141 =>
 FA v88_141 3 fun v89_142 =>
 St H_140 v89_142 1 v87_139 fun H_144 =>
 Ok (bin X .add 3 x9_29 (.int .i64 1)) fun v31_146 =>
 P_27 [x7_129, v31_146] H_144) →
 P_128 [x7_129] H_130) →
 FA v10_40 1 fun v46_148 =>
 Ld1 X H_43 v46_148 fun v47_149 =>
 Ok (un .not v47_149) fun v48_150 =>
 Br v48_150
 (Ok (bin X .geq 3 v39_47 (.int .i64 10)) fun v51_153 =>
 Br v51_153
 (FA v10_40 4 fun v53_155 =>
 Ld1 X H_43 v53_155 fun v54_156 =>
 Ok (bin X .geq 3 v54_156 (.int .i64 3)) fun v55_157 =>
 Br v55_157
 (Ok (nilCheck a0) fun v58_160 =>
 FA v58_160 4 fun v59_161 =>
 Ld1 X H_43 v59_161 fun v60_162 =>
 FA v10_40 5 fun v61_163 =>
 Ld1 X H_43 v61_163 fun v62_164 =>
 Ok2 (builtin X H_43 .len [34] [v62_164]) fun v63_165 H_166 =>
 Ok (bin X .add 3 v60_162 v63_165) fun v64_167 =>
 Ok (nilCheck a0) fun v65_168 =>
 FA v65_168 4 fun v66_169 =>
 St H_166 v66_169 1 v64_167 fun H_171 =>
 Ok (bin X .add 3 x9_29 (.int .i64 1)) fun v31_173 =>
 P_27 [x7_28, v31_173] H_171)
 (FA v10_40 3 fun v68_176 =>
 St H_43 v68_176 1 a1 fun H_178 =>
 FA v10_40 4 fun v69_179 =>
 Ld1 X H_178 v69_179 fun v70_180 =>
 Ok (bin X .add 3 v70_180 (.int .i64 1)) fun v71_181 =>
 FA v10_40 4 fun v72_182 =>
 St H_178 v72_182 1 v71_181 fun H_184 =>
 FA v10_40 0 fun v75_187 =>
 Ld1 X H_184 v75_187 fun v76_188 =>
 C X 49 [a0, (.int .i64 1), (.int .u64 281474976710655), (.int .u64 0), v76_188] H_184 fun v77_189 H_190 =>
 Ok2 (buildSlice X H_190 34 1 [(0, v77_189)]) fun v78_191 H_192 =>
 Ok2 (builtin X H_192 .append [34, 34] [x7_28, v78_191]) fun v79_193 H_194 =>
 P_128 [v79_193] H_194))
 (P_128 [x7_28] H_43))
 (P_128 [x7_28] H_43)))
 (Q (.tuple #[x7_28, (.int .i64 0)]) H_34)) →
 P_27 [x7_28, x9_29] H_30) →
 P_27 [v18_13, (.int .i64 0)] H_25)

set_option maxRecDepth 100000 in
theorem w36_eq : (fun (ext : Nat → Nat → Option Value) (spec : FuncId → Option (List Value → Heap → Option (Value × Heap))) (a0 a1 : Value) (H : Heap) (Q : Value → Heap → Prop) => w36 (Tab.ctx ext spec) a0 a1 H Q) =
  fun ext spec a0 a1 H Q => wpF (Tab.ctx ext spec) (fun i => cond (Nat.beq i 9) (some [7, 9]) (none)) (fun i => cond (Nat.beq i 20) (some [7]) (none)) 36 [a0, a1] H Q := by kernel_rfl

theorem w36_ok {ext : Nat → Nat → Option Value} {spec : FuncId → Option (List Value → Heap → Option (Value × Heap))} {a0 a1 : Value} {H : Heap} {Q : Value → Heap → Prop} (hs : spec 36 = none) (h : w36 (Tab.ctx ext spec) a0 a1 H Q) : C (Tab.ctx ext spec) 36 [a0, a1] H Q :=
  C_of hs (Eq.mp (congrFun (congrFun (congrFun (congrFun (congrFun (congrFun w36_eq ext) spec) a0) a1) H) Q) h)

/-- trunkline/trunklineref09.SameFrames -/
def w37 (X : Ctx) (a0 a1 : Value) (H : Heap) (Q : Value → Heap → Prop) : Prop :=
 Ok2 (builtin X H .len [34] [a0]) fun v7_3 H_4 =>
 Ok2 (builtin X H_4 .len [34] [a1]) fun v9_6 H_7 =>
 Ok (bin X .neq 3 v7_3 v9_6) fun v10_8 =>
 Br v10_8
 (Q (.bool false) H_7)
 (∀ P_11 : List Value → Heap → Prop, (∀ x5_12 : Value, ∀ H_13,
 (Ok2 (builtin X H_13 .len [34] [a0]) fun v13_16 H_17 =>
 Ok (bin X .lss 3 x5_12 v13_16) fun v14_18 =>
 Br v14_18
 (IA a0 x5_12 1 fun v19_21 =>
 Ld1 X H_17 v19_21 fun v20_22 =>
 Ok2 (conv X H_17 29 9 v20_22) fun v21_23 H_24 =>
 IA a1 x5_12 1 fun v24_27 =>
 Ld1 X H_24 v24_27 fun v25_28 =>
 Ok2 (conv X H_24 29 9 v25_28) fun v26_29 H_30 =>
 Ok (bin X .neq 9 v21_23 v26_29) fun v27_31 =>
 Br v27_31
 (Q (.bool false) H_30)
 (Ok (bin X .add 3 x5_12 (.int .i64 1)) fun v16_34 =>
 P_11 [v16_34] H_30))
 (Q (.bool true) H_17)) →
 P_11 [x5_12] H_13) →
 P_11 [(.int .i64 0)] H_7)

set_option maxRecDepth 100000 in
theorem w37_eq : (fun (ext : Nat → Nat → Option Value) (spec : FuncId → Option (List Value → Heap → Option (Value × Heap))) (a0 a1 : Value) (H : Heap) (Q : Value → Heap → Prop) => w37 (Tab.ctx ext spec) a0 a1 H Q) =
  fun ext spec a0 a1 H Q => wpF (Tab.ctx ext spec) (fun i => cond (Nat.beq i 5) (some [5]) (none)) (fun i => none) 37 [a0, a1] H Q := by kernel_rfl

theorem w37_ok {ext : Nat → Nat → Option Value} {spec : FuncId → Option (List Value → Heap → Option (Value × Heap))} {a0 a1 : Value} {H : Heap} {Q : Value → Heap → Prop} (hs : spec 37 = none) (h : w37 (Tab.ctx ext spec) a0 a1 H Q) : C (Tab.ctx ext spec) 37 [a0, a1] H Q :=
  C_of hs (Eq.mp (congrFun (congrFun (congrFun (congrFun (congrFun (congrFun w37_eq ext) spec) a0) a1) H) Q) h)

/-- trunkline/ether.Put -/
def w38 (X : Ctx) (a0 : Value) (H : Heap) (Q : Value → Heap → Prop) : Prop :=
 Al H (.cells (cellsOf a0) 78) fun v1_1 H_2 =>
 FA v1_1 0 fun v5_5 =>
 Ld1 X H_2 v5_5 fun v6_6 =>
 FA v1_1 1 fun v7_7 =>
 Ld1 X H_2 v7_7 fun v8_8 =>
 Ok2 (buildSlice X H_2 107 2 [(0, v6_6), (1, v8_8)]) fun v9_9 H_10 =>
 C X 50 [v9_9] H_10 fun v10_11 H_12 =>
 Ok (un .not v10_11) fun v11_13 =>
 Br v11_13
 (Q (.tuple #[(.slice none 0 0), (.int .i64 2)]) H_12)
 (FA v1_1 2 fun v13_19 =>
 Ld1 X H_12 v13_19 fun v14_20 =>
 Ok (bin X .lss 76 v14_20 (.int .u16 1536)) fun v15_21 =>
 Br v15_21
 (Q (.tuple #[(.slice none 0 0), (.int .i64 2)]) H_12)
 (FA v1_1 3 fun v18_26 =>
 Ld1 X H_12 v18_26 fun v19_27 =>
 Ok2 (builtin X H_12 .len [29] [v19_27]) fun v20_28 H_29 =>
 Ok (bin X .gtr 3 v20_28 (.int .i64 1500)) fun v21_30 =>
 Br v21_30
 (Q (.tuple #[(.slice none 0 0), (.int .i64 6)]) H_29)
 (FA v1_1 0 fun v22_34 =>
 Ld1 X H_29 v22_34 fun v23_35 =>
 Ok (build X 101 [(0, (.int .u64 6)), (1, v23_35)]) fun v24_36 =>
 FA v1_1 1 fun v25_37 =>
 Ld1 X H_29 v25_37 fun v26_38 =>
 Ok (build X 101 [(0, (.int .u64 6)), (1, v26_38)]) fun v27_39 =>
 FA v1_1 2 fun v28_40 =>
 Ld1 X H_29 v28_40 fun v29_41 =>
 Ok2 (conv X H_29 76 28 v29_41) fun v30_42 H_43 =>
 Ok (build X 101 [(0, (.int .u64 2)), (1, v30_42)]) fun v31_44 =>
 Ok2 (buildSlice X H_43 111 3 [(0, v24_36), (1, v27_39), (2, v31_44)]) fun v32_45 H_46 =>
 C X 51 [(.slice none 0 0), v32_45] H_46 fun v33_47 H_48 =>
 FA v1_1 3 fun v34_49 =>
 Ld1 X H_48 v34_49 fun v35_50 =>
 Ok2 (builtin X H_48 .append [29, 29] [v33_47, v35_50]) fun v36_51 H_52 =>
 (Ld1 X H_43 v34_49 fun v35_55 =>
 veq 3 v35_55 v35_50 = true) ∧
 (Ld1 X H_48 v34_49 fun v35_56 =>
 veq 3 v35_56 v35_50 = true) ∧
 Q (.tuple #[v36_51, (.int .i64 0)]) H_52)))

set_option maxRecDepth 100000 in
theorem w38_eq : (fun (ext : Nat → Nat → Option Value) (spec : FuncId → Option (List Value → Heap → Option (Value × Heap))) (a0 : Value) (H : Heap) (Q : Value → Heap → Prop) => w38 (Tab.ctx ext spec) a0 H Q) =
  fun ext spec a0 H Q => wpF (Tab.ctx ext spec) (fun i => none) (fun i => none) 38 [a0] H Q := by kernel_rfl

theorem w38_ok {ext : Nat → Nat → Option Value} {spec : FuncId → Option (List Value → Heap → Option (Value × Heap))} {a0 : Value} {H : Heap} {Q : Value → Heap → Prop} (hs : spec 38 = none) (h : w38 (Tab.ctx ext spec) a0 H Q) : C (Tab.ctx ext spec) 38 [a0] H Q :=
  C_of hs (Eq.mp (congrFun (congrFun (congrFun (congrFun (congrFun w38_eq ext) spec) a0) H) Q) h)

/-- trunkline/ether.PutArp -/
def w39 (X : Ctx) (a0 : Value) (H : Heap) (Q : Value → Heap → Prop) : Prop :=
 Al H (.cells (cellsOf a0) 31) fun v1_1 H_2 =>
 FA v1_1 0 fun v4_5 =>
 Ld1 X H_2 v4_5 fun v5_6 =>
 Ok (bin X .lss 3 v5_6 (.int .i64 1)) fun v6_7 =>
 Br v6_7
 (Q (.tuple #[(.slice none 0 0), (.int .i64 2)]) H_2)
 (FA v1_1 0 fun v8_14 =>
 Ld1 X H_2 v8_14 fun v9_15 =>
 Ok (bin X .gtr 3 v9_15 (.int .i64 2)) fun v10_16 =>
 Br v10_16
 (Q (.tuple #[(.slice none 0 0), (.int .i64 2)]) H_2)
 (FA v1_1 1 fun v13_22 =>
 Ld1 X H_2 v13_22 fun v14_23 =>
 FA v1_1 3 fun v15_24 =>
 Ld1 X H_2 v15_24 fun v16_25 =>
 Ok2 (buildSlice X H_2 107 2 [(0, v14_23), (1, v16_25)]) fun v17_26 H_27 =>
 C X 50 [v17_26] H_27 fun v18_28 H_29 =>
 Ok (un .not v18_28) fun v19_30 =>
 Br v19_30
 (Q (.tuple #[(.slice none 0 0), (.int .i64 2)]) H_29)
 (Ok (build X 101 [(0, (.int .u64 6)), (1, (.int .u64 4429186564))]) fun v21_34 =>
 FA v1_1 0 fun v22_35 =>
 Ld1 X H_29 v22_35 fun v23_36 =>
 Ok2 (conv X H_29 3 28 v23_36) fun v24_37 H_38 =>
 Ok (build X 101 [(0, (.int .u64 2)), (1, v24_37)]) fun v25_39 =>
 FA v1_1 1 fun v26_40 =>
 Ld1 X H_38 v26_40 fun v27_41 =>
 Ok (build X 101 [(0, (.int .u64 6)), (1, v27_41)]) fun v28_42 =>
 FA v1_1 2 fun v29_43 =>
 Ld1 X H_38 v29_43 fun v30_44 =>
 Ok2 (conv X H_38 22 28 v30_44) fun v31_45 H_46 =>
 Ok (build X 101 [(0, (.int .u64 4)), (1, v31_45)]) fun v32_47 =>
 FA v1_1 3 fun v33_48 =>
 Ld1 X H_46 v33_48 fun v34_49 =>
 Ok (build X 101 [(0, (.int .u64 6)), (1, v34_49)]) fun v35_50 =>
 FA v1_1 4 fun v36_51 =>
 Ld1 X H_46 v36_51 fun v37_52 =>
 Ok2 (conv X H_46 22 28 v37_52) fun v38_53 H_54 =>
 Ok (build X 101 [(0, (.int .u64 4)), (1, v38_53)]) fun v39_55 =>
 Ok2 (buildSlice X H_54 111 6 [(0, v21_34), (1, v25_39), (2, v28_42), (3, v32_47), (4, v35_50), (5, v39_55)]) fun v40_56 H_57 =>
 C X 51 [(.slice none 0 0), v40_56] H_57 fun v41_58 H_59 =>
 Q (.tuple #[v41_58, (.int .i64 0)]) H_59)))

set_option maxRecDepth 100000 in
theorem w39_eq : (fun (ext : Nat → Nat → Option Value) (spec : FuncId → Option (List Value → Heap → Option (Value × Heap))) (a0 : Value) (H : Heap) (Q : Value → Heap → Prop) => w39 (Tab.ctx ext spec) a0 H Q) =
  fun ext spec a0 H Q => wpF (Tab.ctx ext spec) (fun i => none) (fun i => none) 39 [a0] H Q := by kernel_rfl

theorem w39_ok {ext : Nat → Nat → Option Value} {spec : FuncId → Option (List Value → Heap → Option (Value × Heap))} {a0 : Value} {H : Heap} {Q : Value → Heap → Prop} (hs : spec 39 = none) (h : w39 (Tab.ctx ext spec) a0 H Q) : C (Tab.ctx ext spec) 39 [a0] H Q :=
  C_of hs (Eq.mp (congrFun (congrFun (congrFun (congrFun (congrFun w39_eq ext) spec) a0) H) Q) h)

/-- maps.Keysmapuint32trunkline/arp.entry,uint32,trunkline/arp.entry -/
def w41 (X : Ctx) (a0 : Value) (H : Heap) (Q : Value → Heap → Prop) : Prop :=
 Al H (.cells (cellsOf a0) 62) fun v1_1 H_2 =>
 Q (.func (.func 54) #[] #[v1_1]) H_2

set_option maxRecDepth 100000 in
theorem w41_eq : (fun (ext : Nat → Nat → Option Value) (spec : FuncId → Option (List Value → Heap → Option (Value × Heap))) (a0 : Value) (H : Heap) (Q : Value → Heap → Prop) => w41 (Tab.ctx ext spec) a0 H Q) =
  fun ext spec a0 H Q => wpF (Tab.ctx ext spec) (fun i => none) (fun i => none) 41 [a0] H Q := by kernel_rfl

theorem w41_ok {ext : Nat → Nat → Option Value} {spec : FuncId → Option (List Value → Heap → Option (Value × Heap))} {a0 : Value} {H : Heap} {Q : Value → Heap → Prop} (hs : spec 41 = none) (h : w41 (Tab.ctx ext spec) a0 H Q) : C (Tab.ctx ext spec) 41 [a0] H Q :=
  C_of hs (Eq.mp (congrFun (congrFun (congrFun (congrFun (congrFun w41_eq ext) spec) a0) H) Q) h)

/-- trunkline/ether.reader -/
def w42 (X : Ctx) (a0 a1 : Value) (H : Heap) (Q : Value → Heap → Prop) : Prop :=
 Al H (.cells (cellsOf a0) 29) fun v2_1 H_2 =>
 Al H_2 (.cells (cellsOf a1) 3) fun v3_3 H_4 =>
 Q (.func (.func 55) #[] #[v2_1, v3_3]) H_4

set_option maxRecDepth 100000 in
theorem w42_eq : (fun (ext : Nat → Nat → Option Value) (spec : FuncId → Option (List Value → Heap → Option (Value × Heap))) (a0 a1 : Value) (H : Heap) (Q : Value → Heap → Prop) => w42 (Tab.ctx ext spec) a0 a1 H Q) =
  fun ext spec a0 a1 H Q => wpF (Tab.ctx ext spec) (fun i => none) (fun i => none) 42 [a0, a1] H Q := by kernel_rfl

theorem w42_ok {ext : Nat → Nat → Option Value} {spec : FuncId → Option (List Value → Heap → Option (Value × Heap))} {a0 a1 : Value} {H : Heap} {Q : Value → Heap → Prop} (hs : spec 42 = none) (h : w42 (Tab.ctx ext spec) a0 a1 H Q) : C (Tab.ctx ext spec) 42 [a0, a1] H Q :=
  C_of hs (Eq.mp (congrFun (congrFun (congrFun (congrFun (congrFun (congrFun w42_eq ext) spec) a0) a1) H) Q) h)

/-- (*trunkline/trunklineref09.Cache).wrong -/
def w44 (X : Ctx) (a0 a1 : Value) (H : Heap) (Q : Value → Heap → Prop) : Prop :=
 Ok (bin X .eql 45 a0 (.pointer none)) fun v6_3 =>
 Br v6_3
 (Q (.int .i64 1) H)
 (Ok (bin X .lss 3 a1 (.int .i64 0)) fun v8_6 =>
 Br v8_6
 (Q (.int .i64 2) H)
 (Ok (bin X .gtr 3 a1 (.int .i64 1099511627776)) fun v11_11 =>
 Br v11_11
 (Q (.int .i64 2) H)
 (Ok (nilCheck a0) fun v15_16 =>
 FA v15_16 2 fun v16_17 =>
 Ld1 X H v16_17 fun v17_18 =>
 Ok (bin X .lss 3 a1 v17_18) fun v18_19 =>
 Br v18_19
 (Q (.int .i64 18) H)
 (Ok (nilCheck a0) fun v21_23 =>
 FA v21_23 2 fun v22_24 =>
 St H v22_24 1 a1 fun H_26 =>
 Q (.int .i64 0) H_26))))

set_option maxRecDepth 100000 in
theorem w44_eq : (fun (ext : Nat → Nat → Option Value) (spec : FuncId → Option (List Value → Heap → Option (Value × Heap))) (a0 a1 : Value) (H : Heap) (Q : Value → Heap → Prop) => w44 (Tab.ctx ext spec) a0 a1 H Q) =
  fun ext spec a0 a1 H Q => wpF (Tab.ctx ext spec) (fun i => none) (fun i => none) 44 [a0, a1] H Q := by kernel_rfl

theorem w44_ok {ext : Nat → Nat → Option Value} {spec : FuncId → Option (List Value → Heap → Option (Value × Heap))} {a0 a1 : Value} {H : Heap} {Q : Value → Heap → Prop} (hs : spec 44 = none) (h : w44 (Tab.ctx ext spec) a0 a1 H Q) : C (Tab.ctx ext spec) 44 [a0, a1] H Q :=
  C_of hs (Eq.mp (congrFun (congrFun (congrFun (congrFun (congrFun (congrFun w44_eq ext) spec) a0) a1) H) Q) h)

/-- (*trunkline/trunklineref09.Cache).place -/
def w45 (X : Ctx) (a0 a1 : Value) (H : Heap) (Q : Value → Heap → Prop) : Prop :=
 ∀ P_4 : List Value → Heap → Prop, (∀ x6_5 : Value, ∀ H_6,
 (Ok (nilCheck a0) fun v9_9 =>
 FA v9_9 3 fun v10_10 =>
 Ld1 X H_6 v10_10 fun v11_11 =>
 Ok2 (builtin X H_6 .len [57] [v11_11]) fun v12_12 H_13 =>
 Ok (bin X .lss 3 x6_5 v12_12) fun v13_14 =>
 Br v13_14
 (Ok (nilCheck a0) fun v16_17 =>
 FA v16_17 3 fun v17_18 =>
 Ld1 X H_13 v17_18 fun v18_19 =>
 IA v18_19 x6_5 6 fun v20_21 =>
 FA v20_21 0 fun v21_22 =>
 Ld1 X H_13 v21_22 fun v22_23 =>
 Ok (bin X .lss 22 v22_23 a1) fun v24_25 =>
 Br v24_25
 (Ok (bin X .add 3 x6_5 (.int .i64 1)) fun v27_28 =>
 P_4 [v27_28] H_13)
 (Ok (nilCheck a0) fun v31_33 =>
 FA v31_33 3 fun v32_34 =>
 Ld1 X H_13 v32_34 fun v33_35 =>
 Ok2 (builtin X H_13 .len [57] [v33_35]) fun v34_36 H_37 =>
 Ok (bin X .lss 3 x6_5 v34_36) fun v35_38 =>
 Br v35_38
 (Ok (nilCheck a0) fun v38_41 =>
 FA v38_41 3 fun v39_42 =>
 Ld1 X H_37 v39_42 fun v40_43 =>
 IA v40_43 x6_5 6 fun v42_45 =>
 FA v42_45 0 fun v43_46 =>
 Ld1 X H_37 v43_46 fun v44_47 =>
 Ok (bin X .eql 22 v44_47 a1) fun v46_49 =>
 Q (.tuple #[x6_5, v46_49]) H_37)
 (Q (.tuple #[x6_5, (.bool false)]) H_37)))
 (Ok (nilCheck a0) fun v31_60 =>
 FA v31_60 3 fun v32_61 =>
 Ld1 X H_13 v32_61 fun v33_62 =>
 Ok2 (builtin X H_13 .len [57] [v33_62]) fun v34_63 H_64 =>
 Ok (bin X .lss 3 x6_5 v34_63) fun v35_65 =>
 Br v35_65
 (Ok (nilCheck a0) fun v38_68 =>
 FA v38_68 3 fun v39_69 =>
 Ld1 X H_64 v39_69 fun v40_70 =>
 IA v40_70 x6_5 6 fun v42_72 =>
 FA v42_72 0 fun v43_73 =>
 Ld1 X H_64 v43_73 fun v44_74 =>
 Ok (bin X .eql 22 v44_74 a1) fun v46_76 =>
 Q (.tuple #[x6_5, v46_76]) H_64)
 (Q (.tuple #[x6_5, (.bool false)]) H_64))) →
 P_4 [x6_5] H_6) →
 P_4 [(.int .i64 0)] H

set_option maxRecDepth 100000 in
theorem w45_eq : (fun (ext : Nat → Nat → Option Value) (spec : FuncId → Option (List Value → Heap → Option (Value × Heap))) (a0 a1 : Value) (H : Heap) (Q : Value → Heap → Prop) => w45 (Tab.ctx ext spec) a0 a1 H Q) =
  fun ext spec a0 a1 H Q => wpF (Tab.ctx ext spec) (fun i => cond (Nat.beq i 3) (some [6]) (none)) (fun i => none) 45 [a0, a1] H Q := by kernel_rfl

theorem w45_ok {ext : Nat → Nat → Option Value} {spec : FuncId → Option (List Value → Heap → Option (Value × Heap))} {a0 a1 : Value} {H : Heap} {Q : Value → Heap → Prop} (hs : spec 45 = none) (h : w45 (Tab.ctx ext spec) a0 a1 H Q) : C (Tab.ctx ext spec) 45 [a0, a1] H Q :=
  C_of hs (Eq.mp (congrFun (congrFun (congrFun (congrFun (congrFun (congrFun w45_eq ext) spec) a0) a1) H) Q) h)

/-- (*trunkline/trunklineref09.Cache).frame -/
def w46 (X : Ctx) (a0 a1 a2 : Value) (H : Heap) (Q : Value → Heap → Prop) : Prop :=
 Ok (nilCheck a0) fun v12_4 =>
 FA v12_4 0 fun v13_5 =>
 Ld1 X H v13_5 fun v14_6 =>
 Ok (build X 78 [(0, a1), (1, v14_6), (2, (.int .u16 2048)), (3, a2)]) fun v16_8 =>
 C X 57 [v16_8] H fun v17_9 H_10 =>
 Ok (extract v17_9 0) fun v18_12 =>
 Ok (extract v17_9 1) fun v19_13 =>
 Q v18_12 H_10

set_option maxRecDepth 100000 in
theorem w46_eq : (fun (ext : Nat → Nat → Option Value) (spec : FuncId → Option (List Value → Heap → Option (Value × Heap))) (a0 a1 a2 : Value) (H : Heap) (Q : Value → Heap → Prop) => w46 (Tab.ctx ext spec) a0 a1 a2 H Q) =
  fun ext spec a0 a1 a2 H Q => wpF (Tab.ctx ext spec) (fun i => none) (fun i => none) 46 [a0, a1, a2] H Q := by kernel_rfl

theorem w46_ok {ext : Nat → Nat → Option Value} {spec : FuncId → Option (List Value → Heap → Option (Value × Heap))} {a0 a1 a2 : Value} {H : Heap} {Q : Value → Heap → Prop} (hs : spec 46 = none) (h : w46 (Tab.ctx ext spec) a0 a1 a2 H Q) : C (Tab.ctx ext spec) 46 [a0, a1, a2] H Q :=
  C_of hs (Eq.mp (congrFun (congrFun (congrFun (congrFun (congrFun (congrFun (congrFun w46_eq ext) spec) a0) a1) a2) H) Q) h)

/-- (*trunkline/trunklineref09.Cache).put -/
def w47 (X : Ctx) (a0 a1 : Value) (H : Heap) (Q : Value → Heap → Prop) : Prop :=
 Al H (.cells (cellsOf a1) 86) fun v3_1 H_2 =>
 FA v3_1 0 fun v9_4 =>
 Ld1 X H_2 v9_4 fun v10_5 =>
 C X 45 [a0, v10_5] H_2 fun v11_6 H_7 =>
 Ok (extract v11_6 0) fun v12_9 =>
 Ok (extract v11_6 1) fun v13_10 =>
 Br v13_10
 (C X 58 [a0, v12_9] H_7 fun v17_16 H_17 =>
 Ok2 (buildSlice X H_17 57 0 []) fun v18_18 H_19 =>
 Ok (nilCheck a0) fun v20_21 =>
 FA v20_21 3 fun v21_22 =>
 Ld1 X H_19 v21_22 fun v22_23 =>
 Ok (slice X 57 v22_23 none (some v12_9) none) fun v24_25 =>
 Ok2 (builtin X H_19 .append [57, 57] [v18_18, v24_25]) fun v25_26 H_27 =>
 LdN X H_27 v3_1 6 fun v27_30 =>
 Ok2 (buildSlice X H_27 57 1 [(0, v27_30)]) fun v28_31 H_32 =>
 Ok2 (builtin X H_32 .append [57, 57] [v25_26, v28_31]) fun v29_33 H_34 =>
 Ok (nilCheck a0) fun v33_39 =>
 FA v33_39 3 fun v34_40 =>
 Ld1 X H_34 v34_40 fun v35_41 =>
 Ok (slice X 57 v35_41 (some v12_9) none none) fun v37_43 =>
 Ok2 (builtin X H_34 .append [57, 57] [v29_33, v37_43]) fun v38_44 H_45 =>
 Ok (nilCheck a0) fun v39_46 =>
 FA v39_46 3 fun v40_47 =>
 St H_45 v40_47 1 v38_44 fun H_49 =>
 Q (.tuple #[]) H_49)
 (Ok2 (buildSlice X H_7 57 0 []) fun v18_50 H_51 =>
 Ok (nilCheck a0) fun v20_53 =>
 FA v20_53 3 fun v21_54 =>
 Ld1 X H_51 v21_54 fun v22_55 =>
 Ok (slice X 57 v22_55 none (some v12_9) none) fun v24_57 =>
 Ok2 (builtin X H_51 .append [57, 57] [v18_50, v24_57]) fun v25_58 H_59 =>
 LdN X H_59 v3_1 6 fun v27_62 =>
 Ok2 (buildSlice X H_59 57 1 [(0, v27_62)]) fun v28_63 H_64 =>
 Ok2 (builtin X H_64 .append [57, 57] [v25_58, v28_63]) fun v29_65 H_66 =>
 Ok (nilCheck a0) fun v33_71 =>
 FA v33_71 3 fun v34_72 =>
 Ld1 X H_66 v34_72 fun v35_73 =>
 Ok (slice X 57 v35_73 (some v12_9) none none) fun v37_75 =>
 Ok2 (builtin X H_66 .append [57, 57] [v29_65, v37_75]) fun v38_76 H_77 =>
 Ok (nilCheck a0) fun v39_78 =>
 FA v39_78 3 fun v40_79 =>
 St H_77 v40_79 1 v38_76 fun H_81 =>
 Q (.tuple #[]) H_81)

set_option maxRecDepth 100000 in
theorem w47_eq : (fun (ext : Nat → Nat → Option Value) (spec : FuncId → Option (List Value → Heap → Option (Value × Heap))) (a0 a1 : Value) (H : Heap) (Q : Value → Heap → Prop) => w47 (Tab.ctx ext spec) a0 a1 H Q) =
  fun ext spec a0 a1 H Q => wpF (Tab.ctx ext spec) (fun i => none) (fun i => none) 47 [a0, a1] H Q := by kernel_rfl

theorem w47_ok {ext : Nat → Nat → Option Value} {spec : FuncId → Option (List Value → Heap → Option (Value × Heap))} {a0 a1 : Value} {H : Heap} {Q : Value → Heap → Prop} (hs : spec 47 = none) (h : w47 (Tab.ctx ext spec) a0 a1 H Q) : C (Tab.ctx ext spec) 47 [a0, a1] H Q :=
  C_of hs (Eq.mp (congrFun (congrFun (congrFun (congrFun (congrFun (congrFun w47_eq ext) spec) a0) a1) H) Q) h)

/-- (*trunkline/trunklineref09.Cache).room -/
def w48 (X : Ctx) (a0 : Value) (H : Heap) (Q : Value → Heap → Prop) : Prop :=
 Ok (nilCheck a0) fun v6_3 =>
 FA v6_3 3 fun v7_4 =>
 Ld1 X H v7_4 fun v8_5 =>
 Ok2 (builtin X H .len [57] [v8_5]) fun v9_6 H_7 =>
 Ok (bin X .lss 3 v9_6 (.int .i64 8)) fun v10_8 =>
 Br v10_8
 (Q (.bool true) H_7)
 (∀ P_12 : List Value → Heap → Prop, (∀ x3_13 x4_14 : Value, ∀ H_15,
 (Ok (nilCheck a0) fun v13_18 =>
 FA v13_18 3 fun v14_19 =>
 Ld1 X H_15 v14_19 fun v15_20 =>
 Ok2 (builtin X H_15 .len [57] [v15_20]) fun v16_21 H_22 =>
 Ok (bin X .lss 3 x4_14 v16_21) fun v17_23 =>
 Br v17_23
 (Ok (nilCheck a0) fun v21_25 =>
 FA v21_25 3 fun v22_26 =>
 Ld1 X H_22 v22_26 fun v23_27 =>
 IA v23_27 x4_14 6 fun v25_29 =>
 FA v25_29 1 fun v26_30 =>
 Ld1 X H_22 v26_30 fun v27_31 =>
 Br v27_31
 (Ok (bin X .lss 3 x3_13 (.int .i64 0)) fun v30_34 =>
 Br v30_34
 (Ok (bin X .add 3 x4_14 (.int .i64 1)) fun v19_41 =>
 P_12 [x4_14, v19_41] H_22)
 (Ok (nilCheck a0) fun v33_44 =>
 FA v33_44 3 fun v34_45 =>
 Ld1 X H_22 v34_45 fun v35_46 =>
 IA v35_46 x4_14 6 fun v37_48 =>
 FA v37_48 3 fun v38_49 =>
 Ld1 X H_22 v38_49 fun v39_50 =>
 Ok (nilCheck a0) fun v41_52 =>
 FA v41_52 3 fun v42_53 =>
 Ld1 X H_22 v42_53 fun v43_54 =>
 IA v43_54 x3_13 6 fun v45_56 =>
 FA v45_56 3 fun v46_57 =>
 Ld1 X H_22 v46_57 fun v47_58 =>
 Ok (bin X .lss 3 v39_50 v47_58) fun v48_59 =>
 Br v48_59
 (Ok (bin X .add 3 x4_14 (.int .i64 1)) fun v19_65 =>
 P_12 [x4_14, v19_65] H_22)
 (Ok (bin X .add 3 x4_14 (.int .i64 1)) fun v19_68 =>
 P_12 [x3_13, v19_68] H_22)))
 (Ok (bin X .add 3 x4_14 (.int .i64 1)) fun v19_72 =>
 P_12 [x3_13, v19_72] H_22))
 (Ok (bin X .geq 3 x3_13 (.int .i64 0)) fun v53_75 =>
 Br v53_75
 (C X 58 [a0, x3_13] H_22 fun v56_78 H_79 =>
 Ok (bin X .geq 3 x3_13 (.int .i64 0)) fun v58_81 =>
 Q v58_81 H_79)
 (Ok (bin X .geq 3 x3_13 (.int .i64 0)) fun v58_84 =>
 Q v58_84 H_22))) →
 P_12 [x3_13, x4_14] H_15) →
 P_12 [(.int .i64 (-1)), (.int .i64 0)] H_7)

set_option maxRecDepth 100000 in
theorem w48_eq : (fun (ext : Nat → Nat → Option Value) (spec : FuncId → Option (List Value → Heap → Option (Value × Heap))) (a0 : Value) (H : Heap) (Q : Value → Heap → Prop) => w48 (Tab.ctx ext spec) a0 H Q) =
  fun ext spec a0 H Q => wpF (Tab.ctx ext spec) (fun i => cond (Nat.beq i 6) (some [3, 4]) (none)) (fun i => none) 48 [a0] H Q := by kernel_rfl

theorem w48_ok {ext : Nat → Nat → Option Value} {spec : FuncId → Option (List Value → Heap → Option (Value × Heap))} {a0 : Value} {H : Heap} {Q : Value → Heap → Prop} (hs : spec 48 = none) (h : w48 (Tab.ctx ext spec) a0 H Q) : C (Tab.ctx ext spec) 48 [a0] H Q :=
  C_of hs (Eq.mp (congrFun (congrFun (congrFun (congrFun (congrFun w48_eq ext) spec) a0) H) Q) h)

/-- (*trunkline/trunklineref09.Cache).arp -/
def w49 (X : Ctx) (a0 a1 a2 a3 a4 : Value) (H : Heap) (Q : Value → Heap → Prop) : Prop :=
 Ok (nilCheck a0) fun v18_4 =>
 FA v18_4 0 fun v19_5 =>
 Ld1 X H v19_5 fun v20_6 =>
 Ok (nilCheck a0) fun v22_8 =>
 FA v22_8 1 fun v23_9 =>
 Ld1 X H v23_9 fun v24_10 =>
 Ok (build X 31 [(0, a1), (1, v20_6), (2, v24_10), (3, a3), (4, a4)]) fun v27_13 =>
 C X 59 [v27_13] H fun v28_14 H_15 =>
 Ok (extract v28_14 0) fun v29_17 =>
 Ok (extract v28_14 1) fun v30_18 =>
 Ok (nilCheck a0) fun v34_23 =>
 FA v34_23 0 fun v35_24 =>
 Ld1 X H_15 v35_24 fun v36_25 =>
 Ok (build X 78 [(0, a2), (1, v36_25), (2, (.int .u16 2054)), (3, v29_17)]) fun v38_27 =>
 C X 57 [v38_27] H_15 fun v39_28 H_29 =>
 Ok (extract v39_28 0) fun v40_31 =>
 Ok (extract v39_28 1) fun v41_32 =>
 Q v40_31 H_29

set_option maxRecDepth 100000 in
theorem w49_eq : (fun (ext : Nat → Nat → Option Value) (spec : FuncId → Option (List Value → Heap → Option (Value × Heap))) (a0 a1 a2 a3 a4 : Value) (H : Heap) (Q : Value → Heap → Prop) => w49 (Tab.ctx ext spec) a0 a1 a2 a3 a4 H Q) =
  fun ext spec a0 a1 a2 a3 a4 H Q => wpF (Tab.ctx ext spec) (fun i => none) (fun i => none) 49 [a0, a1, a2, a3, a4] H Q := by kernel_rfl

theorem w49_ok {ext : Nat → Nat → Option Value} {spec : FuncId → Option (List Value → Heap → Option (Value × Heap))} {a0 a1 a2 a3 a4 : Value} {H : Heap} {Q : Value → Heap → Prop} (hs : spec 49 = none) (h : w49 (Tab.ctx ext spec) a0 a1 a2 a3 a4 H Q) : C (Tab.ctx ext spec) 49 [a0, a1, a2, a3, a4] H Q :=
  C_of hs (Eq.mp (congrFun (congrFun (congrFun (congrFun (congrFun (congrFun (congrFun (congrFun (congrFun w49_eq ext) spec) a0) a1) a2) a3) a4) H) Q) h)

/-- trunkline/ether.card -/
def w50 (X : Ctx) (a0 : Value) (H : Heap) (Q : Value → Heap → Prop) : Prop :=
 C X 60 [a0, (.func (.func 61) #[] #[])] H fun v4_3 H_4 =>
 Ok (un .not v4_3) fun v5_5 =>
 Q v5_5 H_4

set_option maxRecDepth 100000 in
theorem w50_eq : (fun (ext : Nat → Nat → Option Value) (spec : FuncId → Option (List Value → Heap → Option (Value × Heap))) (a0 : Value) (H : Heap) (Q : Value → Heap → Prop) => w50 (Tab.ctx ext spec) a0 H Q) =
  fun ext spec a0 H Q => wpF (Tab.ctx ext spec) (fun i => none) (fun i => none) 50 [a0] H Q := by kernel_rfl

theorem w50_ok {ext : Nat → Nat → Option Value} {spec : FuncId → Option (List Value → Heap → Option (Value × Heap))} {a0 : Value} {H : Heap} {Q : Value → Heap → Prop} (hs : spec 50 = none) (h : w50 (Tab.ctx ext spec) a0 H Q) : C (Tab.ctx ext spec) 50 [a0] H Q :=
  C_of hs (Eq.mp (congrFun (congrFun (congrFun (congrFun (congrFun w50_eq ext) spec) a0) H) Q) h)

/-- trunkline/ether.lay -/
def w51 (X : Ctx) (a0 a1 : Value) (H : Heap) (Q : Value → Heap → Prop) : Prop :=
 Ok2 (builtin X H .len [111] [a1]) fun v10_3 H_4 =>
 ∀ P_6 : List Value → Heap → Prop, (∀ x0_7 x11_8 : Value, ∀ H_9,
 (Ok (bin X .lss 3 x11_8 v10_3) fun v12_10 =>
 Br v12_10
 (IA a1 x11_8 2 fun v13_11 =>
 LdN X H_9 v13_11 2 fun v14_12 =>
 Al H_9 (.cells [.int .u64 0, .int .u64 0] 101) fun v6_13 H_14 =>
 St H_14 v6_13 2 v14_12 fun H_16 =>
 IAr v6_13 (.int .i64 1) 2 1 fun v16_17 =>
 Ld1 X H_16 v16_17 fun v17_18 =>
 IAr v6_13 (.int .i64 0) 2 1 fun v18_19 =>
 Ld1 X H_16 v18_19 fun v19_20 =>
 Ok2 (conv X H_16 28 3 v19_20) fun v20_21 H_22 =>
 C X 62 [v17_18, v20_21] H_22 fun v21_23 H_24 =>
 Ok (extract v21_23 0) fun v22_26 =>
 Ok (extract v21_23 1) fun v23_27 =>
 Ok2 (builtin X H_24 .append [29, 29] [x0_7, v22_26]) fun v26_32 H_33 =>
 Ok (bin X .add 3 x11_8 (.int .i64 1)) fun v27_35 =>
 P_6 [v26_32, v27_35] H_33)
 (Q x0_7 H_9)) →
 P_6 [x0_7, x11_8] H_9) →
 P_6 [a0, (.int .i64 0)] H_4

set_option maxRecDepth 100000 in
theorem w51_eq : (fun (ext : Nat → Nat → Option Value) (spec : FuncId → Option (List Value → Heap → Option (Value × Heap))) (a0 a1 : Value) (H : Heap) (Q : Value → Heap → Prop) => w51 (Tab.ctx ext spec) a0 a1 H Q) =
  fun ext spec a0 a1 H Q => wpF (Tab.ctx ext spec) (fun i => cond (Nat.beq i 3) (some [0, 11]) (none)) (fun i => none) 51 [a0, a1] H Q := by kernel_rfl

theorem w51_ok {ext : Nat → Nat → Option Value} {spec : FuncId → Option (List Value → Heap → Option (Value × Heap))} {a0 a1 : Value} {H : Heap} {Q : Value → Heap → Prop} (hs : spec 51 = none) (h : w51 (Tab.ctx ext spec) a0 a1 H Q) : C (Tab.ctx ext spec) 51 [a0, a1] H Q :=
  C_of hs (Eq.mp (congrFun (congrFun (congrFun (congrFun (congrFun (congrFun w51_eq ext) spec) a0) a1) H) Q) h)

/-- trunkline/ether.reader$1 -/
def w55 (X : Ctx) (a0 a1 a2 : Value) (H : Heap) (Q : Value → Heap → Prop) : Prop :=
 Ld1 X H a1 fun v8_2 =>
 Ld1 X H a2 fun v9_3 =>
 C X 56 [v8_2, v9_3, a0] H fun v11_5 H_6 =>
 Ok (extract v11_5 0) fun v12_8 =>
 Ok (extract v11_5 1) fun v13_9 =>
 Ld1 X H_6 a2 fun v14_12 =>
 Ok (bin X .add 3 v14_12 a0) fun v16_14 =>
 St H_6 a2 1 v16_14 fun H_16 =>
 Q v12_8 H_16

set_option maxRecDepth 100000 in
theorem w55_eq : (fun (ext : Nat → Nat → Option Value) (spec : FuncId → Option (List Value → Heap → Option (Value × Heap))) (a0 a1 a2 : Value) (H : Heap) (Q : Value → Heap → Prop) => w55 (Tab.ctx ext spec) a0 a1 a2 H Q) =
  fun ext spec a0 a1 a2 H Q => wpF (Tab.ctx ext spec) (fun i => none) (fun i => none) 55 [a0, a1, a2] H Q := by kernel_rfl

theorem w55_ok {ext : Nat → Nat → Option Value} {spec : FuncId → Option (List Value → Heap → Option (Value × Heap))} {a0 a1 a2 : Value} {H : Heap} {Q : Value → Heap → Prop} (hs : spec 55 = none) (h : w55 (Tab.ctx ext spec) a0 a1 a2 H Q) : C (Tab.ctx ext spec) 55 [a0, a1, a2] H Q :=
  C_of hs (Eq.mp (congrFun (congrFun (congrFun (congrFun (congrFun (congrFun (congrFun w55_eq ext) spec) a0) a1) a2) H) Q) h)

/-- trunkline/octet.Num -/
def w56 (X : Ctx) (a0 a1 a2 : Value) (H : Heap) (Q : Value → Heap → Prop) : Prop :=
 C X 66 [a2] H fun v13_4 H_5 =>
 Ok (un .not v13_4) fun v14_6 =>
 Br v14_6
 (Q (.tuple #[(.int .u64 0), (.int .i64 2)]) H_5)
 (C X 67 [a0, a1, a2] H_5 fun v18_12 H_13 =>
 Ok (bin X .neq 25 v18_12 (.int .i64 0)) fun v20_16 =>
 Br v20_16
 (Q (.tuple #[(.int .u64 0), v18_12]) H_13)
 (Ok (bin X .add 3 a1 a2) fun v26_25 =>
 Ok (slice X 29 a0 (some a1) (some v26_25) none) fun v27_26 =>
 Ok2 (builtin X H_13 .len [29] [v27_26]) fun v28_27 H_28 =>
 ∀ P_30 : List Value → Heap → Prop, (∀ x9_31 x29_32 : Value, ∀ H_33,
 (Ok (bin X .lss 3 x29_32 v28_27) fun v30_34 =>
 Br v30_34
 (IA v27_26 x29_32 1 fun v31_35 =>
 Ld1 X H_33 v31_35 fun v32_36 =>
 Ok (bin X .shl 28 x9_31 (.int .u64 8)) fun v34_39 =>
 Ok2 (conv X H_33 5 28 v32_36) fun v36_41 H_42 =>
 Ok (bin X .or 28 v34_39 v36_41) fun v37_43 =>
 Ok (bin X .add 3 x29_32 (.int .i64 1)) fun v38_45 =>
 P_30 [v37_43, v38_45] H_42)
 (Q (.tuple #[x9_31, (.int .i64 0)]) H_33)) →
 P_30 [x9_31, x29_32] H_33) →
 P_30 [(.int .u64 0), (.int .i64 0)] H_28))

set_option maxRecDepth 100000 in
theorem w56_eq : (fun (ext : Nat → Nat → Option Value) (spec : FuncId → Option (List Value → Heap → Option (Value × Heap))) (a0 a1 a2 : Value) (H : Heap) (Q : Value → Heap → Prop) => w56 (Tab.ctx ext spec) a0 a1 a2 H Q) =
  fun ext spec a0 a1 a2 H Q => wpF (Tab.ctx ext spec) (fun i => cond (Nat.beq i 9) (some [9, 29]) (none)) (fun i => none) 56 [a0, a1, a2] H Q := by kernel_rfl

theorem w56_ok {ext : Nat → Nat → Option Value} {spec : FuncId → Option (List Value → Heap → Option (Value × Heap))} {a0 a1 a2 : Value} {H : Heap} {Q : Value → Heap → Prop} (hs : spec 56 = none) (h : w56 (Tab.ctx ext spec) a0 a1 a2 H Q) : C (Tab.ctx ext spec) 56 [a0, a1, a2] H Q :=
  C_of hs (Eq.mp (congrFun (congrFun (congrFun (congrFun (congrFun (congrFun (congrFun w56_eq ext) spec) a0) a1) a2) H) Q) h)

/-- trunkline/trunklineref08.Put -/
def w57 (X : Ctx) (a0 : Value) (H : Heap) (Q : Value → Heap → Prop) : Prop :=
 Al H (.cells (cellsOf a0) 78) fun v1_1 H_2 =>
 FA v1_1 0 fun v5_5 =>
 Ld1 X H_2 v5_5 fun v6_6 =>
 C X 68 [v6_6] H_2 fun v7_7 H_8 =>
 Ok (un .not v7_7) fun v8_9 =>
 Br v8_9
 (Q (.tuple #[(.slice none 0 0), (.int .i64 2)]) H_8)
 (FA v1_1 1 fun v10_16 =>
 Ld1 X H_8 v10_16 fun v11_17 =>
 C X 68 [v11_17] H_8 fun v12_18 H_19 =>
 Ok (un .not v12_18) fun v13_20 =>
 Br v13_20
 (Q (.tuple #[(.slice none 0 0), (.int .i64 2)]) H_19)
 (FA v1_1 2 fun v16_26 =>
 Ld1 X H_19 v16_26 fun v17_27 =>
 Ok (bin X .lss 76 v17_27 (.int .u16 1536)) fun v18_28 =>
 Br v18_28
 (Q (.tuple #[(.slice none 0 0), (.int .i64 2)]) H_19)
 (FA v1_1 3 fun v20_32 =>
 Ld1 X H_19 v20_32 fun v21_33 =>
 Ok2 (builtin X H_19 .len [29] [v21_33]) fun v22_34 H_35 =>
 Ok (bin X .gtr 3 v22_34 (.int .i64 1500)) fun v23_36 =>
 Br v23_36
 (Q (.tuple #[(.slice none 0 0), (.int .i64 6)]) H_35)
 (FA v1_1 0 fun v24_39 =>
 Ld1 X H_35 v24_39 fun v25_40 =>
 C X 69 [(.slice none 0 0), v25_40, (.int .i64 6)] H_35 fun v26_41 H_42 =>
 FA v1_1 1 fun v28_45 =>
 Ld1 X H_42 v28_45 fun v29_46 =>
 C X 69 [v26_41, v29_46, (.int .i64 6)] H_42 fun v30_47 H_48 =>
 FA v1_1 2 fun v32_51 =>
 Ld1 X H_48 v32_51 fun v33_52 =>
 Ok2 (conv X H_48 76 28 v33_52) fun v34_53 H_54 =>
 C X 69 [v30_47, v34_53, (.int .i64 2)] H_54 fun v35_55 H_56 =>
 FA v1_1 3 fun v37_59 =>
 Ld1 X H_56 v37_59 fun v38_60 =>
 Ok2 (builtin X H_56 .append [29, 29] [v35_55, v38_60]) fun v39_61 H_62 =>
 Q (.tuple #[v39_61, (.int .i64 0)]) H_62))))

set_option maxRecDepth 100000 in
theorem w57_eq : (fun (ext : Nat → Nat → Option Value) (spec : FuncId → Option (List Value → Heap → Option (Value × Heap))) (a0 : Value) (H : Heap) (Q : Value → Heap → Prop) => w57 (Tab.ctx ext spec) a0 H Q) =
  fun ext spec a0 H Q => wpF (Tab.ctx ext spec) (fun i => none) (fun i => none) 57 [a0] H Q := by kernel_rfl

theorem w57_ok {ext : Nat → Nat → Option Value} {spec : FuncId → Option (List Value → Heap → Option (Value × Heap))} {a0 : Value} {H : Heap} {Q : Value → Heap → Prop} (hs : spec 57 = none) (h : w57 (Tab.ctx ext spec) a0 H Q) : C (Tab.ctx ext spec) 57 [a0] H Q :=
  C_of hs (Eq.mp (congrFun (congrFun (congrFun (congrFun (congrFun w57_eq ext) spec) a0) H) Q) h)

/-- (*trunkline/trunklineref09.Cache).drop -/
def w58 (X : Ctx) (a0 a1 : Value) (H : Heap) (Q : Value → Heap → Prop) : Prop :=
 Ok2 (buildSlice X H 57 0 []) fun v5_1 H_2 =>
 Ok (nilCheck a0) fun v7_4 =>
 FA v7_4 3 fun v8_5 =>
 Ld1 X H_2 v8_5 fun v9_6 =>
 Ok (slice X 57 v9_6 none (some a1) none) fun v11_8 =>
 Ok2 (builtin X H_2 .append [57, 57] [v5_1, v11_8]) fun v12_9 H_10 =>
 Ok (nilCheck a0) fun v16_15 =>
 FA v16_15 3 fun v17_16 =>
 Ld1 X H_10 v17_16 fun v18_17 =>
 Ok (bin X .add 3 a1 (.int .i64 1)) fun v20_19 =>
 Ok (slice X 57 v18_17 (some v20_19) none none) fun v21_20 =>
 Ok2 (builtin X H_10 .append [57, 57] [v12_9, v21_20]) fun v22_21 H_22 =>
 Ok (nilCheck a0) fun v23_23 =>
 FA v23_23 3 fun v24_24 =>
 St H_22 v24_24 1 v22_21 fun H_26 =>
 Q (.tuple #[]) H_26

set_option maxRecDepth 100000 in
theorem w58_eq : (fun (ext : Nat → Nat → Option Value) (spec : FuncId → Option (List Value → Heap → Option (Value × Heap))) (a0 a1 : Value) (H : Heap) (Q : Value → Heap → Prop) => w58 (Tab.ctx ext spec) a0 a1 H Q) =
  fun ext spec a0 a1 H Q => wpF (Tab.ctx ext spec) (fun i => none) (fun i => none) 58 [a0, a1] H Q := by kernel_rfl

theorem w58_ok {ext : Nat → Nat → Option Value} {spec : FuncId → Option (List Value → Heap → Option (Value × Heap))} {a0 a1 : Value} {H : Heap} {Q : Value → Heap → Prop} (hs : spec 58 = none) (h : w58 (Tab.ctx ext spec) a0 a1 H Q) : C (Tab.ctx ext spec) 58 [a0, a1] H Q :=
  C_of hs (Eq.mp (congrFun (congrFun (congrFun (congrFun (congrFun (congrFun w58_eq ext) spec) a0) a1) H) Q) h)

/-- trunkline/trunklineref08.PutArp -/
def w59 (X : Ctx) (a0 : Value) (H : Heap) (Q : Value → Heap → Prop) : Prop :=
 Al H (.cells (cellsOf a0) 31) fun v1_1 H_2 =>
 FA v1_1 0 fun v5_5 =>
 Ld1 X H_2 v5_5 fun v6_6 =>
 Ok (bin X .neq 3 v6_6 (.int .i64 1)) fun v7_7 =>
 Br v7_7
 (FA v1_1 0 fun v9_9 =>
 Ld1 X H_2 v9_9 fun v10_10 =>
 Ok (bin X .neq 3 v10_10 (.int .i64 2)) fun v11_11 =>
 Br v11_11
 (Q (.tuple #[(.slice none 0 0), (.int .i64 2)]) H_2)
 (FA v1_1 1 fun v14_19 =>
 Ld1 X H_2 v14_19 fun v15_20 =>
 C X 68 [v15_20] H_2 fun v16_21 H_22 =>
 Ok (un .not v16_21) fun v17_23 =>
 Br v17_23
 (Q (.tuple #[(.slice none 0 0), (.int .i64 2)]) H_22)
 (FA v1_1 3 fun v20_29 =>
 Ld1 X H_22 v20_29 fun v21_30 =>
 C X 68 [v21_30] H_22 fun v22_31 H_32 =>
 Ok (un .not v22_31) fun v23_33 =>
 Br v23_33
 (Q (.tuple #[(.slice none 0 0), (.int .i64 2)]) H_32)
 (FA v1_1 0 fun v25_37 =>
 Ld1 X H_32 v25_37 fun v26_38 =>
 Ok2 (conv X H_32 3 5 v26_38) fun v27_39 H_40 =>
 Ok2 (buildSlice X H_40 29 8 [(0, (.int .u8 0)), (1, (.int .u8 1)), (2, (.int .u8 8)), (3, (.int .u8 0)), (4, (.int .u8 6)), (5, (.int .u8 4)), (6, (.int .u8 0)), (7, v27_39)]) fun v28_41 H_42 =>
 FA v1_1 1 fun v30_45 =>
 Ld1 X H_42 v30_45 fun v31_46 =>
 C X 69 [v28_41, v31_46, (.int .i64 6)] H_42 fun v32_47 H_48 =>
 FA v1_1 2 fun v34_51 =>
 Ld1 X H_48 v34_51 fun v35_52 =>
 Ok2 (conv X H_48 22 28 v35_52) fun v36_53 H_54 =>
 C X 69 [v32_47, v36_53, (.int .i64 4)] H_54 fun v37_55 H_56 =>
 FA v1_1 3 fun v39_59 =>
 Ld1 X H_56 v39_59 fun v40_60 =>
 C X 69 [v37_55, v40_60, (.int .i64 6)] H_56 fun v41_61 H_62 =>
 FA v1_1 4 fun v43_65 =>
 Ld1 X H_62 v43_65 fun v44_66 =>
 Ok2 (conv X H_62 22 28 v44_66) fun v45_67 H_68 =>
 C X 69 [v41_61, v45_67, (.int .i64 4)] H_68 fun v46_69 H_70 =>
 Q (.tuple #[v46_69, (.int .i64 0)]) H_70))))
 (FA v1_1 1 fun v14_75 =>
 Ld1 X H_2 v14_75 fun v15_76 =>
 C X 68 [v15_76] H_2 fun v16_77 H_78 =>
 Ok (un .not v16_77) fun v17_79 =>
 Br v17_79
 (Q (.tuple #[(.slice none 0 0), (.int .i64 2)]) H_78)
 (FA v1_1 3 fun v20_85 =>
 Ld1 X H_78 v20_85 fun v21_86 =>
 C X 68 [v21_86] H_78 fun v22_87 H_88 =>
 Ok (un .not v22_87) fun v23_89 =>
 Br v23_89
 (Q (.tuple #[(.slice none 0 0), (.int .i64 2)]) H_88)
 (FA v1_1 0 fun v25_93 =>
 Ld1 X H_88 v25_93 fun v26_94 =>
 Ok2 (conv X H_88 3 5 v26_94) fun v27_95 H_96 =>
 Ok2 (buildSlice X H_96 29 8 [(0, (.int .u8 0)), (1, (.int .u8 1)), (2, (.int .u8 8)), (3, (.int .u8 0)), (4, (.int .u8 6)), (5, (.int .u8 4)), (6, (.int .u8 0)), (7, v27_95)]) fun v28_97 H_98 =>
 FA v1_1 1 fun v30_101 =>
 Ld1 X H_98 v30_101 fun v31_102 =>
 C X 69 [v28_97, v31_102, (.int .i64 6)] H_98 fun v32_103 H_104 =>
 FA v1_1 2 fun v34_107 =>
 Ld1 X H_104 v34_107 fun v35_108 =>
 Ok2 (conv X H_104 22 28 v35_108) fun v36_109 H_110 =>
 C X 69 [v32_103, v36_109, (.int .i64 4)] H_110 fun v37_111 H_112 =>
 FA v1_1 3 fun v39_115 =>
 Ld1 X H_112 v39_115 fun v40_116 =>
 C X 69 [v37_111, v40_116, (.int .i64 6)] H_112 fun v41_117 H_118 =>
 FA v1_1 4 fun v43_121 =>
 Ld1 X H_118 v43_121 fun v44_122 =>
 Ok2 (conv X H_118 22 28 v44_122) fun v45_123 H_124 =>
 C X 69 [v41_117, v45_123, (.int .i64 4)] H_124 fun v46_125 H_126 =>
 Q (.tuple #[v46_125, (.int .i64 0)]) H_126)))

set_option maxRecDepth 100000 in
theorem w59_eq : (fun (ext : Nat → Nat → Option Value) (spec : FuncId → Option (List Value → Heap → Option (Value × Heap))) (a0 : Value) (H : Heap) (Q : Value → Heap → Prop) => w59 (Tab.ctx ext spec) a0 H Q) =
  fun ext spec a0 H Q => wpF (Tab.ctx ext spec) (fun i => none) (fun i => none) 59 [a0] H Q := by kernel_rfl

theorem w59_ok {ext : Nat → Nat → Option Value} {spec : FuncId → Option (List Value → Heap → Option (Value × Heap))} {a0 : Value} {H : Heap} {Q : Value → Heap → Prop} (hs : spec 59 = none) (h : w59 (Tab.ctx ext spec) a0 H Q) : C (Tab.ctx ext spec) 59 [a0] H Q :=
  C_of hs (Eq.mp (congrFun (congrFun (congrFun (congrFun (congrFun w59_eq ext) spec) a0) H) Q) h)

/-- slices.ContainsFuncuint64,uint64 -/
def w60 (X : Ctx) (a0 a1 : Value) (H : Heap) (Q : Value → Heap → Prop) : Prop :=
 C X 70 [a0, a1] H fun v7_4 H_5 =>
 Ok (bin X .geq 3 v7_4 (.int .i64 0)) fun v8_6 =>
 Q v8_6 H_5

set_option maxRecDepth 100000 in
theorem w60_eq : (fun (ext : Nat → Nat → Option Value) (spec : FuncId → Option (List Value → Heap → Option (Value × Heap))) (a0 a1 : Value) (H : Heap) (Q : Value → Heap → Prop) => w60 (Tab.ctx ext spec) a0 a1 H Q) =
  fun ext spec a0 a1 H Q => wpF (Tab.ctx ext spec) (fun i => none) (fun i => none) 60 [a0, a1] H Q := by kernel_rfl

theorem w60_ok {ext : Nat → Nat → Option Value} {spec : FuncId → Option (List Value → Heap → Option (Value × Heap))} {a0 a1 : Value} {H : Heap} {Q : Value → Heap → Prop} (hs : spec 60 = none) (h : w60 (Tab.ctx ext spec) a0 a1 H Q) : C (Tab.ctx ext spec) 60 [a0, a1] H Q :=
  C_of hs (Eq.mp (congrFun (congrFun (congrFun (congrFun (congrFun (congrFun w60_eq ext) spec) a0) a1) H) Q) h)

/-- trunkline/ether.card$1 -/
def w61 (X : Ctx) (a0 : Value) (H : Heap) (Q : Value → Heap → Prop) : Prop :=
 Ok (bin X .shr 28 a0 (.int .u64 48)) fun v4_3 =>
 Ok (bin X .neq 28 v4_3 (.int .u64 0)) fun v5_4 =>
 Q v5_4 H

set_option maxRecDepth 100000 in
theorem w61_eq : (fun (ext : Nat → Nat → Option Value) (spec : FuncId → Option (List Value → Heap → Option (Value × Heap))) (a0 : Value) (H : Heap) (Q : Value → Heap → Prop) => w61 (Tab.ctx ext spec) a0 H Q) =
  fun ext spec a0 H Q => wpF (Tab.ctx ext spec) (fun i => none) (fun i => none) 61 [a0] H Q := by kernel_rfl

theorem w61_ok {ext : Nat → Nat → Option Value} {spec : FuncId → Option (List Value → Heap → Option (Value × Heap))} {a0 : Value} {H : Heap} {Q : Value → Heap → Prop} (hs : spec 61 = none) (h : w61 (Tab.ctx ext spec) a0 H Q) : C (Tab.ctx ext spec) 61 [a0] H Q :=
  C_of hs (Eq.mp (congrFun (congrFun (congrFun (congrFun (congrFun w61_eq ext) spec) a0) H) Q) h)

/-- trunkline/octet.Bytes -/
def w62 (X : Ctx) (a0 a1 : Value) (H : Heap) (Q : Value → Heap → Prop) : Prop :=
 C X 66 [a1] H fun v10_4 H_5 =>
 Ok (un .not v10_4) fun v11_6 =>
 Br v11_6
 (Q (.tuple #[(.slice none 0 0), (.int .i64 2)]) H_5)
 (Ok (bin X .lss 3 a1 (.int .i64 8)) fun v14_11 =>
 Br v14_11
 (Ok (bin X .mul 3 (.int .i64 8) a1) fun v18_15 =>
 Ok (bin X .shr 28 a0 v18_15) fun v19_16 =>
 Ok (bin X .neq 28 v19_16 (.int .u64 0)) fun v20_17 =>
 Br v20_17
 (Q (.tuple #[(.slice none 0 0), (.int .i64 6)]) H_5)
 (Ok2 (makeSlice X H_5 29 a1 a1) fun v23_23 H_24 =>
 Ok2 (builtin X H_24 .len [29] [v23_23]) fun v25_27 H_28 =>
 ∀ P_30 : List Value → Heap → Prop, (∀ x26_31 : Value, ∀ H_32,
 (Ok (bin X .lss 3 x26_31 v25_27) fun v27_33 =>
 Br v27_33
 (Ok (bin X .sub 3 a1 (.int .i64 1)) fun v33_40 =>
 Ok (bin X .sub 3 v33_40 x26_31) fun v35_42 =>
 Ok (bin X .mul 3 (.int .i64 8) v35_42) fun v36_43 =>
 Ok (bin X .shr 28 a0 v36_43) fun v37_44 =>
 Ok2 (conv X H_32 28 5 v37_44) fun v38_45 H_46 =>
 IA v23_23 x26_31 1 fun v39_47 =>
 St H_46 v39_47 1 v38_45 fun H_49 =>
 Ok (bin X .add 3 x26_31 (.int .i64 1)) fun v40_50 =>
 P_30 [v40_50] H_49)
 (Q (.tuple #[v23_23, (.int .i64 0)]) H_32)) →
 P_30 [x26_31] H_32) →
 P_30 [(.int .i64 0)] H_28))
 (Ok2 (makeSlice X H_5 29 a1 a1) fun v23_58 H_59 =>
 Ok2 (builtin X H_59 .len [29] [v23_58]) fun v25_62 H_63 =>
 ∀ P_65 : List Value → Heap → Prop, (∀ x26_66 : Value, ∀ H_67,
 (Ok (bin X .lss 3 x26_66 v25_62) fun v27_68 =>
 Br v27_68
 (Ok (bin X .sub 3 a1 (.int .i64 1)) fun v33_75 =>
 Ok (bin X .sub 3 v33_75 x26_66) fun v35_77 =>
 Ok (bin X .mul 3 (.int .i64 8) v35_77) fun v36_78 =>
 Ok (bin X .shr 28 a0 v36_78) fun v37_79 =>
 Ok2 (conv X H_67 28 5 v37_79) fun v38_80 H_81 =>
 IA v23_58 x26_66 1 fun v39_82 =>
 St H_81 v39_82 1 v38_80 fun H_84 =>
 Ok (bin X .add 3 x26_66 (.int .i64 1)) fun v40_85 =>
 P_65 [v40_85] H_84)
 (Q (.tuple #[v23_58, (.int .i64 0)]) H_67)) →
 P_65 [x26_66] H_67) →
 P_65 [(.int .i64 0)] H_63))

set_option maxRecDepth 100000 in
theorem w62_eq : (fun (ext : Nat → Nat → Option Value) (spec : FuncId → Option (List Value → Heap → Option (Value × Heap))) (a0 a1 : Value) (H : Heap) (Q : Value → Heap → Prop) => w62 (Tab.ctx ext spec) a0 a1 H Q) =
  fun ext spec a0 a1 H Q => wpF (Tab.ctx ext spec) (fun i => cond (Nat.beq i 8) (some [26]) (none)) (fun i => none) 62 [a0, a1] H Q := by kernel_rfl

theorem w62_ok {ext : Nat → Nat → Option Value} {spec : FuncId → Option (List Value → Heap → Option (Value × Heap))} {a0 a1 : Value} {H : Heap} {Q : Value → Heap → Prop} (hs : spec 62 = none) (h : w62 (Tab.ctx ext spec) a0 a1 H Q) : C (Tab.ctx ext spec) 62 [a0, a1] H Q :=
  C_of hs (Eq.mp (congrFun (congrFun (congrFun (congrFun (congrFun (congrFun w62_eq ext) spec) a0) a1) H) Q) h)

/-- trunkline/octet.wide -/
def w66 (X : Ctx) (a0 : Value) (H : Heap) (Q : Value → Heap → Prop) : Prop :=
 Ok (bin X .geq 3 a0 (.int .i64 1)) fun v4_3 =>
 Br v4_3
 (Ok (bin X .leq 3 a0 (.int .i64 8)) fun v7_6 =>
 Q v7_6 H)
 (Q (.bool false) H)

set_option maxRecDepth 100000 in
theorem w66_eq : (fun (ext : Nat → Nat → Option Value) (spec : FuncId → Option (List Value → Heap → Option (Value × Heap))) (a0 : Value) (H : Heap) (Q : Value → Heap → Prop) => w66 (Tab.ctx ext spec) a0 H Q) =
  fun ext spec a0 H Q => wpF (Tab.ctx ext spec) (fun i => none) (fun i => none) 66 [a0] H Q := by kernel_rfl

theorem w66_ok {ext : Nat → Nat → Option Value} {spec : FuncId → Option (List Value → Heap → Option (Value × Heap))} {a0 : Value} {H : Heap} {Q : Value → Heap → Prop} (hs : spec 66 = none) (h : w66 (Tab.ctx ext spec) a0 H Q) : C (Tab.ctx ext spec) 66 [a0] H Q :=
  C_of hs (Eq.mp (congrFun (congrFun (congrFun (congrFun (congrFun w66_eq ext) spec) a0) H) Q) h)

/-- trunkline/octet.room -/
def w67 (X : Ctx) (a0 a1 a2 : Value) (H : Heap) (Q : Value → Heap → Prop) : Prop :=
 Ok (bin X .lss 3 a1 (.int .i64 0)) fun v9_3 =>
 Br v9_3
 (Q (.int .i64 2) H)
 (Ok2 (builtin X H .len [29] [a0]) fun v13_12 H_13 =>
 Ok (bin X .gtr 3 a1 v13_12) fun v14_14 =>
 Br v14_14
 (Q (.int .i64 2) H_13)
 (Ok (bin X .lss 3 a2 (.int .i64 0)) fun v18_21 =>
 Br v18_21
 (Q (.int .i64 2) H_13)
 (Ok2 (builtin X H_13 .len [29] [a0]) fun v23_27 H_28 =>
 Ok (bin X .sub 3 v23_27 a1) fun v25_30 =>
 Ok (bin X .gtr 3 a2 v25_30) fun v26_31 =>
 Br v26_31
 (Q (.int .i64 3) H_28)
 (Q (.int .i64 0) H_28))))

set_option maxRecDepth 100000 in
theorem w67_eq : (fun (ext : Nat → Nat → Option Value) (spec : FuncId → Option (List Value → Heap → Option (Value × Heap))) (a0 a1 a2 : Value) (H : Heap) (Q : Value → Heap → Prop) => w67 (Tab.ctx ext spec) a0 a1 a2 H Q) =
  fun ext spec a0 a1 a2 H Q => wpF (Tab.ctx ext spec) (fun i => none) (fun i => none) 67 [a0, a1, a2] H Q := by kernel_rfl

theorem w67_ok {ext : Nat → Nat → Option Value} {spec : FuncId → Option (List Value → Heap → Option (Value × Heap))} {a0 a1 a2 : Value} {H : Heap} {Q : Value → Heap → Prop} (hs : spec 67 = none) (h : w67 (Tab.ctx ext spec) a0 a1 a2 H Q) : C (Tab.ctx ext spec) 67 [a0, a1, a2] H Q :=
  C_of hs (Eq.mp (congrFun (congrFun (congrFun (congrFun (congrFun (congrFun (congrFun w67_eq ext) spec) a0) a1) a2) H) Q) h)

/-- trunkline/trunklineref08.card -/
def w68 (X : Ctx) (a0 : Value) (H : Heap) (Q : Value → Heap → Prop) : Prop :=
 Ok (bin X .lss 28 a0 (.int .u64 281474976710656)) fun v4_3 =>
 Q v4_3 H

set_option maxRecDepth 100000 in
theorem w68_eq : (fun (ext : Nat → Nat → Option Value) (spec : FuncId → Option (List Value → Heap → Option (Value × Heap))) (a0 : Value) (H : Heap) (Q : Value → Heap → Prop) => w68 (Tab.ctx ext spec) a0 H Q) =
  fun ext spec a0 H Q => wpF (Tab.ctx ext spec) (fun i => none) (fun i => none) 68 [a0] H Q := by kernel_rfl

theorem w68_ok {ext : Nat → Nat → Option Value} {spec : FuncId → Option (List Value → Heap → Option (Value × Heap))} {a0 : Value} {H : Heap} {Q : Value → Heap → Prop} (hs : spec 68 = none) (h : w68 (Tab.ctx ext spec) a0 H Q) : C (Tab.ctx ext spec) 68 [a0] H Q :=
  C_of hs (Eq.mp (congrFun (congrFun (congrFun (congrFun (congrFun w68_eq ext) spec) a0) H) Q) h)

/-- trunkline/trunklineref01.Lay -/
def w69 (X : Ctx) (a0 a1 a2 : Value) (H : Heap) (Q : Value → Heap → Prop) : Prop :=
 C X 82 [a1, a2] H fun v12_4 H_5 =>
 Ok (extract v12_4 0) fun v13_7 =>
 Ok (extract v12_4 1) fun v14_8 =>
 Ok2 (builtin X H_5 .append [29, 29] [a0, v13_7]) fun v17_13 H_14 =>
 Q v17_13 H_14

set_option maxRecDepth 100000 in
theorem w69_eq : (fun (ext : Nat → Nat → Option Value) (spec : FuncId → Option (List Value → Heap → Option (Value × Heap))) (a0 a1 a2 : Value) (H : Heap) (Q : Value → Heap → Prop) => w69 (Tab.ctx ext spec) a0 a1 a2 H Q) =
  fun ext spec a0 a1 a2 H Q => wpF (Tab.ctx ext spec) (fun i => none) (fun i => none) 69 [a0, a1, a2] H Q := by kernel_rfl

theorem w69_ok {ext : Nat → Nat → Option Value} {spec : FuncId → Option (List Value → Heap → Option (Value × Heap))} {a0 a1 a2 : Value} {H : Heap} {Q : Value → Heap → Prop} (hs : spec 69 = none) (h : w69 (Tab.ctx ext spec) a0 a1 a2 H Q) : C (Tab.ctx ext spec) 69 [a0, a1, a2] H Q :=
  C_of hs (Eq.mp (congrFun (congrFun (congrFun (congrFun (congrFun (congrFun (congrFun w69_eq ext) spec) a0) a1) a2) H) Q) h)

/-- slices.IndexFuncuint64,uint64 -/
def w70 (X : Ctx) (a0 a1 : Value) (H : Heap) (Q : Value → Heap → Prop) : Prop :=
 Ok2 (builtin X H .len [107] [a0]) fun v7_3 H_4 =>
 ∀ P_6 : List Value → Heap → Prop, (∀ x8_7 : Value, ∀ H_8,
 (Ok (bin X .lss 3 x8_7 v7_3) fun v9_9 =>
 Br v9_9
 (IA a0 x8_7 1 fun v14_15 =>
 Ld1 X H_8 v14_15 fun v15_16 =>
 CV X a1 [v15_16] H_8 fun v16_17 H_18 =>
 Br v16_17
 (Q x8_7 H_18)
 (Ok (bin X .add 3 x8_7 (.int .i64 1)) fun v18_21 =>
 P_6 [v18_21] H_18))
 (Q (.int .i64 (-1)) H_8)) →
 P_6 [x8_7] H_8) →
 P_6 [(.int .i64 0)] H_4

set_option maxRecDepth 100000 in
theorem w70_eq : (fun (ext : Nat → Nat → Option Value) (spec : FuncId → Option (List Value → Heap → Option (Value × Heap))) (a0 a1 : Value) (H : Heap) (Q : Value → Heap → Prop) => w70 (Tab.ctx ext spec) a0 a1 H Q) =
  fun ext spec a0 a1 H Q => wpF (Tab.ctx ext spec) (fun i => cond (Nat.beq i 3) (some [8]) (none)) (fun i => none) 70 [a0, a1] H Q := by kernel_rfl

theorem w70_ok {ext : Nat → Nat → Option Value} {spec : FuncId → Option (List Value → Heap → Option (Value × Heap))} {a0 a1 : Value} {H : Heap} {Q : Value → Heap → Prop} (hs : spec 70 = none) (h : w70 (Tab.ctx ext spec) a0 a1 H Q) : C (Tab.ctx ext spec) 70 [a0, a1] H Q :=
  C_of hs (Eq.mp (congrFun (congrFun (congrFun (congrFun (congrFun (congrFun w70_eq ext) spec) a0) a1) H) Q) h)

/-- trunkline/trunklineref01.Bytes -/
def w82 (X : Ctx) (a0 a1 : Value) (H : Heap) (Q : Value → Heap → Prop) : Prop :=
 Ok (bin X .lss 3 a1 (.int .i64 1)) fun v9_4 =>
 Br v9_4
 (Q (.tuple #[(.slice none 0 0), (.int .i64 2)]) H)
 (Ok (bin X .gtr 3 a1 (.int .i64 8)) fun v12_10 =>
 Br v12_10
 (Q (.tuple #[(.slice none 0 0), (.int .i64 2)]) H)
 (Ok2 (makeSlice X H 29 a1 a1) fun v15_15 H_16 =>
 Ok (bin X .sub 3 a1 (.int .i64 1)) fun v17_19 =>
 ∀ P_21 : List Value → Heap → Prop, (∀ x0_22 x7_23 : Value, ∀ H_24,
 (Ok (bin X .geq 3 x7_23 (.int .i64 0)) fun v19_26 =>
 Br v19_26
 (Ok (bin X .rem 28 x0_22 (.int .u64 256)) fun v25_30 =>
 Ok2 (conv X H_24 28 5 v25_30) fun v26_31 H_32 =>
 IA v15_15 x7_23 1 fun v27_33 =>
 St H_32 v27_33 1 v26_31 fun H_35 =>
 Ok (bin X .quo 28 x0_22 (.int .u64 256)) fun v29_37 =>
 Ok (bin X .sub 3 x7_23 (.int .i64 1)) fun v21_40 =>
 P_21 [v29_37, v21_40] H_35)
 (Ok (bin X .gtr 28 x0_22 (.int .u64 0)) fun v31_43 =>
 Br v31_43
 (Q (.tuple #[(.slice none 0 0), (.int .i64 6)]) H_24)
 (Q (.tuple #[v15_15, (.int .i64 0)]) H_24))) →
 P_21 [x0_22, x7_23] H_24) →
 P_21 [a0, v17_19] H_16))

set_option maxRecDepth 100000 in
theorem w82_eq : (fun (ext : Nat → Nat → Option Value) (spec : FuncId → Option (List Value → Heap → Option (Value × Heap))) (a0 a1 : Value) (H : Heap) (Q : Value → Heap → Prop) => w82 (Tab.ctx ext spec) a0 a1 H Q) =
  fun ext spec a0 a1 H Q => wpF (Tab.ctx ext spec) (fun i => cond (Nat.beq i 6) (some [0, 7]) (none)) (fun i => none) 82 [a0, a1] H Q := by kernel_rfl

theorem w82_ok {ext : Nat → Nat → Option Value} {spec : FuncId → Option (List Value → Heap → Option (Value × Heap))} {a0 a1 : Value} {H : Heap} {Q : Value → Heap → Prop} (hs : spec 82 = none) (h : w82 (Tab.ctx ext spec) a0 a1 H Q) : C (Tab.ctx ext spec) 82 [a0, a1] H Q :=
  C_of hs (Eq.mp (congrFun (congrFun (congrFun (congrFun (congrFun (congrFun w82_eq ext) spec) a0) a1) H) Q) h)

end
end Ev
end Go.Proofs.Ytglkgmomnbdkoaa
