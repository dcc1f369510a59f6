/- Texts of this work, put together: D. -/
import Derived.Test.YtplpjikcgheiiaaU1
import Derived.Test.YtplpjikcgheiiaaProg
import Derived.KernelRfl
/- Functions of the program, read as statements without slots. Written by a program of this work. -/
namespace Go.Proofs.Ytplpjikcgheiiaa
open Go Xf
set_option maxRecDepth 100000
set_option linter.unusedVariables false

theorem mixed : Try.prog.follows .mixedOrders = true := by kernel_rfl

def flotillalaw09_WalGone_k1 (C : Comb) (w : World) (Q : Value → World → Prop) : Prop :=
  C.calls 9 #[] w fun v28_1 w =>
  Q v28_1 w
def flotillalaw09_WalGone_k2 (C : Comb) (u7_2 : Value) (u9_2 : Value) (w : World) (Q : Value → World → Prop) : Prop :=
  C.calls 16 #[u7_2] w fun v120_1 w =>
  C.calls 17 #[v120_1, u9_2] w fun v122_1 w =>
  C.bool v122_1
  (C.calls 9 #[] w fun v124_1 w =>
  Q v124_1 w)
  (Q (.bool false) w)
def flotillalaw09_WalGone_k3 (C : Comb) (vs_1 : List Value) (again_1 : List Value → World → Prop) (u7_3 : Value) (u9_3 : Value) (w : World) (Q : Value → World → Prop) : Prop :=
  C.step (sBin .add 3 (.tmp 48) (.const (.int .i64 1)) (vs_1.getD 2 undef) (.int .i64 1)) w fun v49_1 w =>
  again_1 [u7_3, u9_3, v49_1] w
def flotillalaw09_WalGone_k4 (C : Comb) (v16_1 : Value) (vs_1 : List Value) (again_1 : List Value → World → Prop) (v11_1 : Value) (v60_1 : Value) (u61_4 : Value) (w : World) (Q : Value → World → Prop) : Prop :=
  C.bool u61_4
  (C.step (sFieldAddr 43 v11_1 3) w fun v65_1 w =>
  C.step (sLoad 41 v65_1) w fun v66_1 w =>
  C.calls 12 #[(vs_1.getD 0 undef), v66_1] w fun v67_1 w =>
  C.step (sBin .eql 24 (.tmp 67) (.const (.int .i64 0)) v67_1 (.int .i64 0)) w fun v68_1 w =>
  C.bool v68_1
  (C.step (sFieldAddr 43 v11_1 3) w fun v70_1 w =>
  C.step (sLoad 41 v70_1) w fun v71_1 w =>
  C.step (sBuildSlice 31 1 [(0, v71_1)]) w fun v72_1 w =>
  C.step (sBuiltin .append #[31, 31] 31 [false, false] [(vs_1.getD 1 undef), v72_1]) w fun v73_1 w =>
  flotillalaw09_WalGone_k3 C vs_1 again_1 (vs_1.getD 0 undef) v73_1 w Q)
  (flotillalaw09_WalGone_k3 C vs_1 again_1 (vs_1.getD 0 undef) (vs_1.getD 1 undef) w Q))
  (C.step (sBin .eql 3 (.tmp 60) (.const (.int .i64 4)) v60_1 (.int .i64 4)) w fun v75_1 w =>
  C.bool v75_1
  (C.calls 13 #[(vs_1.getD 0 undef)] w fun v77_1 w =>
  flotillalaw09_WalGone_k3 C vs_1 again_1 (vs_1.getD 0 undef) (vs_1.getD 1 undef) w Q)
  (C.step (sBin .eql 3 (.tmp 60) (.const (.int .i64 5)) v60_1 (.int .i64 5)) w fun v79_1 w =>
  C.bool v79_1
  (C.calls 14 #[(vs_1.getD 0 undef)] w fun v81_1 w =>
  flotillalaw09_WalGone_k3 C vs_1 again_1 (vs_1.getD 0 undef) (vs_1.getD 1 undef) w Q)
  (C.step (sBin .eql 3 (.tmp 60) (.const (.int .i64 6)) v60_1 (.int .i64 6)) w fun v83_1 w =>
  C.bool v83_1
  (C.step (sFieldAddr 43 v11_1 1) w fun v85_1 w =>
  C.step (sLoad 3 v85_1) w fun v86_1 w =>
  C.calls 15 #[v16_1, (.int .i64 2), v86_1] w fun v87_1 w =>
  C.calls 10 #[v16_1, (.int .i64 2)] w fun v90_1 w =>
  C.step (sExtract v90_1 0) w fun v91_1 w =>
  C.step (sExtract v90_1 1) w fun v92_1 w =>
  C.step (sBin .eql 28 (.tmp 93) (.const (.pointer none)) v91_1 (.pointer none)) w fun v94_1 w =>
  C.bool v94_1
  (Q (.bool false) w)
  (C.step (sBin .neq 24 (.tmp 96) (.const (.int .i64 0)) v92_1 (.int .i64 0)) w fun v97_1 w =>
  C.bool v97_1
  (Q (.bool false) w)
  (C.calls 16 #[v91_1] w fun v100_1 w =>
  C.step (sBuiltin .len #[31] 3 [false] [v100_1]) w fun v102_1 w =>
  C.step (sBuiltin .len #[31] 3 [false] [(vs_1.getD 1 undef)]) w fun v104_1 w =>
  C.step (sBin .gtr 3 (.tmp 102) (.tmp 104) v102_1 v104_1) w fun v105_1 w =>
  C.bool v105_1
  (Q (.bool false) w)
  (C.step (sBuiltin .len #[31] 3 [false] [v100_1]) w fun v110_1 w =>
  C.step (sSlice 31 (vs_1.getD 1 undef) none (some v110_1) none) w fun v111_1 w =>
  C.calls 17 #[v100_1, v111_1] w fun v112_1 w =>
  C.step (sUn .not v112_1) w fun v113_1 w =>
  C.bool v113_1
  (Q (.bool false) w)
  (C.step (sBuiltin .len #[31] 3 [false] [v100_1]) w fun v117_1 w =>
  C.step (sSlice 31 (vs_1.getD 1 undef) none (some v117_1) none) w fun v118_1 w =>
  flotillalaw09_WalGone_k3 C vs_1 again_1 v91_1 v118_1 w Q)))))
  (flotillalaw09_WalGone_k3 C vs_1 again_1 (vs_1.getD 0 undef) (vs_1.getD 1 undef) w Q))))
def flotillalaw09_WalGone_x (C : Comb) (a0 : Value) (a1 : Value) (w : World) (Q : Value → World → Prop) : Prop :=
  C.calls 8 #[a0] w fun v15_1 w =>
  C.step (sExtract v15_1 0) w fun v16_1 w =>
  C.step (sExtract v15_1 1) w fun v17_1 w =>
  C.step (sBin .neq 24 (.tmp 18) (.const (.int .i64 0)) v17_1 (.int .i64 0)) w fun v19_1 w =>
  C.bool v19_1
  (flotillalaw09_WalGone_k1 C w Q)
  (C.step (sBin .gtr 3 (.tmp 21) (.const (.int .i64 4096)) a0 (.int .i64 4096)) w fun v22_1 w =>
  C.bool v22_1
  (flotillalaw09_WalGone_k1 C w Q)
  (C.step (sBin .lss 3 (.tmp 25) (.const (.int .i64 64)) a0 (.int .i64 64)) w fun v26_1 w =>
  C.bool v26_1
  (C.calls 9 #[] w fun v28_2 w =>
  Q v28_2 w)
  (C.calls 10 #[v16_1, (.int .i64 2)] w fun v31_1 w =>
  C.step (sExtract v31_1 0) w fun v32_1 w =>
  C.step (sExtract v31_1 1) w fun v33_1 w =>
  C.step (sBin .eql 28 (.tmp 34) (.const (.pointer none)) v32_1 (.pointer none)) w fun v35_1 w =>
  C.bool v35_1
  (Q (.bool false) w)
  (C.step (sBin .neq 24 (.tmp 37) (.const (.int .i64 0)) v33_1 (.int .i64 0)) w fun v38_1 w =>
  C.bool v38_1
  (Q (.bool false) w)
  (C.loop [v32_1, (.slice none 0 0), (.int .i64 0)] w fun dv_1 vs_1 w again_1 =>
  C.step (sBuiltin .len #[22] 3 [false] [a1]) w fun v42_1 w =>
  C.step (sBin .lss 3 (.tmp 40) (.tmp 42) (vs_1.getD 2 undef) v42_1) w fun v43_1 w =>
  C.bool v43_1
  (C.step (sBin .lss 3 (.tmp 45) (.const (.int .i64 60)) (vs_1.getD 2 undef) (.int .i64 60)) w fun v46_1 w =>
  C.bool v46_1
  (C.step (sIndexAddr 22 a1 (vs_1.getD 2 undef)) w fun v52_1 w =>
  C.step (sLoad 43 v52_1) w fun v53_1 w =>
  C.step (sAlloc 43) w fun v11_1 w =>
  C.step (sStore 43 v11_1 v53_1) w fun vx_1 w =>
  C.step (sFieldAddr 43 v11_1 3) w fun v54_1 w =>
  C.step (sLoad 41 v54_1) w fun v55_1 w =>
  C.calls 11 #[v55_1] w fun v56_1 w =>
  C.step (sUn .not v56_1) w fun v57_1 w =>
  C.bool v57_1
  (C.calls 9 #[] w fun v58_1 w =>
  Q v58_1 w)
  (C.step (sFieldAddr 43 v11_1 0) w fun v59_1 w =>
  C.step (sLoad 3 v59_1) w fun v60_1 w =>
  C.step (sBin .eql 3 (.tmp 60) (.const (.int .i64 0)) v60_1 (.int .i64 0)) w fun v62_1 w =>
  C.bool v62_1
  (flotillalaw09_WalGone_k4 C v16_1 vs_1 again_1 v11_1 v60_1 v62_1 w Q)
  (C.step (sBin .eql 3 (.tmp 60) (.const (.int .i64 2)) v60_1 (.int .i64 2)) w fun v63_1 w =>
  flotillalaw09_WalGone_k4 C v16_1 vs_1 again_1 v11_1 v60_1 v63_1 w Q)))
  (flotillalaw09_WalGone_k2 C (vs_1.getD 0 undef) (vs_1.getD 1 undef) w Q))
  (flotillalaw09_WalGone_k2 C (vs_1.getD 0 undef) (vs_1.getD 1 undef) w Q))))))
theorem flotillalaw09_WalGone_eq (C : Comb) (a0 : Value) (a1 : Value) (w : World) (Q : Value → World → Prop) : flotillalaw09_WalGone_x C a0 a1 w Q = FunY Try.prog C 2 [] Try.f3 [a0, a1] w Q := by kernel_rfl
theorem flotillalaw09_WalGone_sound (a0 : Value) (a1 : Value) {w : World} {Q : Value → World → Prop} (h : flotillalaw09_WalGone_x (std Try.prog) a0 a1 w Q) : CallsR Try.prog 3 #[a0, a1] w Q :=
  calls_of_funY mixed Try.func3 (Eq.mp (flotillalaw09_WalGone_eq _ a0 a1 w Q) h)

def flotillalaw09_WalReads_k1 (C : Comb) (w : World) (Q : Value → World → Prop) : Prop :=
  Q (.bool false) w
def flotillalaw09_WalReads_k2 (C : Comb) (u4_2 : Value) (w : World) (Q : Value → World → Prop) : Prop :=
  Q u4_2 w
def flotillalaw09_WalReads_k3 (C : Comb) (w : World) (Q : Value → World → Prop) : Prop :=
  Q (.bool false) w
def flotillalaw09_WalReads_x (C : Comb) (a0 : Value) (a1 : Value) (w : World) (Q : Value → World → Prop) : Prop :=
  C.step (sBuiltin .len #[51] 3 [false] [a0]) w fun v18_1 w =>
  C.step (sBin .add 3 (.tmp 18) (.const (.int .i64 63)) v18_1 (.int .i64 63)) w fun v19_1 w =>
  C.step (sBin .quo 3 (.tmp 19) (.const (.int .i64 64)) v19_1 (.int .i64 64)) w fun v20_1 w =>
  C.step (sBin .mul 3 (.tmp 20) (.const (.int .i64 64)) v20_1 (.int .i64 64)) w fun v21_1 w =>
  C.step (sBuiltin .len #[51] 3 [false] [a0]) w fun v23_1 w =>
  C.step (sBin .gtr 3 (.tmp 23) (.const (.int .i64 4096)) v23_1 (.int .i64 4096)) w fun v24_1 w =>
  C.bool v24_1
  (C.calls 9 #[] w fun v30_1 w =>
  Q v30_1 w)
  (C.step (sBuiltin .len #[51] 3 [false] [a0]) w fun v27_1 w =>
  C.step (sBin .eql 3 (.tmp 27) (.const (.int .i64 0)) v27_1 (.int .i64 0)) w fun v28_1 w =>
  C.bool v28_1
  (C.calls 9 #[] w fun v30_2 w =>
  Q v30_2 w)
  (C.calls 8 #[v21_1] w fun v33_1 w =>
  C.step (sExtract v33_1 0) w fun v34_1 w =>
  C.step (sExtract v33_1 1) w fun v35_1 w =>
  C.calls 18 #[v21_1] w fun v38_1 w =>
  C.step (sExtract v38_1 0) w fun v39_1 w =>
  C.step (sExtract v38_1 1) w fun v40_1 w =>
  C.step (sAlloc 56) w fun v8_1 w =>
  C.step (sStore 56 v8_1 v39_1) w fun vx_1 w =>
  C.step (sMakeSlice 51 v21_1 v21_1) w fun v42_1 w =>
  C.step (sBuiltin .copy #[51, 51] 3 [false, false] [v42_1, a0]) w fun v45_1 w =>
  C.step (sBin .eql 23 (.tmp 46) (.const (.pointer none)) v34_1 (.pointer none)) w fun v47_1 w =>
  C.bool v47_1
  (flotillalaw09_WalReads_k1 C w Q)
  (C.calls 19 #[v34_1, (.int .i64 0), (.int .i64 0), v42_1] w fun v51_1 w =>
  C.step (sBin .neq 24 (.tmp 51) (.const (.int .i64 0)) v51_1 (.int .i64 0)) w fun v52_1 w =>
  C.bool v52_1
  (flotillalaw09_WalReads_k1 C w Q)
  (C.calls 20 #[v34_1, (.int .i64 0)] w fun v56_1 w =>
  C.step (sBin .neq 24 (.tmp 56) (.const (.int .i64 0)) v56_1 (.int .i64 0)) w fun v57_1 w =>
  C.bool v57_1
  (Q (.bool false) w)
  (C.step (sConv 51 9 v42_1) w fun v60_1 w =>
  C.step (sFieldAddr 56 v8_1 0) w fun v61_1 w =>
  C.step (sStore 9 v61_1 v60_1) w fun vx_2 w =>
  C.draw w fun S_1 w =>
  C.stepS S_1 (sLoad 56 v8_1) fun v64_1 =>
  C.calls 21 #[v34_1] w fun v63_1 w =>
  C.keepS S_1 w fun S_2 =>
  C.calls 22 #[v64_1] w fun v65_1 w =>
  C.keepT w fun S_3 =>
  C.calls 17 #[v63_1, v65_1] w fun v66_1 w =>
  C.keepT w fun S_4 =>
  C.stepS S_4 (sUn .not v66_1) fun v67_1 =>
  C.bool v67_1
  (Q (.bool false) w)
  (C.calls 10 #[v34_1, a1] w fun v71_1 w =>
  C.step (sExtract v71_1 0) w fun v72_1 w =>
  C.step (sExtract v71_1 1) w fun v73_1 w =>
  C.step (sLoad 56 v8_1) w fun v75_1 w =>
  C.calls 23 #[v75_1, a1] w fun v77_1 w =>
  C.step (sExtract v77_1 0) w fun v78_1 w =>
  C.step (sExtract v77_1 1) w fun v79_1 w =>
  C.step (sAlloc 64) w fun v13_1 w =>
  C.step (sStore 64 v13_1 v78_1) w fun vx_3 w =>
  C.step (sBin .neq 24 (.tmp 80) (.tmp 81) v73_1 v79_1) w fun v82_1 w =>
  C.bool v82_1
  (Q (.bool false) w)
  (C.step (sBin .eql 28 (.tmp 84) (.const (.pointer none)) v72_1 (.pointer none)) w fun v85_1 w =>
  C.step (sBin .neq 24 (.tmp 86) (.const (.int .i64 0)) v79_1 (.int .i64 0)) w fun v87_1 w =>
  C.step (sBin .neq 4 (.tmp 85) (.tmp 87) v85_1 v87_1) w fun v88_1 w =>
  C.bool v88_1
  (Q (.bool false) w)
  (C.calls 24 #[v34_1, (.int .i64 0), v21_1] w fun v93_1 w =>
  C.step (sExtract v93_1 0) w fun v94_1 w =>
  C.step (sExtract v93_1 1) w fun v95_1 w =>
  C.draw w fun S_5 w =>
  C.stepS S_5 (sConv 51 9 v94_1) fun v97_1 =>
  C.stepS S_5 (sFieldAddr 56 v8_1 0) fun v98_1 =>
  C.stepS S_5 (sLoad 9 v98_1) fun v99_1 =>
  C.stepS S_5 (sBin .eql 9 (.tmp 97) (.tmp 99) v97_1 v99_1) fun v100_1 =>
  C.bool v100_1
  (C.stepS S_5 (sBin .eql 28 (.tmp 102) (.const (.pointer none)) v72_1 (.pointer none)) fun v103_1 =>
  C.bool v103_1
  (C.calls 9 #[] w fun v122_1 w =>
  C.keepT w fun S_6 =>
  flotillalaw09_WalReads_k2 C v122_1 w Q)
  (C.stepS S_5 (sFieldAddr 64 v13_1 5) fun v107_1 =>
  C.stepS S_5 (sLoad 31 v107_1) fun v108_1 =>
  C.calls 16 #[v72_1] w fun v106_1 w =>
  C.keepS S_5 w fun S_7 =>
  C.calls 17 #[v106_1, v108_1] w fun v109_1 w =>
  C.keepT w fun S_8 =>
  C.bool v109_1
  (C.stepS S_8 (sLoad 64 v13_1) fun v113_1 =>
  C.stepS S_8 (sFieldAddr 64 v13_1 1) fun v114_1 =>
  C.stepS S_8 (sLoad 3 v114_1) fun v115_1 =>
  C.calls 25 #[v72_1] w fun v112_1 w =>
  C.keepS S_8 w fun S_9 =>
  C.calls 26 #[v113_1, v115_1] w fun v116_1 w =>
  C.keepT w fun S_10 =>
  C.stepS S_10 (sBin .eql 34 (.tmp 112) (.tmp 116) v112_1 v116_1) fun v117_1 =>
  C.bool v117_1
  (C.calls 9 #[] w fun v122_2 w =>
  C.keepT w fun S_11 =>
  flotillalaw09_WalReads_k2 C v122_2 w Q)
  (flotillalaw09_WalReads_k3 C w Q))
  (flotillalaw09_WalReads_k3 C w Q)))
  (flotillalaw09_WalReads_k3 C w Q)))))))))
theorem flotillalaw09_WalReads_eq (C : Comb) (a0 : Value) (a1 : Value) (w : World) (Q : Value → World → Prop) : flotillalaw09_WalReads_x C a0 a1 w Q = FunY Try.prog C 2 [] Try.f4 [a0, a1] w Q := by kernel_rfl
theorem flotillalaw09_WalReads_sound (a0 : Value) (a1 : Value) {w : World} {Q : Value → World → Prop} (h : flotillalaw09_WalReads_x (std Try.prog) a0 a1 w Q) : CallsR Try.prog 4 #[a0, a1] w Q :=
  calls_of_funY mixed Try.func4 (Eq.mp (flotillalaw09_WalReads_eq _ a0 a1 w Q) h)

def flotillalaw09_WalKeeps_k1 (C : Comb) (w : World) (Q : Value → World → Prop) : Prop :=
  C.calls 9 #[] w fun v39_1 w =>
  Q v39_1 w
def flotillalaw09_WalKeeps_k3 (C : Comb) (w : World) (Q : Value → World → Prop) : Prop :=
  Q (.bool false) w
def flotillalaw09_WalKeeps_k2 (C : Comb) (a0 : Value) (v5_1 : Value) (v43_1 : Value) (v57_1 : Value) (w : World) (Q : Value → World → Prop) : Prop :=
  C.draw w fun S_1 w =>
  C.stepS S_1 (sUn .not v57_1) fun v131_1 =>
  C.bool v131_1
  (C.calls 9 #[] w fun v139_1 w =>
  Q v139_1 w)
  (C.stepS S_1 (sFieldAddr 41 v5_1 1) fun v133_1 =>
  C.stepS S_1 (sLoad 34 v133_1) fun v134_1 =>
  C.calls 32 #[v43_1] w fun v136_1 w =>
  C.keepS S_1 w fun S_2 =>
  C.stepS S_2 (sBin .leq 34 (.tmp 134) (.tmp 136) v134_1 v136_1) fun v137_1 =>
  C.bool v137_1
  (C.calls 9 #[] w fun v139_2 w =>
  Q v139_2 w)
  (C.draw w fun S_3 w =>
  C.stepS S_3 (sLoad 41 v5_1) fun v141_1 =>
  C.calls 33 #[v43_1, v141_1] w fun v142_1 w =>
  C.keepT w fun S_4 =>
  C.stepS S_4 (sBin .eql 24 (.tmp 142) (.const (.int .i64 0)) v142_1 (.int .i64 0)) fun v143_1 =>
  C.bool v143_1
  (C.stepS S_4 (sFieldAddr 41 v5_1 1) fun v147_1 =>
  C.stepS S_4 (sLoad 34 v147_1) fun v148_1 =>
  C.calls 32 #[v43_1] w fun v146_1 w =>
  C.keepS S_4 w fun S_5 =>
  C.stepS S_5 (sBin .eql 34 (.tmp 146) (.tmp 148) v146_1 v148_1) fun v149_1 =>
  C.bool v149_1
  (C.stepS S_5 (sBin .sub 3 (.tmp 156) (.const (.int .i64 64)) a0 (.int .i64 64)) fun v157_1 =>
  C.calls 16 #[v43_1] w fun v153_1 w =>
  C.keepS S_5 w fun S_6 =>
  C.calls 34 #[v153_1] w fun v154_1 w =>
  C.keepS S_6 w fun S_7 =>
  C.stepS S_7 (sBuiltin .len #[9] 3 [false] [v154_1]) fun v155_1 =>
  C.stepS S_7 (sBin .leq 3 (.tmp 155) (.tmp 157) v155_1 v157_1) fun v158_1 =>
  C.bool v158_1
  (C.calls 9 #[] w fun v161_1 w =>
  C.keepT w fun S_8 =>
  Q v161_1 w)
  (flotillalaw09_WalKeeps_k3 C w Q))
  (flotillalaw09_WalKeeps_k3 C w Q))
  (flotillalaw09_WalKeeps_k3 C w Q)))
def flotillalaw09_WalKeeps_k4 (C : Comb) (vs_1 : List Value) (again_1 : List Value → World → Prop) (w : World) (Q : Value → World → Prop) : Prop :=
  C.step (sBin .add 3 (.tmp 72) (.const (.int .i64 1)) (vs_1.getD 0 undef) (.int .i64 1)) w fun v73_1 w =>
  again_1 [v73_1] w
def flotillalaw09_WalKeeps_k6 (C : Comb) (w : World) (Q : Value → World → Prop) : Prop :=
  Q (.bool false) w
def flotillalaw09_WalKeeps_k5 (C : Comb) (v43_1 : Value) (v53_1 : Value) (v57_1 : Value) (vs_1 : List Value) (again_1 : List Value → World → Prop) (w : World) (Q : Value → World → Prop) : Prop :=
  C.calls 30 #[v43_1] w fun v114_1 w =>
  C.step (sBin .lss 3 (.tmp 114) (.const (.int .i64 0)) v114_1 (.int .i64 0)) w fun v115_1 w =>
  C.bool v115_1
  (flotillalaw09_WalKeeps_k6 C w Q)
  (C.calls 31 #[v43_1] w fun v118_1 w =>
  C.step (sBin .lss 3 (.tmp 118) (.const (.int .i64 0)) v118_1 (.int .i64 0)) w fun v119_1 w =>
  C.bool v119_1
  (flotillalaw09_WalKeeps_k6 C w Q)
  (C.bool v57_1
  (C.calls 31 #[v43_1] w fun v125_1 w =>
  C.step (sBin .lss 3 (.tmp 125) (.tmp 126) v125_1 v53_1) w fun v127_1 w =>
  C.bool v127_1
  (Q (.bool false) w)
  (flotillalaw09_WalKeeps_k4 C vs_1 again_1 w Q))
  (flotillalaw09_WalKeeps_k4 C vs_1 again_1 w Q)))
def flotillalaw09_WalKeeps_x (C : Comb) (a0 : Value) (a1 : Value) (a2 : Value) (w : World) (Q : Value → World → Prop) : Prop :=
  C.step (sBox 41 a2) w fun v5_1 w =>
  C.calls 8 #[a0] w fun v16_1 w =>
  C.step (sExtract v16_1 0) w fun v17_1 w =>
  C.step (sExtract v16_1 1) w fun v18_1 w =>
  C.step (sBin .neq 24 (.tmp 19) (.const (.int .i64 0)) v18_1 (.int .i64 0)) w fun v20_1 w =>
  C.bool v20_1
  (flotillalaw09_WalKeeps_k1 C w Q)
  (C.step (sBin .gtr 3 (.tmp 22) (.const (.int .i64 4096)) a0 (.int .i64 4096)) w fun v23_1 w =>
  C.bool v23_1
  (flotillalaw09_WalKeeps_k1 C w Q)
  (C.step (sBin .lss 3 (.tmp 26) (.const (.int .i64 64)) a0 (.int .i64 64)) w fun v27_1 w =>
  C.bool v27_1
  (flotillalaw09_WalKeeps_k1 C w Q)
  (C.step (sLoad 41 v5_1) w fun v30_1 w =>
  C.calls 11 #[v30_1] w fun v31_1 w =>
  C.step (sUn .not v31_1) w fun v32_1 w =>
  C.bool v32_1
  (flotillalaw09_WalKeeps_k1 C w Q)
  (C.step (sLoad 41 v5_1) w fun v35_1 w =>
  C.calls 27 #[v35_1] w fun v36_1 w =>
  C.step (sUn .not v36_1) w fun v37_1 w =>
  C.bool v37_1
  (C.calls 9 #[] w fun v39_2 w =>
  Q v39_2 w)
  (C.calls 10 #[v17_1, (.int .i64 3)] w fun v42_1 w =>
  C.step (sExtract v42_1 0) w fun v43_1 w =>
  C.step (sExtract v42_1 1) w fun v44_1 w =>
  C.step (sBin .eql 28 (.tmp 45) (.const (.pointer none)) v43_1 (.pointer none)) w fun v46_1 w =>
  C.bool v46_1
  (Q (.bool false) w)
  (C.step (sBin .neq 24 (.tmp 48) (.const (.int .i64 0)) v44_1 (.int .i64 0)) w fun v49_1 w =>
  C.bool v49_1
  (Q (.bool false) w)
  (C.step (sLoad 41 v5_1) w fun v51_1 w =>
  C.calls 28 #[v51_1] w fun v52_1 w =>
  C.step (sBuiltin .len #[9] 3 [false] [v52_1]) w fun v53_1 w =>
  C.calls 29 #[v43_1, v53_1] w fun v56_1 w =>
  C.step (sBin .eql 24 (.tmp 56) (.const (.int .i64 0)) v56_1 (.int .i64 0)) w fun v57_1 w =>
  C.step (sBin .sub 3 (.tmp 60) (.const (.int .i64 64)) a0 (.int .i64 64)) w fun v61_1 w =>
  C.step (sBin .leq 3 (.tmp 59) (.tmp 61) v53_1 v61_1) w fun v62_1 w =>
  C.step (sBin .neq 4 (.tmp 58) (.tmp 62) v57_1 v62_1) w fun v63_1 w =>
  C.bool v63_1
  (Q (.bool false) w)
  (C.loop [(.int .i64 0)] w fun dv_1 vs_1 w again_1 =>
  C.step (sBuiltin .len #[22] 3 [false] [a1]) w fun v66_1 w =>
  C.step (sBin .lss 3 (.tmp 64) (.tmp 66) (vs_1.getD 0 undef) v66_1) w fun v67_1 w =>
  C.bool v67_1
  (C.step (sBin .lss 3 (.tmp 69) (.const (.int .i64 60)) (vs_1.getD 0 undef) (.int .i64 60)) w fun v70_1 w =>
  C.bool v70_1
  (C.step (sIndexAddr 22 a1 (vs_1.getD 0 undef)) w fun v76_1 w =>
  C.step (sFieldAddr 43 v76_1 3) w fun v77_1 w =>
  C.step (sLoad 41 v77_1) w fun v78_1 w =>
  C.calls 11 #[v78_1] w fun v79_1 w =>
  C.step (sUn .not v79_1) w fun v80_1 w =>
  C.bool v80_1
  (C.calls 9 #[] w fun v81_1 w =>
  Q v81_1 w)
  (C.step (sIndexAddr 22 a1 (vs_1.getD 0 undef)) w fun v84_1 w =>
  C.step (sFieldAddr 43 v84_1 0) w fun v85_1 w =>
  C.step (sLoad 3 v85_1) w fun v86_1 w =>
  C.step (sBin .eql 3 (.tmp 86) (.const (.int .i64 0)) v86_1 (.int .i64 0)) w fun v88_1 w =>
  C.bool v88_1
  (C.step (sIndexAddr 22 a1 (vs_1.getD 0 undef)) w fun v92_1 w =>
  C.step (sFieldAddr 43 v92_1 3) w fun v93_1 w =>
  C.step (sLoad 41 v93_1) w fun v94_1 w =>
  C.calls 12 #[v43_1, v94_1] w fun v95_1 w =>
  flotillalaw09_WalKeeps_k5 C v43_1 v53_1 v57_1 vs_1 again_1 w Q)
  (C.step (sBin .eql 3 (.tmp 86) (.const (.int .i64 1)) v86_1 (.int .i64 1)) w fun v97_1 w =>
  C.bool v97_1
  (C.step (sIndexAddr 22 a1 (vs_1.getD 0 undef)) w fun v101_1 w =>
  C.step (sFieldAddr 43 v101_1 1) w fun v102_1 w =>
  C.step (sLoad 3 v102_1) w fun v103_1 w =>
  C.calls 29 #[v43_1, v103_1] w fun v104_1 w =>
  flotillalaw09_WalKeeps_k5 C v43_1 v53_1 v57_1 vs_1 again_1 w Q)
  (C.step (sBin .eql 3 (.tmp 86) (.const (.int .i64 4)) v86_1 (.int .i64 4)) w fun v106_1 w =>
  C.bool v106_1
  (C.calls 13 #[v43_1] w fun v108_1 w =>
  flotillalaw09_WalKeeps_k5 C v43_1 v53_1 v57_1 vs_1 again_1 w Q)
  (C.step (sBin .eql 3 (.tmp 86) (.const (.int .i64 5)) v86_1 (.int .i64 5)) w fun v110_1 w =>
  C.bool v110_1
  (C.calls 14 #[v43_1] w fun v112_1 w =>
  flotillalaw09_WalKeeps_k5 C v43_1 v53_1 v57_1 vs_1 again_1 w Q)
  (flotillalaw09_WalKeeps_k5 C v43_1 v53_1 v57_1 vs_1 again_1 w Q))))))
  (flotillalaw09_WalKeeps_k2 C a0 v5_1 v43_1 v57_1 w Q))
  (flotillalaw09_WalKeeps_k2 C a0 v5_1 v43_1 v57_1 w Q)))))))))
theorem flotillalaw09_WalKeeps_eq (C : Comb) (a0 : Value) (a1 : Value) (a2 : Value) (w : World) (Q : Value → World → Prop) : flotillalaw09_WalKeeps_x C a0 a1 a2 w Q = FunY Try.prog C 2 [] Try.f5 [a0, a1, a2] w Q := by kernel_rfl
theorem flotillalaw09_WalKeeps_sound (a0 : Value) (a1 : Value) (a2 : Value) {w : World} {Q : Value → World → Prop} (h : flotillalaw09_WalKeeps_x (std Try.prog) a0 a1 a2 w Q) : CallsR Try.prog 5 #[a0, a1, a2] w Q :=
  calls_of_funY mixed Try.func5 (Eq.mp (flotillalaw09_WalKeeps_eq _ a0 a1 a2 w Q) h)

def flotillalaw09_WalTorn_k1 (C : Comb) (v28_1 : Value) (v29_1 : Value) (w : World) (Q : Value → World → Prop) : Prop :=
  C.step (sBin .eql 28 (.tmp 40) (.const (.pointer none)) v28_1 (.pointer none)) w fun v41_1 w =>
  C.step (sBin .neq 24 (.tmp 42) (.const (.int .i64 0)) v29_1 (.int .i64 0)) w fun v43_1 w =>
  C.step (sBin .eql 4 (.tmp 41) (.tmp 43) v41_1 v43_1) w fun v44_1 w =>
  C.bool v44_1
  (C.calls 9 #[] w fun v46_1 w =>
  Q v46_1 w)
  (Q (.bool false) w)
def flotillalaw09_WalTorn_k5 (C : Comb) (w : World) (Q : Value → World → Prop) : Prop :=
  Q (.bool false) w
def flotillalaw09_WalTorn_k4 (C : Comb) (v23_1 : Value) (v125_1 : Value) (w : World) (Q : Value → World → Prop) : Prop :=
  C.calls 10 #[v23_1, (.int .i64 1)] w fun v177_1 w =>
  C.step (sExtract v177_1 0) w fun v178_1 w =>
  C.step (sExtract v177_1 1) w fun v179_1 w =>
  C.step (sBin .neq 28 (.tmp 180) (.const (.pointer none)) v178_1 (.pointer none)) w fun v181_1 w =>
  C.bool v181_1
  (C.step (sBin .eql 24 (.tmp 183) (.const (.int .i64 0)) v179_1 (.int .i64 0)) w fun v184_1 w =>
  C.bool v184_1
  (C.calls 16 #[v178_1] w fun v188_1 w =>
  C.calls 17 #[v188_1, v125_1] w fun v190_1 w =>
  C.bool v190_1
  (C.calls 25 #[v178_1] w fun v194_1 w =>
  C.calls 32 #[v178_1] w fun v196_1 w =>
  C.step (sBin .eql 34 (.tmp 194) (.tmp 196) v194_1 v196_1) w fun v197_1 w =>
  C.bool v197_1
  (C.calls 31 #[v178_1] w fun v201_1 w =>
  C.step (sBin .eql 3 (.tmp 201) (.const (.int .i64 0)) v201_1 (.int .i64 0)) w fun v202_1 w =>
  C.bool v202_1
  (C.calls 9 #[] w fun v205_1 w =>
  Q v205_1 w)
  (flotillalaw09_WalTorn_k5 C w Q))
  (flotillalaw09_WalTorn_k5 C w Q))
  (flotillalaw09_WalTorn_k5 C w Q))
  (flotillalaw09_WalTorn_k5 C w Q))
  (flotillalaw09_WalTorn_k5 C w Q)
def flotillalaw09_WalTorn_k6 (C : Comb) (v23_1 : Value) (v125_1 : Value) (u174_6 : Value) (w : World) (Q : Value → World → Prop) : Prop :=
  C.bool u174_6
  (Q (.bool false) w)
  (flotillalaw09_WalTorn_k4 C v23_1 v125_1 w Q)
def flotillalaw09_WalTorn_k3 (C : Comb) (v23_1 : Value) (u11_2 : Value) (v120_1 : Value) (v125_1 : Value) (u17_3 : Value) (w : World) (Q : Value → World → Prop) : Prop :=
  C.step (sUn .not u17_3) w fun v164_1 w =>
  C.bool v164_1
  (C.bool v120_1
  (C.step (sBuiltin .len #[31] 3 [false] [v125_1]) w fun v169_1 w =>
  C.step (sBin .eql 3 (.tmp 169) (.tmp 170) v169_1 u11_2) w fun v171_1 w =>
  C.step (sUn .not v171_1) w fun v173_1 w =>
  flotillalaw09_WalTorn_k6 C v23_1 v125_1 v173_1 w Q)
  (C.step (sUn .not (.bool false)) w fun v173_2 w =>
  flotillalaw09_WalTorn_k6 C v23_1 v125_1 v173_2 w Q))
  (flotillalaw09_WalTorn_k4 C v23_1 v125_1 w Q)
def flotillalaw09_WalTorn_k9 (C : Comb) (w : World) (Q : Value → World → Prop) : Prop :=
  Q (.bool false) w
def flotillalaw09_WalTorn_k8 (C : Comb) (v23_1 : Value) (v125_1 : Value) (w : World) (Q : Value → World → Prop) : Prop :=
  C.calls 10 #[v23_1, (.int .i64 1)] w fun v177_2 w =>
  C.step (sExtract v177_2 0) w fun v178_2 w =>
  C.step (sExtract v177_2 1) w fun v179_2 w =>
  C.step (sBin .neq 28 (.tmp 180) (.const (.pointer none)) v178_2 (.pointer none)) w fun v181_2 w =>
  C.bool v181_2
  (C.step (sBin .eql 24 (.tmp 183) (.const (.int .i64 0)) v179_2 (.int .i64 0)) w fun v184_2 w =>
  C.bool v184_2
  (C.calls 16 #[v178_2] w fun v188_2 w =>
  C.calls 17 #[v188_2, v125_1] w fun v190_2 w =>
  C.bool v190_2
  (C.calls 25 #[v178_2] w fun v194_2 w =>
  C.calls 32 #[v178_2] w fun v196_2 w =>
  C.step (sBin .eql 34 (.tmp 194) (.tmp 196) v194_2 v196_2) w fun v197_2 w =>
  C.bool v197_2
  (C.calls 31 #[v178_2] w fun v201_2 w =>
  C.step (sBin .eql 3 (.tmp 201) (.const (.int .i64 0)) v201_2 (.int .i64 0)) w fun v202_2 w =>
  C.bool v202_2
  (C.calls 9 #[] w fun v205_2 w =>
  Q v205_2 w)
  (flotillalaw09_WalTorn_k9 C w Q))
  (flotillalaw09_WalTorn_k9 C w Q))
  (flotillalaw09_WalTorn_k9 C w Q))
  (flotillalaw09_WalTorn_k9 C w Q))
  (flotillalaw09_WalTorn_k9 C w Q)
def flotillalaw09_WalTorn_k10 (C : Comb) (v23_1 : Value) (v125_1 : Value) (u174_10 : Value) (w : World) (Q : Value → World → Prop) : Prop :=
  C.bool u174_10
  (Q (.bool false) w)
  (flotillalaw09_WalTorn_k8 C v23_1 v125_1 w Q)
def flotillalaw09_WalTorn_k7 (C : Comb) (v23_1 : Value) (u11_2 : Value) (v120_1 : Value) (v125_1 : Value) (w : World) (Q : Value → World → Prop) : Prop :=
  C.step (sUn .not (.bool false)) w fun v164_2 w =>
  C.bool v164_2
  (C.bool v120_1
  (C.step (sBuiltin .len #[31] 3 [false] [v125_1]) w fun v169_2 w =>
  C.step (sBin .eql 3 (.tmp 169) (.tmp 170) v169_2 u11_2) w fun v171_2 w =>
  C.step (sUn .not v171_2) w fun v173_3 w =>
  flotillalaw09_WalTorn_k10 C v23_1 v125_1 v173_3 w Q)
  (C.step (sUn .not (.bool false)) w fun v173_4 w =>
  flotillalaw09_WalTorn_k10 C v23_1 v125_1 v173_4 w Q))
  (flotillalaw09_WalTorn_k8 C v23_1 v125_1 w Q)
def flotillalaw09_WalTorn_k12 (C : Comb) (w : World) (Q : Value → World → Prop) : Prop :=
  Q (.bool false) w
def flotillalaw09_WalTorn_k11 (C : Comb) (v23_1 : Value) (v125_1 : Value) (w : World) (Q : Value → World → Prop) : Prop :=
  C.calls 10 #[v23_1, (.int .i64 1)] w fun v177_3 w =>
  C.step (sExtract v177_3 0) w fun v178_3 w =>
  C.step (sExtract v177_3 1) w fun v179_3 w =>
  C.step (sBin .neq 28 (.tmp 180) (.const (.pointer none)) v178_3 (.pointer none)) w fun v181_3 w =>
  C.bool v181_3
  (C.step (sBin .eql 24 (.tmp 183) (.const (.int .i64 0)) v179_3 (.int .i64 0)) w fun v184_3 w =>
  C.bool v184_3
  (C.calls 16 #[v178_3] w fun v188_3 w =>
  C.calls 17 #[v188_3, v125_1] w fun v190_3 w =>
  C.bool v190_3
  (C.calls 25 #[v178_3] w fun v194_3 w =>
  C.calls 32 #[v178_3] w fun v196_3 w =>
  C.step (sBin .eql 34 (.tmp 194) (.tmp 196) v194_3 v196_3) w fun v197_3 w =>
  C.bool v197_3
  (C.calls 31 #[v178_3] w fun v201_3 w =>
  C.step (sBin .eql 3 (.tmp 201) (.const (.int .i64 0)) v201_3 (.int .i64 0)) w fun v202_3 w =>
  C.bool v202_3
  (C.calls 9 #[] w fun v205_3 w =>
  Q v205_3 w)
  (flotillalaw09_WalTorn_k12 C w Q))
  (flotillalaw09_WalTorn_k12 C w Q))
  (flotillalaw09_WalTorn_k12 C w Q))
  (flotillalaw09_WalTorn_k12 C w Q))
  (flotillalaw09_WalTorn_k12 C w Q)
def flotillalaw09_WalTorn_k13 (C : Comb) (v23_1 : Value) (v125_1 : Value) (u174_13 : Value) (w : World) (Q : Value → World → Prop) : Prop :=
  C.bool u174_13
  (Q (.bool false) w)
  (flotillalaw09_WalTorn_k11 C v23_1 v125_1 w Q)
def flotillalaw09_WalTorn_k2 (C : Comb) (a2 : Value) (v23_1 : Value) (v28_1 : Value) (u11_2 : Value) (w : World) (Q : Value → World → Prop) : Prop :=
  C.calls 16 #[v28_1] w fun v116_1 w =>
  C.calls 25 #[v28_1] w fun v118_1 w =>
  C.calls 35 #[v28_1] w fun v120_1 w =>
  C.calls 15 #[v23_1, (.int .i64 1), a2] w fun v123_1 w =>
  C.calls 21 #[v23_1] w fun v125_1 w =>
  C.step (sBuiltin .len #[31] 3 [false] [v125_1]) w fun v127_1 w =>
  C.step (sBuiltin .len #[31] 3 [false] [v116_1]) w fun v129_1 w =>
  C.step (sBin .gtr 3 (.tmp 127) (.tmp 129) v127_1 v129_1) w fun v130_1 w =>
  C.bool v130_1
  (Q (.bool false) w)
  (C.step (sBuiltin .len #[31] 3 [false] [v125_1]) w fun v135_1 w =>
  C.step (sSlice 31 v116_1 none (some v135_1) none) w fun v136_1 w =>
  C.calls 17 #[v125_1, v136_1] w fun v137_1 w =>
  C.step (sUn .not v137_1) w fun v138_1 w =>
  C.bool v138_1
  (Q (.bool false) w)
  (C.step (sBin .eql 34 (.tmp 140) (.const (.int .u64 0)) v118_1 (.int .u64 0)) w fun v141_1 w =>
  C.bool v141_1
  (C.step (sBuiltin .len #[31] 3 [false] [v125_1]) w fun v144_1 w =>
  C.step (sBin .eql 3 (.tmp 144) (.const (.int .i64 0)) v144_1 (.int .i64 0)) w fun v145_1 w =>
  C.bool v145_1
  (C.step (sUn .not (.bool true)) w fun v164_3 w =>
  C.bool v164_3
  (C.bool v120_1
  (C.step (sBuiltin .len #[31] 3 [false] [v125_1]) w fun v169_3 w =>
  C.step (sBin .eql 3 (.tmp 169) (.tmp 170) v169_3 u11_2) w fun v171_3 w =>
  C.step (sUn .not v171_3) w fun v173_5 w =>
  flotillalaw09_WalTorn_k13 C v23_1 v125_1 v173_5 w Q)
  (C.step (sUn .not (.bool false)) w fun v173_6 w =>
  flotillalaw09_WalTorn_k13 C v23_1 v125_1 v173_6 w Q))
  (flotillalaw09_WalTorn_k11 C v23_1 v125_1 w Q))
  (C.step (sBuiltin .len #[31] 3 [false] [v125_1]) w fun v149_1 w =>
  C.step (sBin .gtr 3 (.tmp 149) (.const (.int .i64 0)) v149_1 (.int .i64 0)) w fun v150_1 w =>
  C.bool v150_1
  (C.step (sBuiltin .len #[31] 3 [false] [v125_1]) w fun v154_1 w =>
  C.step (sBin .sub 3 (.tmp 154) (.const (.int .i64 1)) v154_1 (.int .i64 1)) w fun v155_1 w =>
  C.step (sIndexAddr 31 v125_1 v155_1) w fun v156_1 w =>
  C.step (sFieldAddr 41 v156_1 1) w fun v157_1 w =>
  C.step (sLoad 34 v157_1) w fun v158_1 w =>
  C.step (sBin .eql 34 (.tmp 158) (.tmp 159) v158_1 v118_1) w fun v160_1 w =>
  flotillalaw09_WalTorn_k3 C v23_1 u11_2 v120_1 v125_1 v160_1 w Q)
  (flotillalaw09_WalTorn_k7 C v23_1 u11_2 v120_1 v125_1 w Q)))
  (C.step (sBuiltin .len #[31] 3 [false] [v125_1]) w fun v149_2 w =>
  C.step (sBin .gtr 3 (.tmp 149) (.const (.int .i64 0)) v149_2 (.int .i64 0)) w fun v150_2 w =>
  C.bool v150_2
  (C.step (sBuiltin .len #[31] 3 [false] [v125_1]) w fun v154_2 w =>
  C.step (sBin .sub 3 (.tmp 154) (.const (.int .i64 1)) v154_2 (.int .i64 1)) w fun v155_2 w =>
  C.step (sIndexAddr 31 v125_1 v155_2) w fun v156_2 w =>
  C.step (sFieldAddr 41 v156_2 1) w fun v157_2 w =>
  C.step (sLoad 34 v157_2) w fun v158_2 w =>
  C.step (sBin .eql 34 (.tmp 158) (.tmp 159) v158_2 v118_1) w fun v160_2 w =>
  flotillalaw09_WalTorn_k3 C v23_1 u11_2 v120_1 v125_1 v160_2 w Q)
  (flotillalaw09_WalTorn_k7 C v23_1 u11_2 v120_1 v125_1 w Q))))
def flotillalaw09_WalTorn_k14 (C : Comb) (vs_1 : List Value) (again_1 : List Value → World → Prop) (u6_14 : Value) (u11_14 : Value) (w : World) (Q : Value → World → Prop) : Prop :=
  C.step (sBin .add 3 (.tmp 62) (.const (.int .i64 1)) (vs_1.getD 2 undef) (.int .i64 1)) w fun v63_1 w =>
  again_1 [u6_14, u11_14, v63_1] w
def flotillalaw09_WalTorn_x (C : Comb) (a0 : Value) (a1 : Value) (a2 : Value) (w : World) (Q : Value → World → Prop) : Prop :=
  C.calls 8 #[a0] w fun v22_1 w =>
  C.step (sExtract v22_1 0) w fun v23_1 w =>
  C.step (sExtract v22_1 1) w fun v24_1 w =>
  C.calls 10 #[v23_1, (.int .i64 1)] w fun v27_1 w =>
  C.step (sExtract v27_1 0) w fun v28_1 w =>
  C.step (sExtract v27_1 1) w fun v29_1 w =>
  C.step (sBin .neq 24 (.tmp 30) (.const (.int .i64 0)) v24_1 (.int .i64 0)) w fun v31_1 w =>
  C.bool v31_1
  (flotillalaw09_WalTorn_k1 C v28_1 v29_1 w Q)
  (C.step (sBin .gtr 3 (.tmp 33) (.const (.int .i64 4096)) a0 (.int .i64 4096)) w fun v34_1 w =>
  C.bool v34_1
  (flotillalaw09_WalTorn_k1 C v28_1 v29_1 w Q)
  (C.step (sBin .lss 3 (.tmp 37) (.const (.int .i64 64)) a0 (.int .i64 64)) w fun v38_1 w =>
  C.bool v38_1
  (C.step (sBin .eql 28 (.tmp 40) (.const (.pointer none)) v28_1 (.pointer none)) w fun v41_2 w =>
  C.step (sBin .neq 24 (.tmp 42) (.const (.int .i64 0)) v29_1 (.int .i64 0)) w fun v43_2 w =>
  C.step (sBin .eql 4 (.tmp 41) (.tmp 43) v41_2 v43_2) w fun v44_2 w =>
  C.bool v44_2
  (C.calls 9 #[] w fun v46_2 w =>
  Q v46_2 w)
  (Q (.bool false) w))
  (C.step (sBin .eql 28 (.tmp 48) (.const (.pointer none)) v28_1 (.pointer none)) w fun v49_1 w =>
  C.bool v49_1
  (Q (.bool false) w)
  (C.step (sBin .neq 24 (.tmp 51) (.const (.int .i64 0)) v29_1 (.int .i64 0)) w fun v52_1 w =>
  C.bool v52_1
  (Q (.bool false) w)
  (C.loop [(.bool false), (.int .i64 0), (.int .i64 0)] w fun dv_1 vs_1 w again_1 =>
  C.step (sBuiltin .len #[22] 3 [false] [a1]) w fun v56_1 w =>
  C.step (sBin .lss 3 (.tmp 54) (.tmp 56) (vs_1.getD 2 undef) v56_1) w fun v57_1 w =>
  C.bool v57_1
  (C.step (sBin .lss 3 (.tmp 59) (.const (.int .i64 60)) (vs_1.getD 2 undef) (.int .i64 60)) w fun v60_1 w =>
  C.bool v60_1
  (C.step (sIndexAddr 22 a1 (vs_1.getD 2 undef)) w fun v66_1 w =>
  C.step (sFieldAddr 43 v66_1 3) w fun v67_1 w =>
  C.step (sLoad 41 v67_1) w fun v68_1 w =>
  C.calls 11 #[v68_1] w fun v69_1 w =>
  C.step (sUn .not v69_1) w fun v70_1 w =>
  C.bool v70_1
  (C.calls 9 #[] w fun v71_1 w =>
  Q v71_1 w)
  (C.step (sIndexAddr 22 a1 (vs_1.getD 2 undef)) w fun v74_1 w =>
  C.step (sFieldAddr 43 v74_1 0) w fun v75_1 w =>
  C.step (sLoad 3 v75_1) w fun v76_1 w =>
  C.step (sBin .eql 3 (.tmp 76) (.const (.int .i64 0)) v76_1 (.int .i64 0)) w fun v78_1 w =>
  C.bool v78_1
  (C.step (sIndexAddr 22 a1 (vs_1.getD 2 undef)) w fun v82_1 w =>
  C.step (sFieldAddr 43 v82_1 3) w fun v83_1 w =>
  C.step (sLoad 41 v83_1) w fun v84_1 w =>
  C.calls 12 #[v28_1, v84_1] w fun v85_1 w =>
  flotillalaw09_WalTorn_k14 C vs_1 again_1 (vs_1.getD 0 undef) (vs_1.getD 1 undef) w Q)
  (C.step (sBin .eql 3 (.tmp 76) (.const (.int .i64 1)) v76_1 (.int .i64 1)) w fun v87_1 w =>
  C.bool v87_1
  (C.step (sIndexAddr 22 a1 (vs_1.getD 2 undef)) w fun v91_1 w =>
  C.step (sFieldAddr 43 v91_1 1) w fun v92_1 w =>
  C.step (sLoad 3 v92_1) w fun v93_1 w =>
  C.calls 29 #[v28_1, v93_1] w fun v94_1 w =>
  flotillalaw09_WalTorn_k14 C vs_1 again_1 (vs_1.getD 0 undef) (vs_1.getD 1 undef) w Q)
  (C.step (sBin .eql 3 (.tmp 76) (.const (.int .i64 2)) v76_1 (.int .i64 2)) w fun v96_1 w =>
  C.bool v96_1
  (C.step (sIndexAddr 22 a1 (vs_1.getD 2 undef)) w fun v100_1 w =>
  C.step (sFieldAddr 43 v100_1 3) w fun v101_1 w =>
  C.step (sLoad 41 v101_1) w fun v102_1 w =>
  C.calls 33 #[v28_1, v102_1] w fun v103_1 w =>
  flotillalaw09_WalTorn_k14 C vs_1 again_1 (vs_1.getD 0 undef) (vs_1.getD 1 undef) w Q)
  (C.step (sBin .eql 3 (.tmp 76) (.const (.int .i64 4)) v76_1 (.int .i64 4)) w fun v105_1 w =>
  C.bool v105_1
  (C.calls 13 #[v28_1] w fun v107_1 w =>
  C.bool v107_1
  (C.calls 16 #[v28_1] w fun v109_1 w =>
  C.step (sBuiltin .len #[31] 3 [false] [v109_1]) w fun v110_1 w =>
  flotillalaw09_WalTorn_k14 C vs_1 again_1 (vs_1.getD 0 undef) v110_1 w Q)
  (flotillalaw09_WalTorn_k14 C vs_1 again_1 (vs_1.getD 0 undef) (vs_1.getD 1 undef) w Q))
  (C.step (sBin .eql 3 (.tmp 76) (.const (.int .i64 5)) v76_1 (.int .i64 5)) w fun v112_1 w =>
  C.bool v112_1
  (C.calls 14 #[v28_1] w fun v114_1 w =>
  flotillalaw09_WalTorn_k14 C vs_1 again_1 (vs_1.getD 0 undef) (vs_1.getD 1 undef) w Q)
  (flotillalaw09_WalTorn_k14 C vs_1 again_1 (vs_1.getD 0 undef) (vs_1.getD 1 undef) w Q)))))))
  (flotillalaw09_WalTorn_k2 C a2 v23_1 v28_1 (vs_1.getD 1 undef) w Q))
  (flotillalaw09_WalTorn_k2 C a2 v23_1 v28_1 (vs_1.getD 1 undef) w Q))))))
theorem flotillalaw09_WalTorn_eq (C : Comb) (a0 : Value) (a1 : Value) (a2 : Value) (w : World) (Q : Value → World → Prop) : flotillalaw09_WalTorn_x C a0 a1 a2 w Q = FunY Try.prog C 12 [] Try.f6 [a0, a1, a2] w Q := by kernel_rfl
theorem flotillalaw09_WalTorn_sound (a0 : Value) (a1 : Value) (a2 : Value) {w : World} {Q : Value → World → Prop} (h : flotillalaw09_WalTorn_x (std Try.prog) a0 a1 a2 w Q) : CallsR Try.prog 6 #[a0, a1, a2] w Q :=
  calls_of_funY mixed Try.func6 (Eq.mp (flotillalaw09_WalTorn_eq _ a0 a1 a2 w Q) h)

def flotillalaw09_WalNils_k2 (C : Comb) (w : World) (Q : Value → World → Prop) : Prop :=
  Q (.bool false) w
def flotillalaw09_WalNils_k1 (C : Comb) (v4_1 : Value) (v20_1 : Value) (w : World) (Q : Value → World → Prop) : Prop :=
  C.step (sBin .eql 24 (.tmp 37) (.const (.int .i64 1)) v20_1 (.int .i64 1)) w fun v38_1 w =>
  C.bool v38_1
  (C.step (sLoad 41 v4_1) w fun v40_1 w =>
  C.calls 11 #[v40_1] w fun v41_1 w =>
  C.step (sUn .not v41_1) w fun v42_1 w =>
  C.bool v42_1
  (C.calls 9 #[] w fun v45_1 w =>
  Q v45_1 w)
  (flotillalaw09_WalNils_k2 C w Q))
  (flotillalaw09_WalNils_k2 C w Q)
def flotillalaw09_WalNils_k3 (C : Comb) (w : World) (Q : Value → World → Prop) : Prop :=
  Q (.bool false) w
def flotillalaw09_WalNils_k4 (C : Comb) (w : World) (Q : Value → World → Prop) : Prop :=
  Q (.bool false) w
def flotillalaw09_WalNils_k5 (C : Comb) (u6_5 : Value) (w : World) (Q : Value → World → Prop) : Prop :=
  Q u6_5 w
def flotillalaw09_WalNils_k6 (C : Comb) (w : World) (Q : Value → World → Prop) : Prop :=
  Q (.bool false) w
def flotillalaw09_WalNils_x (C : Comb) (a0 : Value) (a1 : Value) (a2 : Value) (w : World) (Q : Value → World → Prop) : Prop :=
  C.step (sBox 41 a1) w fun v4_1 w =>
  C.calls 10 #[(.pointer none), a0] w fun v18_1 w =>
  C.step (sExtract v18_1 0) w fun v19_1 w =>
  C.step (sExtract v18_1 1) w fun v20_1 w =>
  C.step (sBin .neq 28 (.tmp 21) (.const (.pointer none)) v19_1 (.pointer none)) w fun v22_1 w =>
  C.bool v22_1
  (flotillalaw09_WalNils_k1 C v4_1 v20_1 w Q)
  (C.step (sBin .neq 24 (.tmp 24) (.const (.int .i64 1)) v20_1 (.int .i64 1)) w fun v25_1 w =>
  C.bool v25_1
  (flotillalaw09_WalNils_k1 C v4_1 v20_1 w Q)
  (C.calls 21 #[(.pointer none)] w fun v28_1 w =>
  C.step (sBuiltin .len #[31] 3 [false] [v28_1]) w fun v29_1 w =>
  C.step (sBin .neq 3 (.tmp 29) (.const (.int .i64 0)) v29_1 (.int .i64 0)) w fun v30_1 w =>
  C.bool v30_1
  (flotillalaw09_WalNils_k1 C v4_1 v20_1 w Q)
  (C.step (sLoad 41 v4_1) w fun v33_1 w =>
  C.calls 11 #[v33_1] w fun v34_1 w =>
  C.step (sUn .not v34_1) w fun v35_1 w =>
  C.bool v35_1
  (C.step (sBin .eql 24 (.tmp 37) (.const (.int .i64 1)) v20_1 (.int .i64 1)) w fun v38_2 w =>
  C.bool v38_2
  (C.step (sLoad 41 v4_1) w fun v40_2 w =>
  C.calls 11 #[v40_2] w fun v41_2 w =>
  C.step (sUn .not v41_2) w fun v42_2 w =>
  C.bool v42_2
  (C.calls 9 #[] w fun v45_2 w =>
  Q v45_2 w)
  (flotillalaw09_WalNils_k3 C w Q))
  (flotillalaw09_WalNils_k3 C w Q))
  (C.calls 36 #[v19_1, a2] w fun v50_1 w =>
  C.step (sExtract v50_1 0) w fun v51_1 w =>
  C.step (sExtract v50_1 1) w fun v52_1 w =>
  C.step (sAlloc 41) w fun v9_1 w =>
  C.step (sStore 41 v9_1 v51_1) w fun vx_1 w =>
  C.bool v52_1
  (flotillalaw09_WalNils_k4 C w Q)
  (C.step (sLoad 41 v4_1) w fun v56_1 w =>
  C.calls 12 #[v19_1, v56_1] w fun v57_1 w =>
  C.step (sBin .neq 24 (.tmp 57) (.const (.int .i64 1)) v57_1 (.int .i64 1)) w fun v58_1 w =>
  C.bool v58_1
  (flotillalaw09_WalNils_k4 C w Q)
  (C.step (sLoad 41 v4_1) w fun v62_1 w =>
  C.calls 33 #[v19_1, v62_1] w fun v63_1 w =>
  C.step (sBin .neq 24 (.tmp 63) (.const (.int .i64 1)) v63_1 (.int .i64 1)) w fun v64_1 w =>
  C.bool v64_1
  (flotillalaw09_WalNils_k4 C w Q)
  (C.calls 29 #[v19_1, (.int .i64 1)] w fun v68_1 w =>
  C.step (sBin .neq 24 (.tmp 68) (.const (.int .i64 1)) v68_1 (.int .i64 1)) w fun v69_1 w =>
  C.bool v69_1
  (flotillalaw09_WalNils_k4 C w Q)
  (C.calls 14 #[v19_1] w fun v73_1 w =>
  C.step (sBin .neq 24 (.tmp 73) (.const (.int .i64 1)) v73_1 (.int .i64 1)) w fun v74_1 w =>
  C.bool v74_1
  (flotillalaw09_WalNils_k4 C w Q)
  (C.calls 13 #[v19_1] w fun v78_1 w =>
  C.bool v78_1
  (flotillalaw09_WalNils_k4 C w Q)
  (C.calls 35 #[v19_1] w fun v82_1 w =>
  C.bool v82_1
  (flotillalaw09_WalNils_k4 C w Q)
  (C.calls 30 #[v19_1] w fun v86_1 w =>
  C.calls 31 #[v19_1] w fun v88_1 w =>
  C.step (sBin .add 3 (.tmp 86) (.tmp 88) v86_1 v88_1) w fun v89_1 w =>
  C.calls 16 #[v19_1] w fun v91_1 w =>
  C.step (sBuiltin .len #[31] 3 [false] [v91_1]) w fun v92_1 w =>
  C.step (sBin .add 3 (.tmp 89) (.tmp 92) v89_1 v92_1) w fun v93_1 w =>
  C.step (sBin .neq 3 (.tmp 93) (.const (.int .i64 0)) v93_1 (.int .i64 0)) w fun v94_1 w =>
  C.bool v94_1
  (flotillalaw09_WalNils_k4 C w Q)
  (C.calls 25 #[v19_1] w fun v98_1 w =>
  C.step (sBin .neq 34 (.tmp 98) (.const (.int .u64 0)) v98_1 (.int .u64 0)) w fun v99_1 w =>
  C.bool v99_1
  (flotillalaw09_WalNils_k4 C w Q)
  (C.calls 32 #[v19_1] w fun v103_1 w =>
  C.step (sBin .neq 34 (.tmp 103) (.const (.int .u64 0)) v103_1 (.int .u64 0)) w fun v104_1 w =>
  C.bool v104_1
  (Q (.bool false) w)
  (C.calls 37 #[v19_1, (.int .i64 1)] w fun v107_1 w =>
  C.calls 8 #[(.int .i64 64)] w fun v109_1 w =>
  C.step (sExtract v109_1 0) w fun v110_1 w =>
  C.step (sExtract v109_1 1) w fun v111_1 w =>
  C.step (sBin .eql 23 (.tmp 112) (.const (.pointer none)) v110_1 (.pointer none)) w fun v113_1 w =>
  C.bool v113_1
  (Q (.bool false) w)
  (C.step (sMakeSlice 51 (.int .i64 64) (.int .i64 64)) w fun v116_1 w =>
  C.calls 19 #[v110_1, a0, (.int .i64 0), v116_1] w fun v117_1 w =>
  C.calls 10 #[v110_1, a0] w fun v121_1 w =>
  C.step (sExtract v121_1 0) w fun v122_1 w =>
  C.step (sExtract v121_1 1) w fun v123_1 w =>
  C.step (sBin .eql 28 (.tmp 124) (.const (.pointer none)) v122_1 (.pointer none)) w fun v125_1 w =>
  C.bool v125_1
  (C.step (sBin .eql 24 (.tmp 127) (.const (.int .i64 0)) v117_1 (.int .i64 0)) w fun v128_1 w =>
  C.bool v128_1
  (C.step (sBin .eql 24 (.tmp 130) (.const (.int .i64 10)) v123_1 (.int .i64 10)) w fun v131_1 w =>
  C.bool v131_1
  (C.calls 9 #[] w fun v143_1 w =>
  flotillalaw09_WalNils_k5 C v143_1 w Q)
  (C.step (sBin .eql 24 (.tmp 134) (.const (.int .i64 1)) v117_1 (.int .i64 1)) w fun v135_1 w =>
  C.bool v135_1
  (C.step (sBin .eql 24 (.tmp 137) (.const (.int .i64 1)) v123_1 (.int .i64 1)) w fun v138_1 w =>
  C.bool v138_1
  (C.calls 9 #[] w fun v143_2 w =>
  flotillalaw09_WalNils_k5 C v143_2 w Q)
  (flotillalaw09_WalNils_k6 C w Q))
  (flotillalaw09_WalNils_k6 C w Q)))
  (C.step (sBin .eql 24 (.tmp 134) (.const (.int .i64 1)) v117_1 (.int .i64 1)) w fun v135_2 w =>
  C.bool v135_2
  (C.step (sBin .eql 24 (.tmp 137) (.const (.int .i64 1)) v123_1 (.int .i64 1)) w fun v138_2 w =>
  C.bool v138_2
  (C.calls 9 #[] w fun v143_3 w =>
  flotillalaw09_WalNils_k5 C v143_3 w Q)
  (flotillalaw09_WalNils_k6 C w Q))
  (flotillalaw09_WalNils_k6 C w Q)))
  (flotillalaw09_WalNils_k6 C w Q))))))))))))))))
theorem flotillalaw09_WalNils_eq (C : Comb) (a0 : Value) (a1 : Value) (a2 : Value) (w : World) (Q : Value → World → Prop) : flotillalaw09_WalNils_x C a0 a1 a2 w Q = FunY Try.prog C 2 [] Try.f7 [a0, a1, a2] w Q := by kernel_rfl
theorem flotillalaw09_WalNils_sound (a0 : Value) (a1 : Value) (a2 : Value) {w : World} {Q : Value → World → Prop} (h : flotillalaw09_WalNils_x (std Try.prog) a0 a1 a2 w Q) : CallsR Try.prog 7 #[a0, a1, a2] w Q :=
  calls_of_funY mixed Try.func7 (Eq.mp (flotillalaw09_WalNils_eq _ a0 a1 a2 w Q) h)

def stable_New_k1 (C : Comb) (w : World) (Q : Value → World → Prop) : Prop :=
  Q (.tuple #[(.pointer none), (.int .i64 1)]) w
def stable_New_x (C : Comb) (a0 : Value) (w : World) (Q : Value → World → Prop) : Prop :=
  C.step (sBin .lss 3 (.tmp 4) (.const (.int .i64 0)) a0 (.int .i64 0)) w fun v5_1 w =>
  C.bool v5_1
  (stable_New_k1 C w Q)
  (C.step (sBin .gtr 3 (.tmp 7) (.const (.int .i64 65536)) a0 (.int .i64 65536)) w fun v8_1 w =>
  C.bool v8_1
  (stable_New_k1 C w Q)
  (C.step (sBin .rem 3 (.tmp 11) (.const (.int .i64 64)) a0 (.int .i64 64)) w fun v12_1 w =>
  C.step (sBin .neq 3 (.tmp 12) (.const (.int .i64 0)) v12_1 (.int .i64 0)) w fun v13_1 w =>
  C.bool v13_1
  (Q (.tuple #[(.pointer none), (.int .i64 1)]) w)
  (C.step (sMakeSlice 51 a0 a0) w fun v16_1 w =>
  C.step (sBuild 84 [(0, v16_1)]) w fun v17_1 w =>
  C.step (sBox 84 v17_1) w fun v18_1 w =>
  Q (.tuple #[v18_1, (.int .i64 0)]) w)))
theorem stable_New_eq (C : Comb) (a0 : Value) (w : World) (Q : Value → World → Prop) : stable_New_x C a0 w Q = FunY Try.prog C 2 [] Try.f8 [a0] w Q := by kernel_rfl
theorem stable_New_sound (a0 : Value) {w : World} {Q : Value → World → Prop} (h : stable_New_x (std Try.prog) a0 w Q) : CallsR Try.prog 8 #[a0] w Q :=
  calls_of_funY mixed Try.func8 (Eq.mp (stable_New_eq _ a0 w Q) h)

def flotillalaw09_lives_k1 (C : Comb) (w : World) (Q : Value → World → Prop) : Prop :=
  Q (.bool false) w
def flotillalaw09_lives_k2 (C : Comb) (w : World) (Q : Value → World → Prop) : Prop :=
  Q (.bool false) w
def flotillalaw09_lives_x (C : Comb) (w : World) (Q : Value → World → Prop) : Prop :=
  C.calls 8 #[(.int .i64 192)] w fun v6_1 w =>
  C.step (sExtract v6_1 0) w fun v7_1 w =>
  C.step (sExtract v6_1 1) w fun v8_1 w =>
  C.calls 10 #[v7_1, (.int .i64 0)] w fun v11_1 w =>
  C.step (sExtract v11_1 0) w fun v12_1 w =>
  C.step (sExtract v11_1 1) w fun v13_1 w =>
  C.step (sBin .eql 28 (.tmp 14) (.const (.pointer none)) v12_1 (.pointer none)) w fun v15_1 w =>
  C.bool v15_1
  (flotillalaw09_lives_k1 C w Q)
  (C.step (sBin .neq 24 (.tmp 17) (.const (.int .i64 0)) v13_1 (.int .i64 0)) w fun v18_1 w =>
  C.bool v18_1
  (flotillalaw09_lives_k1 C w Q)
  (C.step (sBuild 41 [(0, (.int .i64 3)), (1, (.int .u64 33)), (2, (.int .i64 7))]) w fun v22_1 w =>
  C.calls 12 #[v12_1, v22_1] w fun v23_1 w =>
  C.step (sBin .neq 24 (.tmp 23) (.const (.int .i64 0)) v23_1 (.int .i64 0)) w fun v24_1 w =>
  C.bool v24_1
  (Q (.bool false) w)
  (C.calls 30 #[v12_1] w fun v27_1 w =>
  C.step (sBin .eql 3 (.tmp 27) (.const (.int .i64 101)) v27_1 (.int .i64 101)) w fun v28_1 w =>
  C.bool v28_1
  (C.calls 13 #[v12_1] w fun v31_1 w =>
  C.bool v31_1
  (C.calls 14 #[v12_1] w fun v35_1 w =>
  C.step (sBin .eql 24 (.tmp 35) (.const (.int .i64 0)) v35_1 (.int .i64 0)) w fun v36_1 w =>
  C.bool v36_1
  (C.calls 25 #[v12_1] w fun v40_1 w =>
  C.step (sBin .eql 34 (.tmp 40) (.const (.int .u64 0)) v40_1 (.int .u64 0)) w fun v41_1 w =>
  C.bool v41_1
  (C.calls 14 #[v12_1] w fun v45_1 w =>
  C.step (sBin .eql 24 (.tmp 45) (.const (.int .i64 0)) v45_1 (.int .i64 0)) w fun v46_1 w =>
  C.bool v46_1
  (C.calls 25 #[v12_1] w fun v50_1 w =>
  C.step (sBin .eql 34 (.tmp 50) (.const (.int .u64 33)) v50_1 (.int .u64 33)) w fun v51_1 w =>
  Q v51_1 w)
  (flotillalaw09_lives_k2 C w Q))
  (flotillalaw09_lives_k2 C w Q))
  (flotillalaw09_lives_k2 C w Q))
  (flotillalaw09_lives_k2 C w Q))
  (flotillalaw09_lives_k2 C w Q))))
theorem flotillalaw09_lives_eq (C : Comb) (w : World) (Q : Value → World → Prop) : flotillalaw09_lives_x C w Q = FunY Try.prog C 5 [] Try.f9 [] w Q := by kernel_rfl
theorem flotillalaw09_lives_sound {w : World} {Q : Value → World → Prop} (h : flotillalaw09_lives_x (std Try.prog) w Q) : CallsR Try.prog 9 #[] w Q :=
  calls_of_funY mixed Try.func9 (Eq.mp (flotillalaw09_lives_eq _ w Q) h)

def wal_Open_k1 (C : Comb) (w : World) (Q : Value → World → Prop) : Prop :=
  Q (.tuple #[(.pointer none), (.int .i64 1)]) w
def wal_Open_x (C : Comb) (a0 : Value) (a1 : Value) (w : World) (Q : Value → World → Prop) : Prop :=
  C.calls 38 #[a0] w fun v12_1 w =>
  C.step (sBin .lss 3 (.tmp 12) (.const (.int .i64 64)) v12_1 (.int .i64 64)) w fun v13_1 w =>
  C.bool v13_1
  (wal_Open_k1 C w Q)
  (C.step (sBin .lss 3 (.tmp 15) (.const (.int .i64 0)) a1 (.int .i64 0)) w fun v16_1 w =>
  C.bool v16_1
  (wal_Open_k1 C w Q)
  (C.step (sBin .geq 3 (.tmp 19) (.const (.int .i64 8)) a1 (.int .i64 8)) w fun v20_1 w =>
  C.bool v20_1
  (Q (.tuple #[(.pointer none), (.int .i64 1)]) w)
  (C.calls 39 #[a0, a1] w fun v25_1 w =>
  C.step (sExtract v25_1 0) w fun v26_1 w =>
  C.step (sExtract v25_1 1) w fun v27_1 w =>
  C.step (sExtract v25_1 2) w fun v28_1 w =>
  C.bool v28_1
  (Q (.tuple #[(.pointer none), (.int .i64 10)]) w)
  (C.calls 40 #[a0] w fun v32_1 w =>
  C.step (sExtract v32_1 0) w fun v33_1 w =>
  C.step (sExtract v32_1 1) w fun v34_1 w =>
  C.step (sBuiltin .len #[87] 3 [false] [v33_1]) w fun v40_1 w =>
  C.step (sBuild 91 [(0, a0), (1, a1), (2, v33_1), (3, v34_1), (4, v40_1)]) w fun v41_1 w =>
  C.step (sBox 91 v41_1) w fun v42_1 w =>
  Q (.tuple #[v42_1, (.int .i64 0)]) w))))
theorem wal_Open_eq (C : Comb) (a0 : Value) (a1 : Value) (w : World) (Q : Value → World → Prop) : wal_Open_x C a0 a1 w Q = FunY Try.prog C 11 [] Try.f10 [a0, a1] w Q := by kernel_rfl
theorem wal_Open_sound (a0 : Value) (a1 : Value) {w : World} {Q : Value → World → Prop} (h : wal_Open_x (std Try.prog) a0 a1 w Q) : CallsR Try.prog 10 #[a0, a1] w Q :=
  calls_of_funY mixed Try.func10 (Eq.mp (wal_Open_eq _ a0 a1 w Q) h)

def flotillalaw09_light_k1 (C : Comb) (w : World) (Q : Value → World → Prop) : Prop :=
  Q (.bool false) w
def flotillalaw09_light_x (C : Comb) (a0 : Value) (w : World) (Q : Value → World → Prop) : Prop :=
  C.step (sBox 41 a0) w fun v1_1 w =>
  C.step (sFieldAddr 41 v1_1 7) w fun v3_1 w =>
  C.step (sLoad 38 v3_1) w fun v4_1 w =>
  C.step (sBuiltin .len #[38] 3 [false] [v4_1]) w fun v5_1 w =>
  C.step (sBin .leq 3 (.tmp 5) (.const (.int .i64 100)) v5_1 (.int .i64 100)) w fun v6_1 w =>
  C.bool v6_1
  (C.step (sFieldAddr 41 v1_1 8) w fun v8_1 w =>
  C.step (sLoad 39 v8_1) w fun v9_1 w =>
  C.step (sBuiltin .len #[39] 3 [false] [v9_1]) w fun v10_1 w =>
  C.step (sBin .leq 3 (.tmp 10) (.const (.int .i64 100)) v10_1 (.int .i64 100)) w fun v11_1 w =>
  C.bool v11_1
  (C.step (sFieldAddr 41 v1_1 6) w fun v14_1 w =>
  C.step (sFieldAddr 37 v14_1 1) w fun v15_1 w =>
  C.step (sLoad 9 v15_1) w fun v16_1 w =>
  C.step (sBuiltin .len #[9] 3 [false] [v16_1]) w fun v17_1 w =>
  C.step (sFieldAddr 41 v1_1 6) w fun v18_1 w =>
  C.step (sFieldAddr 37 v18_1 2) w fun v19_1 w =>
  C.step (sLoad 9 v19_1) w fun v20_1 w =>
  C.step (sBuiltin .len #[9] 3 [false] [v20_1]) w fun v21_1 w =>
  C.step (sBin .add 3 (.tmp 17) (.tmp 21) v17_1 v21_1) w fun v22_1 w =>
  C.step (sFieldAddr 41 v1_1 6) w fun v23_1 w =>
  C.step (sFieldAddr 37 v23_1 3) w fun v24_1 w =>
  C.step (sLoad 9 v24_1) w fun v25_1 w =>
  C.step (sBuiltin .len #[9] 3 [false] [v25_1]) w fun v26_1 w =>
  C.step (sBin .add 3 (.tmp 22) (.tmp 26) v22_1 v26_1) w fun v27_1 w =>
  C.step (sBin .leq 3 (.tmp 27) (.const (.int .i64 1000)) v27_1 (.int .i64 1000)) w fun v28_1 w =>
  Q v28_1 w)
  (flotillalaw09_light_k1 C w Q))
  (flotillalaw09_light_k1 C w Q)
theorem flotillalaw09_light_eq (C : Comb) (a0 : Value) (w : World) (Q : Value → World → Prop) : flotillalaw09_light_x C a0 w Q = FunY Try.prog C 2 [] Try.f11 [a0] w Q := by kernel_rfl
theorem flotillalaw09_light_sound (a0 : Value) {w : World} {Q : Value → World → Prop} (h : flotillalaw09_light_x (std Try.prog) a0 w Q) : CallsR Try.prog 11 #[a0] w Q :=
  calls_of_funY mixed Try.func11 (Eq.mp (flotillalaw09_light_eq _ a0 w Q) h)

def wal_Log_Append_x (C : Comb) (a0 : Value) (a1 : Value) (w : World) (Q : Value → World → Prop) : Prop :=
  C.step (sBox 41 a1) w fun v3_1 w =>
  C.draw w fun S_1 w =>
  C.stepS S_1 (sLoad 41 v3_1) fun v6_1 =>
  C.calls 30 #[a0] w fun v8_1 w =>
  C.keepS S_1 w fun S_2 =>
  C.calls 41 #[a0, v6_1, v8_1] w fun v9_1 w =>
  C.keepT w fun S_3 =>
  Q v9_1 w
theorem wal_Log_Append_eq (C : Comb) (a0 : Value) (a1 : Value) (w : World) (Q : Value → World → Prop) : wal_Log_Append_x C a0 a1 w Q = FunY Try.prog C 4 [] Try.f12 [a0, a1] w Q := by kernel_rfl
theorem wal_Log_Append_sound (a0 : Value) (a1 : Value) {w : World} {Q : Value → World → Prop} (h : wal_Log_Append_x (std Try.prog) a0 a1 w Q) : CallsR Try.prog 12 #[a0, a1] w Q :=
  calls_of_funY mixed Try.func12 (Eq.mp (wal_Log_Append_eq _ a0 a1 w Q) h)

def wal_Log_Done_k1 (C : Comb) (w : World) (Q : Value → World → Prop) : Prop :=
  Q (.int .i64 0) w
def wal_Log_Done_x (C : Comb) (a0 : Value) (w : World) (Q : Value → World → Prop) : Prop :=
  C.step (sBin .eql 28 (.tmp 4) (.const (.pointer none)) a0 (.pointer none)) w fun v5_1 w =>
  C.bool v5_1
  (Q (.int .i64 1) w)
  (C.step (sNil a0) w fun v7_1 w =>
  C.step (sFieldAddr 91 v7_1 5) w fun v8_1 w =>
  C.step (sLoad 3 v8_1) w fun v9_1 w =>
  C.step (sBin .eql 3 (.tmp 9) (.const (.int .i64 0)) v9_1 (.int .i64 0)) w fun v10_1 w =>
  C.bool v10_1
  (Q (.int .i64 8) w)
  (C.draw w fun S_1 w =>
  C.stepS S_1 (sNil a0) fun v12_1 =>
  C.stepS S_1 (sFieldAddr 91 v12_1 0) fun v13_1 =>
  C.stepS S_1 (sLoad 23 v13_1) fun v14_1 =>
  C.stepS S_1 (sNil a0) fun v16_1 =>
  C.stepS S_1 (sFieldAddr 91 v16_1 1) fun v17_1 =>
  C.stepS S_1 (sLoad 3 v17_1) fun v18_1 =>
  C.calls 20 #[v14_1, v18_1] w fun v19_1 w =>
  C.keepT w fun S_2 =>
  C.step (sNil a0) w fun v21_1 w =>
  C.step (sFieldAddr 91 v21_1 7) w fun v22_1 w =>
  C.step (sLoad 4 v22_1) w fun v23_1 w =>
  C.step (sUn .not v23_1) w fun v24_1 w =>
  C.bool v24_1
  (C.calls 42 #[] w fun v25_1 w =>
  C.step (sNil a0) w fun v28_1 w =>
  C.step (sFieldAddr 91 v28_1 6) w fun v29_1 w =>
  C.step (sLoad 3 v29_1) w fun v30_1 w =>
  C.step (sConv 3 104 v30_1) w fun v31_1 w =>
  C.calls 43 #[v25_1, v31_1] w fun v32_1 w =>
  C.draw w fun S_3 w =>
  C.stepS S_3 (sNil a0) fun v35_1 =>
  C.stepS S_3 (sFieldAddr 91 v35_1 0) fun v36_1 =>
  C.stepS S_3 (sLoad 23 v36_1) fun v37_1 =>
  C.stepS S_3 (sNil a0) fun v39_1 =>
  C.stepS S_3 (sFieldAddr 91 v39_1 1) fun v40_1 =>
  C.stepS S_3 (sLoad 3 v40_1) fun v41_1 =>
  (C.step (sBuild 97 []) w fun v42_1 w =>
  C.keepS S_3 w fun S_4 =>
  C.calls 46 #[v25_1] w fun v44_1 w =>
  C.keepS S_4 w fun S_5 =>
  C.calls 45 #[v44_1] w fun v45_1 w =>
  C.keepS S_5 w fun S_6 =>
  C.calls 44 #[v42_1, v45_1] w fun v46_1 w =>
  C.keepS S_6 w fun S_7 =>
  C.calls 19 #[v37_1, v41_1, (.int .i64 0), v46_1] w fun v47_1 w =>
  C.keepS S_7 w fun S_8 =>
  C.stepS S_8 (sBin .eql 24 (.tmp 47) (.const (.int .i64 0)) v47_1 (.int .i64 0)) fun v48_1 =>
  C.stepS S_8 (sNil a0) fun v49_1 =>
  C.stepS S_8 (sFieldAddr 91 v49_1 7) fun v50_1 =>
  C.step (sStore 4 v50_1 v48_1) w fun vx_1 w =>
  C.keepT w fun S_9 =>
  wal_Log_Done_k1 C w Q) ∧
  (C.calls 46 #[v25_1] w fun v44_2 w =>
  C.keepS S_3 w fun S_10 =>
  (C.step (sBuild 97 []) w fun v42_2 w =>
  C.keepS S_10 w fun S_11 =>
  C.calls 45 #[v44_2] w fun v45_2 w =>
  C.keepS S_11 w fun S_12 =>
  C.calls 44 #[v42_2, v45_2] w fun v46_2 w =>
  C.keepS S_12 w fun S_13 =>
  C.calls 19 #[v37_1, v41_1, (.int .i64 0), v46_2] w fun v47_2 w =>
  C.keepS S_13 w fun S_14 =>
  C.stepS S_14 (sBin .eql 24 (.tmp 47) (.const (.int .i64 0)) v47_2 (.int .i64 0)) fun v48_2 =>
  C.stepS S_14 (sNil a0) fun v49_2 =>
  C.stepS S_14 (sFieldAddr 91 v49_2 7) fun v50_2 =>
  C.step (sStore 4 v50_2 v48_2) w fun vx_2 w =>
  C.keepT w fun S_15 =>
  wal_Log_Done_k1 C w Q) ∧
  (C.calls 45 #[v44_2] w fun v45_3 w =>
  C.keepS S_10 w fun S_16 =>
  C.step (sBuild 97 []) w fun v42_3 w =>
  C.keepS S_16 w fun S_17 =>
  C.calls 44 #[v42_3, v45_3] w fun v46_3 w =>
  C.keepS S_17 w fun S_18 =>
  C.calls 19 #[v37_1, v41_1, (.int .i64 0), v46_3] w fun v47_3 w =>
  C.keepS S_18 w fun S_19 =>
  C.stepS S_19 (sBin .eql 24 (.tmp 47) (.const (.int .i64 0)) v47_3 (.int .i64 0)) fun v48_3 =>
  C.stepS S_19 (sNil a0) fun v49_3 =>
  C.stepS S_19 (sFieldAddr 91 v49_3 7) fun v50_3 =>
  C.step (sStore 4 v50_3 v48_3) w fun vx_3 w =>
  C.keepT w fun S_20 =>
  wal_Log_Done_k1 C w Q)))
  (C.step (sNil a0) w fun v54_1 w =>
  C.step (sFieldAddr 91 v54_1 5) w fun v55_1 w =>
  C.step (sLoad 3 v55_1) w fun v56_1 w =>
  C.step (sNil a0) w fun v57_1 w =>
  C.step (sFieldAddr 91 v57_1 4) w fun v58_1 w =>
  C.step (sStore 3 v58_1 v56_1) w fun vx_4 w =>
  C.step (sNil a0) w fun v59_1 w =>
  C.step (sFieldAddr 91 v59_1 5) w fun v60_1 w =>
  C.step (sStore 3 v60_1 (.int .i64 0)) w fun vx_5 w =>
  Q (.int .i64 0) w)))
theorem wal_Log_Done_eq (C : Comb) (a0 : Value) (w : World) (Q : Value → World → Prop) : wal_Log_Done_x C a0 w Q = FunY Try.prog C 4 [] Try.f14 [a0] w Q := by kernel_rfl
theorem wal_Log_Done_sound (a0 : Value) {w : World} {Q : Value → World → Prop} (h : wal_Log_Done_x (std Try.prog) a0 w Q) : CallsR Try.prog 14 #[a0] w Q :=
  calls_of_funY mixed Try.func14 (Eq.mp (wal_Log_Done_eq _ a0 w Q) h)

def stable_Device_Crash_x (C : Comb) (a0 : Value) (a1 : Value) (a2 : Value) (w : World) (Q : Value → World → Prop) : Prop :=
  C.step (sBuiltin .max #[3, 3] 3 [false, true] [a2, (.int .i64 0)]) w fun v10_1 w =>
  C.calls 47 #[a0, a1, v10_1] w fun v11_1 w =>
  Q v11_1 w
theorem stable_Device_Crash_eq (C : Comb) (a0 : Value) (a1 : Value) (a2 : Value) (w : World) (Q : Value → World → Prop) : stable_Device_Crash_x C a0 a1 a2 w Q = FunY Try.prog C 6 [] Try.f15 [a0, a1, a2] w Q := by kernel_rfl
theorem stable_Device_Crash_sound (a0 : Value) (a1 : Value) (a2 : Value) {w : World} {Q : Value → World → Prop} (h : stable_Device_Crash_x (std Try.prog) a0 a1 a2 w Q) : CallsR Try.prog 15 #[a0, a1, a2] w Q :=
  calls_of_funY mixed Try.func15 (Eq.mp (stable_Device_Crash_eq _ a0 a1 a2 w Q) h)

def wal_Log_Records_x (C : Comb) (a0 : Value) (w : World) (Q : Value → World → Prop) : Prop :=
  C.step (sBin .eql 28 (.tmp 3) (.const (.pointer none)) a0 (.pointer none)) w fun v4_1 w =>
  C.bool v4_1
  (Q (.slice none 0 0) w)
  (C.step (sNil a0) w fun v6_1 w =>
  C.step (sFieldAddr 91 v6_1 2) w fun v7_1 w =>
  C.step (sLoad 87 v7_1) w fun v8_1 w =>
  C.calls 48 #[v8_1] w fun v9_1 w =>
  Q v9_1 w)
theorem wal_Log_Records_eq (C : Comb) (a0 : Value) (w : World) (Q : Value → World → Prop) : wal_Log_Records_x C a0 w Q = FunY Try.prog C 2 [] Try.f16 [a0] w Q := by kernel_rfl
theorem wal_Log_Records_sound (a0 : Value) {w : World} {Q : Value → World → Prop} (h : wal_Log_Records_x (std Try.prog) a0 w Q) : CallsR Try.prog 16 #[a0] w Q :=
  calls_of_funY mixed Try.func16 (Eq.mp (wal_Log_Records_eq _ a0 w Q) h)

def flotillaref09_SameRecords_k1 (C : Comb) (w : World) (Q : Value → World → Prop) : Prop :=
  Q (.bool true) w
def flotillaref09_SameRecords_x (C : Comb) (a0 : Value) (a1 : Value) (w : World) (Q : Value → World → Prop) : Prop :=
  C.step (sBuiltin .len #[31] 3 [false] [a0]) w fun v7_1 w =>
  C.step (sBuiltin .len #[31] 3 [false] [a1]) w fun v9_1 w =>
  C.step (sBin .neq 3 (.tmp 7) (.tmp 9) v7_1 v9_1) w fun v10_1 w =>
  C.bool v10_1
  (Q (.bool false) w)
  (C.loop [(.bool false), (.int .i64 0)] w fun dv_1 vs_1 w again_1 =>
  C.step (sBuiltin .len #[31] 3 [false] [a0]) w fun v13_1 w =>
  C.step (sBin .lss 3 (.tmp 11) (.tmp 13) (vs_1.getD 1 undef) v13_1) w fun v14_1 w =>
  C.bool v14_1
  (C.draw w fun S_1 w =>
  C.stepS S_1 (sIndexAddr 31 a0 (vs_1.getD 1 undef)) fun v19_1 =>
  C.stepS S_1 (sLoad 41 v19_1) fun v20_1 =>
  C.stepS S_1 (sIndexAddr 31 a1 (vs_1.getD 1 undef)) fun v23_1 =>
  C.stepS S_1 (sLoad 41 v23_1) fun v24_1 =>
  C.calls 49 #[v20_1, v24_1] w fun v25_1 w =>
  C.keepT w fun S_2 =>
  C.stepS S_2 (sUn .not v25_1) fun v26_1 =>
  C.bool v26_1
  (Q (.bool false) w)
  (C.step (sBin .add 3 (.tmp 15) (.const (.int .i64 1)) (vs_1.getD 1 undef) (.int .i64 1)) w fun v16_1 w =>
  again_1 [(vs_1.getD 0 undef), v16_1] w))
  (flotillaref09_SameRecords_k1 C w Q))
theorem flotillaref09_SameRecords_eq (C : Comb) (a0 : Value) (a1 : Value) (w : World) (Q : Value → World → Prop) : flotillaref09_SameRecords_x C a0 a1 w Q = FunY Try.prog C 6 [] Try.f17 [a0, a1] w Q := by kernel_rfl
theorem flotillaref09_SameRecords_sound (a0 : Value) (a1 : Value) {w : World} {Q : Value → World → Prop} (h : flotillaref09_SameRecords_x (std Try.prog) a0 a1 w Q) : CallsR Try.prog 17 #[a0, a1] w Q :=
  calls_of_funY mixed Try.func17 (Eq.mp (flotillaref09_SameRecords_eq _ a0 a1 w Q) h)

def flotillaref08_New_k1 (C : Comb) (v2_1 : Value) (w : World) (Q : Value → World → Prop) : Prop :=
  C.step (sBuild 56 []) w fun v15_1 w =>
  C.step (sStore 56 v2_1 v15_1) w fun vx_1 w =>
  C.loadR 56 v2_1 w fun r_1 =>
  Q (.tuple #[r_1, (.bool false)]) w
def flotillaref08_New_x (C : Comb) (a0 : Value) (w : World) (Q : Value → World → Prop) : Prop :=
  C.step (sAlloc 56) w fun v2_1 w =>
  C.step (sBin .lss 3 (.tmp 4) (.const (.int .i64 0)) a0 (.int .i64 0)) w fun v5_1 w =>
  C.bool v5_1
  (flotillaref08_New_k1 C v2_1 w Q)
  (C.step (sBin .gtr 3 (.tmp 7) (.const (.int .i64 65536)) a0 (.int .i64 65536)) w fun v8_1 w =>
  C.bool v8_1
  (flotillaref08_New_k1 C v2_1 w Q)
  (C.step (sBin .rem 3 (.tmp 11) (.const (.int .i64 64)) a0 (.int .i64 64)) w fun v12_1 w =>
  C.step (sBin .neq 3 (.tmp 12) (.const (.int .i64 0)) v12_1 (.int .i64 0)) w fun v13_1 w =>
  C.bool v13_1
  (C.step (sBuild 56 []) w fun v15_2 w =>
  C.step (sStore 56 v2_1 v15_2) w fun vx_2 w =>
  C.loadR 56 v2_1 w fun r_2 =>
  Q (.tuple #[r_2, (.bool false)]) w)
  (C.calls 50 #[a0] w fun v17_1 w =>
  C.step (sBuild 56 [(0, v17_1)]) w fun v18_1 w =>
  C.step (sStore 56 v2_1 v18_1) w fun vx_3 w =>
  C.loadR 56 v2_1 w fun r_3 =>
  Q (.tuple #[r_3, (.bool true)]) w)))
theorem flotillaref08_New_eq (C : Comb) (a0 : Value) (w : World) (Q : Value → World → Prop) : flotillaref08_New_x C a0 w Q = FunY Try.prog C 2 [] Try.f18 [a0] w Q := by kernel_rfl
theorem flotillaref08_New_sound (a0 : Value) {w : World} {Q : Value → World → Prop} (h : flotillaref08_New_x (std Try.prog) a0 w Q) : CallsR Try.prog 18 #[a0] w Q :=
  calls_of_funY mixed Try.func18 (Eq.mp (flotillaref08_New_eq _ a0 w Q) h)

def stable_Device_Start_k1 (C : Comb) (w : World) (Q : Value → World → Prop) : Prop :=
  Q (.int .i64 1) w
def stable_Device_Start_k2 (C : Comb) (w : World) (Q : Value → World → Prop) : Prop :=
  Q (.int .i64 2) w
def stable_Device_Start_x (C : Comb) (a0 : Value) (a1 : Value) (a2 : Value) (a3 : Value) (w : World) (Q : Value → World → Prop) : Prop :=
  C.calls 51 #[a0, a1] w fun v11_1 w =>
  C.step (sUn .not v11_1) w fun v12_1 w =>
  C.bool v12_1
  (stable_Device_Start_k1 C w Q)
  (C.step (sBin .rem 3 (.tmp 14) (.const (.int .i64 64)) a2 (.int .i64 64)) w fun v15_1 w =>
  C.step (sBin .neq 3 (.tmp 15) (.const (.int .i64 0)) v15_1 (.int .i64 0)) w fun v16_1 w =>
  C.bool v16_1
  (stable_Device_Start_k1 C w Q)
  (C.step (sBuiltin .len #[51] 3 [false] [a3]) w fun v20_1 w =>
  C.step (sBin .rem 3 (.tmp 20) (.const (.int .i64 64)) v20_1 (.int .i64 64)) w fun v21_1 w =>
  C.step (sBin .neq 3 (.tmp 21) (.const (.int .i64 0)) v21_1 (.int .i64 0)) w fun v22_1 w =>
  C.bool v22_1
  (stable_Device_Start_k1 C w Q)
  (C.step (sBuiltin .len #[51] 3 [false] [a3]) w fun v26_1 w =>
  C.step (sBin .eql 3 (.tmp 26) (.const (.int .i64 0)) v26_1 (.int .i64 0)) w fun v27_1 w =>
  C.bool v27_1
  (Q (.int .i64 1) w)
  (C.step (sBin .lss 3 (.tmp 29) (.const (.int .i64 0)) a2 (.int .i64 0)) w fun v30_1 w =>
  C.bool v30_1
  (stable_Device_Start_k2 C w Q)
  (C.step (sNil a0) w fun v34_1 w =>
  C.step (sFieldAddr 84 v34_1 0) w fun v35_1 w =>
  C.step (sLoad 51 v35_1) w fun v36_1 w =>
  C.step (sBuiltin .len #[51] 3 [false] [v36_1]) w fun v37_1 w =>
  C.step (sBin .gtr 3 (.tmp 32) (.tmp 37) a2 v37_1) w fun v38_1 w =>
  C.bool v38_1
  (stable_Device_Start_k2 C w Q)
  (C.step (sBuiltin .len #[51] 3 [false] [a3]) w fun v42_1 w =>
  C.step (sNil a0) w fun v44_1 w =>
  C.step (sFieldAddr 84 v44_1 0) w fun v45_1 w =>
  C.step (sLoad 51 v45_1) w fun v46_1 w =>
  C.step (sBuiltin .len #[51] 3 [false] [v46_1]) w fun v47_1 w =>
  C.step (sBin .sub 3 (.tmp 47) (.tmp 48) v47_1 a2) w fun v49_1 w =>
  C.step (sBin .gtr 3 (.tmp 42) (.tmp 49) v42_1 v49_1) w fun v50_1 w =>
  C.bool v50_1
  (Q (.int .i64 2) w)
  (C.step (sNil a0) w fun v54_1 w =>
  C.step (sFieldAddr 84 v54_1 1) w fun v55_1 w =>
  C.step (sIndexAddr 82 v55_1 a1) w fun v56_1 w =>
  C.step (sLoad 81 v56_1) w fun v57_1 w =>
  C.step (sBin .neq 81 (.tmp 57) (.const (.pointer none)) v57_1 (.pointer none)) w fun v58_1 w =>
  C.bool v58_1
  (Q (.int .i64 10) w)
  (C.draw w fun S_1 w =>
  C.stepS S_1 (sNil a0) fun v67_1 =>
  C.stepS S_1 (sFieldAddr 84 v67_1 1) fun v68_1 =>
  C.step (sBuildSlice 51 0 []) w fun v62_1 w =>
  C.keepS S_1 w fun S_2 =>
  C.step (sBuiltin .append #[51, 51] 51 [false, false] [v62_1, a3]) w fun v64_1 w =>
  C.keepS S_2 w fun S_3 =>
  C.step (sBuild 111 [(0, a2), (1, v64_1)]) w fun v65_1 w =>
  C.keepS S_3 w fun S_4 =>
  C.step (sBox 111 v65_1) w fun v66_1 w =>
  C.keepS S_4 w fun S_5 =>
  C.stepS S_5 (sIndexAddr 82 v68_1 a1) fun v69_1 =>
  C.step (sStore 81 v69_1 v66_1) w fun vx_1 w =>
  C.keepT w fun S_6 =>
  Q (.int .i64 0) w))))))))
theorem stable_Device_Start_eq (C : Comb) (a0 : Value) (a1 : Value) (a2 : Value) (a3 : Value) (w : World) (Q : Value → World → Prop) : stable_Device_Start_x C a0 a1 a2 a3 w Q = FunY Try.prog C 2 [] Try.f19 [a0, a1, a2, a3] w Q := by kernel_rfl
theorem stable_Device_Start_sound (a0 : Value) (a1 : Value) (a2 : Value) (a3 : Value) {w : World} {Q : Value → World → Prop} (h : stable_Device_Start_x (std Try.prog) a0 a1 a2 a3 w Q) : CallsR Try.prog 19 #[a0, a1, a2, a3] w Q :=
  calls_of_funY mixed Try.func19 (Eq.mp (stable_Device_Start_eq _ a0 a1 a2 a3 w Q) h)

def stable_Device_Finish_x (C : Comb) (a0 : Value) (a1 : Value) (w : World) (Q : Value → World → Prop) : Prop :=
  C.calls 47 #[a0, a1, (.int .i64 (-1))] w fun v7_1 w =>
  Q v7_1 w
theorem stable_Device_Finish_eq (C : Comb) (a0 : Value) (a1 : Value) (w : World) (Q : Value → World → Prop) : stable_Device_Finish_x C a0 a1 w Q = FunY Try.prog C 4 [] Try.f20 [a0, a1] w Q := by kernel_rfl
theorem stable_Device_Finish_sound (a0 : Value) (a1 : Value) {w : World} {Q : Value → World → Prop} (h : stable_Device_Finish_x (std Try.prog) a0 a1 w Q) : CallsR Try.prog 20 #[a0, a1] w Q :=
  calls_of_funY mixed Try.func20 (Eq.mp (stable_Device_Finish_eq _ a0 a1 w Q) h)

def wal_Read_x (C : Comb) (a0 : Value) (w : World) (Q : Value → World → Prop) : Prop :=
  C.calls 40 #[a0] w fun v7_1 w =>
  C.step (sExtract v7_1 0) w fun v8_1 w =>
  C.step (sExtract v7_1 1) w fun v9_1 w =>
  C.calls 48 #[v8_1] w fun v11_1 w =>
  Q v11_1 w
theorem wal_Read_eq (C : Comb) (a0 : Value) (w : World) (Q : Value → World → Prop) : wal_Read_x C a0 w Q = FunY Try.prog C 5 [] Try.f21 [a0] w Q := by kernel_rfl
theorem wal_Read_sound (a0 : Value) {w : World} {Q : Value → World → Prop} (h : wal_Read_x (std Try.prog) a0 w Q) : CallsR Try.prog 21 #[a0] w Q :=
  calls_of_funY mixed Try.func21 (Eq.mp (wal_Read_eq _ a0 w Q) h)

def flotillaref09_Read_k1 (C : Comb) (vs_1 : List Value) (again_1 : List Value → World → Prop) (v23_1 : Value) (v24_1 : Value) (v5_1 : Value) (u2_1 : Value) (w : World) (Q : Value → World → Prop) : Prop :=
  C.step (sLoad 41 v5_1) w fun v46_1 w =>
  C.step (sBuildSlice 31 1 [(0, v46_1)]) w fun v47_1 w =>
  C.step (sBuiltin .append #[31, 31] 31 [false, false] [(vs_1.getD 4 undef), v47_1]) w fun v48_1 w =>
  C.step (sSlice 9 (vs_1.getD 5 undef) (some v23_1) none none) w fun v51_1 w =>
  again_1 [v5_1, v23_1, v24_1, u2_1, v48_1, v51_1] w
def flotillaref09_Read_x (C : Comb) (a0 : Value) (w : World) (Q : Value → World → Prop) : Prop :=
  C.step (sBox 56 a0) w fun v1_1 w =>
  C.step (sFieldAddr 56 v1_1 0) w fun v8_1 w =>
  C.step (sLoad 9 v8_1) w fun v9_1 w =>
  C.step (sBuiltin .len #[9] 3 [false] [v9_1]) w fun v10_1 w =>
  C.step (sBin .lss 3 (.tmp 10) (.const (.int .i64 64)) v10_1 (.int .i64 64)) w fun v11_1 w =>
  C.bool v11_1
  (Q (.slice none 0 0) w)
  (C.draw w fun S_1 w =>
  C.stepS S_1 (sFieldAddr 56 v1_1 0) fun v13_1 =>
  C.stepS S_1 (sLoad 9 v13_1) fun v14_1 =>
  C.stepS S_1 (sLoad 56 v1_1) fun v15_1 =>
  C.calls 52 #[v15_1] w fun v16_1 w =>
  C.keepS S_1 w fun S_2 =>
  C.stepS S_2 (sBin .add 3 (.const (.int .i64 64)) (.tmp 16) (.int .i64 64) v16_1) fun v17_1 =>
  C.stepS S_2 (sSlice 9 v14_1 (some (.int .i64 64)) (some v17_1) none) fun v18_1 =>
  C.loop [undef, undef, undef, (.slice none 0 0), (.slice none 0 0), v18_1] w fun dv_1 vs_1 w again_1 =>
  C.calls 53 #[(vs_1.getD 5 undef)] w fun v21_1 w =>
  C.step (sExtract v21_1 0) w fun v22_1 w =>
  C.step (sExtract v21_1 1) w fun v23_1 w =>
  C.step (sExtract v21_1 2) w fun v24_1 w =>
  C.step (sAlloc 41) w fun v5_1 w =>
  C.step (sStore 41 v5_1 v22_1) w fun vx_1 w =>
  C.draw w fun S_3 w =>
  C.stepS S_3 (sBin .neq 24 (.tmp 25) (.const (.int .i64 0)) v24_1 (.int .i64 0)) fun v26_1 =>
  C.bool v26_1
  (Q (vs_1.getD 4 undef) w)
  (C.stepS S_3 (sBuiltin .len #[31] 3 [false] [(vs_1.getD 4 undef)]) fun v29_1 =>
  C.stepS S_3 (sBin .gtr 3 (.tmp 29) (.const (.int .i64 0)) v29_1 (.int .i64 0)) fun v30_1 =>
  C.bool v30_1
  (C.stepS S_3 (sFieldAddr 41 v5_1 1) fun v32_1 =>
  C.stepS S_3 (sLoad 34 v32_1) fun v33_1 =>
  C.stepS S_3 (sBuiltin .len #[31] 3 [false] [(vs_1.getD 4 undef)]) fun v36_1 =>
  C.stepS S_3 (sBin .sub 3 (.tmp 36) (.const (.int .i64 1)) v36_1 (.int .i64 1)) fun v37_1 =>
  C.stepS S_3 (sIndexAddr 31 (vs_1.getD 4 undef) v37_1) fun v38_1 =>
  C.stepS S_3 (sFieldAddr 41 v38_1 1) fun v39_1 =>
  C.stepS S_3 (sLoad 34 v39_1) fun v40_1 =>
  C.stepS S_3 (sBin .leq 34 (.tmp 33) (.tmp 40) v33_1 v40_1) fun v41_1 =>
  C.bool v41_1
  (Q (vs_1.getD 4 undef) w)
  (flotillaref09_Read_k1 C vs_1 again_1 v23_1 v24_1 v5_1 (vs_1.getD 3 undef) w Q))
  (flotillaref09_Read_k1 C vs_1 again_1 v23_1 v24_1 v5_1 (vs_1.getD 3 undef) w Q)))
theorem flotillaref09_Read_eq (C : Comb) (a0 : Value) (w : World) (Q : Value → World → Prop) : flotillaref09_Read_x C a0 w Q = FunY Try.prog C 8 [] Try.f22 [a0] w Q := by kernel_rfl
theorem flotillaref09_Read_sound (a0 : Value) {w : World} {Q : Value → World → Prop} (h : flotillaref09_Read_x (std Try.prog) a0 w Q) : CallsR Try.prog 22 #[a0] w Q :=
  calls_of_funY mixed Try.func22 (Eq.mp (flotillaref09_Read_eq _ a0 w Q) h)

def flotillaref09_Open_k1 (C : Comb) (v4_1 : Value) (w : World) (Q : Value → World → Prop) : Prop :=
  C.step (sBuild 64 []) w fun v19_1 w =>
  C.step (sStore 64 v4_1 v19_1) w fun vx_1 w =>
  C.loadR 64 v4_1 w fun r_1 =>
  Q (.tuple #[r_1, (.int .i64 1)]) w
def flotillaref09_Open_x (C : Comb) (a0 : Value) (a1 : Value) (w : World) (Q : Value → World → Prop) : Prop :=
  C.step (sBox 56 a0) w fun v2_1 w =>
  C.step (sAlloc 64) w fun v4_1 w =>
  C.step (sFieldAddr 56 v2_1 0) w fun v7_1 w =>
  C.step (sLoad 9 v7_1) w fun v8_1 w =>
  C.step (sBuiltin .len #[9] 3 [false] [v8_1]) w fun v9_1 w =>
  C.step (sBin .lss 3 (.tmp 9) (.const (.int .i64 64)) v9_1 (.int .i64 64)) w fun v10_1 w =>
  C.bool v10_1
  (flotillaref09_Open_k1 C v4_1 w Q)
  (C.step (sBin .lss 3 (.tmp 12) (.const (.int .i64 0)) a1 (.int .i64 0)) w fun v13_1 w =>
  C.bool v13_1
  (flotillaref09_Open_k1 C v4_1 w Q)
  (C.step (sBin .gtr 3 (.tmp 16) (.const (.int .i64 7)) a1 (.int .i64 7)) w fun v17_1 w =>
  C.bool v17_1
  (C.step (sBuild 64 []) w fun v19_2 w =>
  C.step (sStore 64 v4_1 v19_2) w fun vx_2 w =>
  C.loadR 64 v4_1 w fun r_2 =>
  Q (.tuple #[r_2, (.int .i64 1)]) w)
  (C.step (sFieldAddr 56 v2_1 1) w fun v21_1 w =>
  C.step (sIndexAddr 54 v21_1 a1) w fun v22_1 w =>
  C.step (sFieldAddr 53 v22_1 0) w fun v23_1 w =>
  C.step (sLoad 4 v23_1) w fun v24_1 w =>
  C.bool v24_1
  (C.step (sBuild 64 []) w fun v25_1 w =>
  C.step (sStore 64 v4_1 v25_1) w fun vx_3 w =>
  C.loadR 64 v4_1 w fun r_3 =>
  Q (.tuple #[r_3, (.int .i64 10)]) w)
  (C.step (sLoad 56 v2_1) w fun v26_1 w =>
  C.calls 22 #[v26_1] w fun v27_1 w =>
  C.step (sBuiltin .len #[31] 3 [false] [v27_1]) w fun v30_1 w =>
  C.step (sBuild 64 [(0, a1), (1, v30_1), (5, v27_1)]) w fun v32_1 w =>
  C.step (sStore 64 v4_1 v32_1) w fun vx_4 w =>
  C.loadR 64 v4_1 w fun r_4 =>
  Q (.tuple #[r_4, (.int .i64 0)]) w))))
theorem flotillaref09_Open_eq (C : Comb) (a0 : Value) (a1 : Value) (w : World) (Q : Value → World → Prop) : flotillaref09_Open_x C a0 a1 w Q = FunY Try.prog C 7 [] Try.f23 [a0, a1] w Q := by kernel_rfl
theorem flotillaref09_Open_sound (a0 : Value) (a1 : Value) {w : World} {Q : Value → World → Prop} (h : flotillaref09_Open_x (std Try.prog) a0 a1 w Q) : CallsR Try.prog 23 #[a0, a1] w Q :=
  calls_of_funY mixed Try.func23 (Eq.mp (flotillaref09_Open_eq _ a0 a1 w Q) h)

def stable_Device_Read_k1 (C : Comb) (w : World) (Q : Value → World → Prop) : Prop :=
  Q (.tuple #[(.slice none 0 0), (.int .i64 2)]) w
def stable_Device_Read_x (C : Comb) (a0 : Value) (a1 : Value) (a2 : Value) (w : World) (Q : Value → World → Prop) : Prop :=
  C.step (sBin .eql 23 (.tmp 8) (.const (.pointer none)) a0 (.pointer none)) w fun v9_1 w =>
  C.bool v9_1
  (Q (.tuple #[(.slice none 0 0), (.int .i64 1)]) w)
  (C.step (sBin .lss 3 (.tmp 10) (.const (.int .i64 0)) a1 (.int .i64 0)) w fun v11_1 w =>
  C.bool v11_1
  (stable_Device_Read_k1 C w Q)
  (C.step (sBin .lss 3 (.tmp 13) (.const (.int .i64 0)) a2 (.int .i64 0)) w fun v14_1 w =>
  C.bool v14_1
  (stable_Device_Read_k1 C w Q)
  (C.step (sNil a0) w fun v19_1 w =>
  C.step (sFieldAddr 84 v19_1 0) w fun v20_1 w =>
  C.step (sLoad 51 v20_1) w fun v21_1 w =>
  C.step (sBuiltin .len #[51] 3 [false] [v21_1]) w fun v22_1 w =>
  C.step (sBin .gtr 3 (.tmp 17) (.tmp 22) a1 v22_1) w fun v23_1 w =>
  C.bool v23_1
  (stable_Device_Read_k1 C w Q)
  (C.step (sNil a0) w fun v28_1 w =>
  C.step (sFieldAddr 84 v28_1 0) w fun v29_1 w =>
  C.step (sLoad 51 v29_1) w fun v30_1 w =>
  C.step (sBuiltin .len #[51] 3 [false] [v30_1]) w fun v31_1 w =>
  C.step (sBin .sub 3 (.tmp 31) (.tmp 32) v31_1 a1) w fun v33_1 w =>
  C.step (sBin .gtr 3 (.tmp 26) (.tmp 33) a2 v33_1) w fun v34_1 w =>
  C.bool v34_1
  (Q (.tuple #[(.slice none 0 0), (.int .i64 2)]) w)
  (C.step (sBuildSlice 51 0 []) w fun v36_1 w =>
  C.step (sNil a0) w fun v38_1 w =>
  C.step (sFieldAddr 84 v38_1 0) w fun v39_1 w =>
  C.step (sLoad 51 v39_1) w fun v40_1 w =>
  C.step (sBin .add 3 (.tmp 42) (.tmp 43) a1 a2) w fun v44_1 w =>
  C.step (sSlice 51 v40_1 (some a1) (some v44_1) none) w fun v45_1 w =>
  C.step (sBuiltin .append #[51, 51] 51 [false, false] [v36_1, v45_1]) w fun v46_1 w =>
  Q (.tuple #[v46_1, (.int .i64 0)]) w)))))
theorem stable_Device_Read_eq (C : Comb) (a0 : Value) (a1 : Value) (a2 : Value) (w : World) (Q : Value → World → Prop) : stable_Device_Read_x C a0 a1 a2 w Q = FunY Try.prog C 6 [] Try.f24 [a0, a1, a2] w Q := by kernel_rfl
theorem stable_Device_Read_sound (a0 : Value) (a1 : Value) (a2 : Value) {w : World} {Q : Value → World → Prop} (h : stable_Device_Read_x (std Try.prog) a0 a1 a2 w Q) : CallsR Try.prog 24 #[a0, a1, a2] w Q :=
  calls_of_funY mixed Try.func24 (Eq.mp (stable_Device_Read_eq _ a0 a1 a2 w Q) h)

def wal_Log_Stable_x (C : Comb) (a0 : Value) (w : World) (Q : Value → World → Prop) : Prop :=
  C.step (sBin .eql 28 (.tmp 3) (.const (.pointer none)) a0 (.pointer none)) w fun v4_1 w =>
  C.bool v4_1
  (Q (.int .u64 0) w)
  (C.step (sNil a0) w fun v7_1 w =>
  C.step (sFieldAddr 91 v7_1 4) w fun v8_1 w =>
  C.step (sLoad 3 v8_1) w fun v9_1 w =>
  C.calls 54 #[a0, v9_1] w fun v10_1 w =>
  Q v10_1 w)
theorem wal_Log_Stable_eq (C : Comb) (a0 : Value) (w : World) (Q : Value → World → Prop) : wal_Log_Stable_x C a0 w Q = FunY Try.prog C 2 [] Try.f25 [a0] w Q := by kernel_rfl
theorem wal_Log_Stable_sound (a0 : Value) {w : World} {Q : Value → World → Prop} (h : wal_Log_Stable_x (std Try.prog) a0 w Q) : CallsR Try.prog 25 #[a0] w Q :=
  calls_of_funY mixed Try.func25 (Eq.mp (wal_Log_Stable_eq _ a0 w Q) h)

def flotillaref09_Last_x (C : Comb) (a0 : Value) (a1 : Value) (w : World) (Q : Value → World → Prop) : Prop :=
  C.step (sBox 64 a0) w fun v2_1 w =>
  C.step (sBin .eql 3 (.tmp 5) (.const (.int .i64 0)) a1 (.int .i64 0)) w fun v6_1 w =>
  C.bool v6_1
  (Q (.int .u64 0) w)
  (C.step (sFieldAddr 64 v2_1 5) w fun v7_1 w =>
  C.step (sLoad 31 v7_1) w fun v8_1 w =>
  C.step (sBin .sub 3 (.tmp 9) (.const (.int .i64 1)) a1 (.int .i64 1)) w fun v10_1 w =>
  C.step (sIndexAddr 31 v8_1 v10_1) w fun v11_1 w =>
  C.step (sFieldAddr 41 v11_1 1) w fun v12_1 w =>
  C.step (sLoad 34 v12_1) w fun v13_1 w =>
  Q v13_1 w)
theorem flotillaref09_Last_eq (C : Comb) (a0 : Value) (a1 : Value) (w : World) (Q : Value → World → Prop) : flotillaref09_Last_x C a0 a1 w Q = FunY Try.prog C 4 [] Try.f26 [a0, a1] w Q := by kernel_rfl
theorem flotillaref09_Last_sound (a0 : Value) (a1 : Value) {w : World} {Q : Value → World → Prop} (h : flotillaref09_Last_x (std Try.prog) a0 a1 w Q) : CallsR Try.prog 26 #[a0, a1] w Q :=
  calls_of_funY mixed Try.func26 (Eq.mp (flotillaref09_Last_eq _ a0 a1 w Q) h)

def flotillaref05_May_k1 (C : Comb) (w : World) (Q : Value → World → Prop) : Prop :=
  Q (.bool false) w
def flotillaref05_May_k3 (C : Comb) (v1_1 : Value) (w : World) (Q : Value → World → Prop) : Prop :=
  C.step (sLoad 41 v1_1) w fun v102_1 w =>
  C.calls 58 #[v102_1] w fun v103_1 w =>
  Q v103_1 w
def flotillaref05_May_j4 (C : Comb) (v1_1 : Value) (dv_2 : Nat → Value) (vs_2 : List Value) (w : World) (Q : Value → World → Prop) : Prop :=
  C.step (sFieldAddr 41 v1_1 0) w fun v89_1 w =>
  C.step (sLoad 33 v89_1) w fun v90_1 w =>
  C.step (sBin .neq 33 (.tmp 90) (.const (.int .i64 8)) v90_1 (.int .i64 8)) w fun v91_1 w =>
  C.bool v91_1
  (C.step (sFieldAddr 41 v1_1 7) w fun v93_1 w =>
  C.step (sLoad 38 v93_1) w fun v94_1 w =>
  C.step (sBuiltin .len #[38] 3 [false] [v94_1]) w fun v95_1 w =>
  C.step (sFieldAddr 41 v1_1 8) w fun v96_1 w =>
  C.step (sLoad 39 v96_1) w fun v97_1 w =>
  C.step (sBuiltin .len #[39] 3 [false] [v97_1]) w fun v98_1 w =>
  C.step (sBin .add 3 (.tmp 95) (.tmp 98) v95_1 v98_1) w fun v99_1 w =>
  C.step (sBin .gtr 3 (.tmp 99) (.const (.int .i64 0)) v99_1 (.int .i64 0)) w fun v100_1 w =>
  C.bool v100_1
  (Q (.bool false) w)
  (flotillaref05_May_k3 C v1_1 w Q))
  (flotillaref05_May_k3 C v1_1 w Q)
def flotillaref05_May_k2 (C : Comb) (v1_1 : Value) (w : World) (Q : Value → World → Prop) : Prop :=
  C.join (fun dv_2 vs_2 w => flotillaref05_May_j4 C v1_1 dv_2 vs_2 w Q) (fun j_2 =>
  C.step (sFieldAddr 41 v1_1 0) w fun v65_1 w =>
  C.step (sLoad 33 v65_1) w fun v66_1 w =>
  C.step (sBin .eql 33 (.tmp 66) (.const (.int .i64 7)) v66_1 (.int .i64 7)) w fun v67_1 w =>
  C.bool v67_1
  (C.step (sFieldAddr 41 v1_1 2) w fun v73_1 w =>
  C.step (sLoad 3 v73_1) w fun v74_1 w =>
  C.step (sBin .neq 3 (.tmp 74) (.const (.int .i64 0)) v74_1 (.int .i64 0)) w fun v75_1 w =>
  C.bool v75_1
  (Q (.bool false) w)
  (C.step (sFieldAddr 41 v1_1 3) w fun v77_1 w =>
  C.step (sLoad 34 v77_1) w fun v78_1 w =>
  C.step (sBin .neq 34 (.tmp 78) (.const (.int .u64 0)) v78_1 (.int .u64 0)) w fun v79_1 w =>
  C.bool v79_1
  (Q (.bool false) w)
  (j_2 [] w)))
  (C.step (sFieldAddr 41 v1_1 0) w fun v69_1 w =>
  C.step (sLoad 33 v69_1) w fun v70_1 w =>
  C.step (sBin .eql 33 (.tmp 70) (.const (.int .i64 8)) v70_1 (.int .i64 8)) w fun v71_1 w =>
  C.bool v71_1
  (C.step (sFieldAddr 41 v1_1 2) w fun v73_2 w =>
  C.step (sLoad 3 v73_2) w fun v74_2 w =>
  C.step (sBin .neq 3 (.tmp 74) (.const (.int .i64 0)) v74_2 (.int .i64 0)) w fun v75_2 w =>
  C.bool v75_2
  (Q (.bool false) w)
  (C.step (sFieldAddr 41 v1_1 3) w fun v77_2 w =>
  C.step (sLoad 34 v77_2) w fun v78_2 w =>
  C.step (sBin .neq 34 (.tmp 78) (.const (.int .u64 0)) v78_2 (.int .u64 0)) w fun v79_2 w =>
  C.bool v79_2
  (Q (.bool false) w)
  (j_2 [] w)))
  (C.step (sFieldAddr 41 v1_1 2) w fun v81_1 w =>
  C.step (sLoad 3 v81_1) w fun v82_1 w =>
  C.step (sBin .lss 3 (.tmp 82) (.const (.int .i64 1)) v82_1 (.int .i64 1)) w fun v83_1 w =>
  C.bool v83_1
  (Q (.bool false) w)
  (C.step (sFieldAddr 41 v1_1 2) w fun v85_1 w =>
  C.step (sLoad 3 v85_1) w fun v86_1 w =>
  C.step (sBin .gtr 3 (.tmp 86) (.const (.int .i64 1073741824)) v86_1 (.int .i64 1073741824)) w fun v87_1 w =>
  C.bool v87_1
  (Q (.bool false) w)
  (j_2 [] w)))))
def flotillaref05_May_j5 (C : Comb) (v1_1 : Value) (dv_1 : Nat → Value) (vs_1 : List Value) (w : World) (Q : Value → World → Prop) : Prop :=
  C.step (sFieldAddr 41 v1_1 0) w fun v57_1 w =>
  C.step (sLoad 33 v57_1) w fun v58_1 w =>
  C.step (sBin .neq 33 (.tmp 58) (.const (.int .i64 2)) v58_1 (.int .i64 2)) w fun v59_1 w =>
  C.bool v59_1
  (C.step (sFieldAddr 41 v1_1 4) w fun v61_1 w =>
  C.step (sLoad 34 v61_1) w fun v62_1 w =>
  C.step (sBin .neq 34 (.tmp 62) (.const (.int .u64 0)) v62_1 (.int .u64 0)) w fun v63_1 w =>
  C.bool v63_1
  (Q (.bool false) w)
  (flotillaref05_May_k2 C v1_1 w Q))
  (flotillaref05_May_k2 C v1_1 w Q)
def flotillaref05_May_k6 (C : Comb) (w : World) (Q : Value → World → Prop) : Prop :=
  Q (.bool false) w
def flotillaref05_May_x (C : Comb) (a0 : Value) (w : World) (Q : Value → World → Prop) : Prop :=
  C.step (sBox 41 a0) w fun v1_1 w =>
  C.step (sFieldAddr 41 v1_1 0) w fun v3_1 w =>
  C.step (sLoad 33 v3_1) w fun v4_1 w =>
  C.step (sBin .lss 33 (.tmp 4) (.const (.int .i64 1)) v4_1 (.int .i64 1)) w fun v5_1 w =>
  C.bool v5_1
  (flotillaref05_May_k1 C w Q)
  (C.step (sFieldAddr 41 v1_1 0) w fun v7_1 w =>
  C.step (sLoad 33 v7_1) w fun v8_1 w =>
  C.step (sBin .gtr 33 (.tmp 8) (.const (.int .i64 8)) v8_1 (.int .i64 8)) w fun v9_1 w =>
  C.bool v9_1
  (flotillaref05_May_k1 C w Q)
  (C.step (sFieldAddr 41 v1_1 1) w fun v12_1 w =>
  C.step (sLoad 34 v12_1) w fun v13_1 w =>
  C.calls 55 #[v13_1] w fun v14_1 w =>
  C.step (sUn .not v14_1) w fun v15_1 w =>
  C.bool v15_1
  (flotillaref05_May_k1 C w Q)
  (C.step (sFieldAddr 41 v1_1 3) w fun v18_1 w =>
  C.step (sLoad 34 v18_1) w fun v19_1 w =>
  C.step (sFieldAddr 41 v1_1 1) w fun v20_1 w =>
  C.step (sLoad 34 v20_1) w fun v21_1 w =>
  C.step (sBin .geq 34 (.tmp 19) (.tmp 21) v19_1 v21_1) w fun v22_1 w =>
  C.bool v22_1
  (flotillaref05_May_k1 C w Q)
  (C.step (sFieldAddr 41 v1_1 4) w fun v25_1 w =>
  C.step (sLoad 34 v25_1) w fun v26_1 w =>
  C.step (sFieldAddr 41 v1_1 1) w fun v27_1 w =>
  C.step (sLoad 34 v27_1) w fun v28_1 w =>
  C.step (sBin .geq 34 (.tmp 26) (.tmp 28) v26_1 v28_1) w fun v29_1 w =>
  C.bool v29_1
  (Q (.bool false) w)
  (C.join (fun dv_1 vs_1 w => flotillaref05_May_j5 C v1_1 dv_1 vs_1 w Q) (fun j_1 =>
  C.step (sFieldAddr 41 v1_1 0) w fun v31_1 w =>
  C.step (sLoad 33 v31_1) w fun v32_1 w =>
  C.calls 56 #[v32_1] w fun v33_1 w =>
  C.bool v33_1
  (C.step (sFieldAddr 41 v1_1 5) w fun v34_1 w =>
  C.step (sLoad 3 v34_1) w fun v35_1 w =>
  C.step (sBin .lss 3 (.tmp 35) (.const (.int .i64 0)) v35_1 (.int .i64 0)) w fun v36_1 w =>
  C.bool v36_1
  (flotillaref05_May_k6 C w Q)
  (C.step (sFieldAddr 41 v1_1 5) w fun v38_1 w =>
  C.step (sLoad 3 v38_1) w fun v39_1 w =>
  C.step (sBin .gtr 3 (.tmp 39) (.const (.int .i64 15)) v39_1 (.int .i64 15)) w fun v40_1 w =>
  C.bool v40_1
  (flotillaref05_May_k6 C w Q)
  (C.step (sFieldAddr 41 v1_1 6) w fun v43_1 w =>
  C.step (sLoad 37 v43_1) w fun v44_1 w =>
  C.calls 57 #[v44_1] w fun v45_1 w =>
  C.step (sUn .not v45_1) w fun v46_1 w =>
  C.bool v46_1
  (Q (.bool false) w)
  (j_1 [] w))))
  (C.step (sFieldAddr 41 v1_1 5) w fun v48_1 w =>
  C.step (sLoad 3 v48_1) w fun v49_1 w =>
  C.step (sBin .neq 3 (.tmp 49) (.const (.int .i64 0)) v49_1 (.int .i64 0)) w fun v50_1 w =>
  C.bool v50_1
  (Q (.bool false) w)
  (C.step (sFieldAddr 41 v1_1 6) w fun v52_1 w =>
  C.step (sLoad 37 v52_1) w fun v53_1 w =>
  C.step (sBuild 37 []) w fun v54_1 w =>
  C.step (sBin .neq 37 (.tmp 53) (.tmp 54) v53_1 v54_1) w fun v55_1 w =>
  C.bool v55_1
  (Q (.bool false) w)
  (j_1 [] w)))))))))
theorem flotillaref05_May_eq (C : Comb) (a0 : Value) (w : World) (Q : Value → World → Prop) : flotillaref05_May_x C a0 w Q = FunY Try.prog C 2 [8, 15] Try.f27 [a0] w Q := by kernel_rfl
theorem flotillaref05_May_sound (a0 : Value) {w : World} {Q : Value → World → Prop} (h : flotillaref05_May_x (std Try.prog) a0 w Q) : CallsR Try.prog 27 #[a0] w Q :=
  calls_of_funY mixed Try.func27 (Eq.mp (flotillaref05_May_eq _ a0 w Q) h)

def flotillaref05_Frame_x (C : Comb) (a0 : Value) (w : World) (Q : Value → World → Prop) : Prop :=
  C.step (sBox 41 a0) w fun v1_1 w =>
  C.step (sLoad 41 v1_1) w fun v4_1 w =>
  C.calls 59 #[v4_1] w fun v5_1 w =>
  C.step (sBuiltin .len #[9] 3 [false] [v5_1]) w fun v7_1 w =>
  C.step (sConv 3 32 v7_1) w fun v8_1 w =>
  C.calls 61 #[v8_1, (.int .i64 2)] w fun v9_1 w =>
  C.step (sBin .add 9 (.tmp 9) (.tmp 10) v9_1 v5_1) w fun v11_1 w =>
  C.calls 60 #[v11_1] w fun v12_1 w =>
  Q v12_1 w
theorem flotillaref05_Frame_eq (C : Comb) (a0 : Value) (w : World) (Q : Value → World → Prop) : flotillaref05_Frame_x C a0 w Q = FunY Try.prog C 4 [] Try.f28 [a0] w Q := by kernel_rfl
theorem flotillaref05_Frame_sound (a0 : Value) {w : World} {Q : Value → World → Prop} (h : flotillaref05_Frame_x (std Try.prog) a0 w Q) : CallsR Try.prog 28 #[a0] w Q :=
  calls_of_funY mixed Try.func28 (Eq.mp (flotillaref05_Frame_eq _ a0 w Q) h)

def wal_Log_Keep_x (C : Comb) (a0 : Value) (a1 : Value) (w : World) (Q : Value → World → Prop) : Prop :=
  C.step (sBin .eql 28 (.tmp 5) (.const (.pointer none)) a0 (.pointer none)) w fun v6_1 w =>
  C.bool v6_1
  (Q (.int .i64 1) w)
  (C.step (sBin .lss 3 (.tmp 8) (.const (.int .i64 0)) a1 (.int .i64 0)) w fun v9_1 w =>
  C.bool v9_1
  (Q (.int .i64 1) w)
  (C.calls 30 #[a0] w fun v13_1 w =>
  C.step (sBin .gtr 3 (.tmp 11) (.tmp 13) a1 v13_1) w fun v14_1 w =>
  C.bool v14_1
  (Q (.int .i64 7) w)
  (C.step (sNil a0) w fun v16_1 w =>
  C.step (sFieldAddr 91 v16_1 8) w fun v17_1 w =>
  C.step (sLoad 3 v17_1) w fun v18_1 w =>
  C.step (sBin .add 3 (.tmp 18) (.tmp 19) v18_1 a1) w fun v20_1 w =>
  C.step (sNil a0) w fun v21_1 w =>
  C.step (sFieldAddr 91 v21_1 8) w fun v22_1 w =>
  C.step (sStore 3 v22_1 v20_1) w fun vx_1 w =>
  Q (.int .i64 0) w)))
theorem wal_Log_Keep_eq (C : Comb) (a0 : Value) (a1 : Value) (w : World) (Q : Value → World → Prop) : wal_Log_Keep_x C a0 a1 w Q = FunY Try.prog C 4 [] Try.f29 [a0, a1] w Q := by kernel_rfl
theorem wal_Log_Keep_sound (a0 : Value) (a1 : Value) {w : World} {Q : Value → World → Prop} (h : wal_Log_Keep_x (std Try.prog) a0 a1 w Q) : CallsR Try.prog 29 #[a0, a1] w Q :=
  calls_of_funY mixed Try.func29 (Eq.mp (wal_Log_Keep_eq _ a0 a1 w Q) h)

def wal_Log_Room_x (C : Comb) (a0 : Value) (w : World) (Q : Value → World → Prop) : Prop :=
  C.step (sBin .eql 28 (.tmp 3) (.const (.pointer none)) a0 (.pointer none)) w fun v4_1 w =>
  C.bool v4_1
  (Q (.int .i64 0) w)
  (C.draw w fun S_1 w =>
  C.stepS S_1 (sNil a0) fun v6_1 =>
  C.stepS S_1 (sFieldAddr 91 v6_1 0) fun v7_1 =>
  C.stepS S_1 (sLoad 23 v7_1) fun v8_1 =>
  C.stepS S_1 (sNil a0) fun v12_1 =>
  C.stepS S_1 (sFieldAddr 91 v12_1 3) fun v13_1 =>
  C.stepS S_1 (sLoad 3 v13_1) fun v14_1 =>
  C.stepS S_1 (sNil a0) fun v17_1 =>
  C.stepS S_1 (sFieldAddr 91 v17_1 8) fun v18_1 =>
  C.stepS S_1 (sLoad 3 v18_1) fun v19_1 =>
  C.calls 38 #[v8_1] w fun v9_1 w =>
  C.keepS S_1 w fun S_2 =>
  C.stepS S_2 (sBin .sub 3 (.tmp 9) (.const (.int .i64 64)) v9_1 (.int .i64 64)) fun v10_1 =>
  C.stepS S_2 (sBin .sub 3 (.tmp 10) (.tmp 14) v10_1 v14_1) fun v15_1 =>
  C.stepS S_2 (sBin .sub 3 (.tmp 15) (.tmp 19) v15_1 v19_1) fun v20_1 =>
  Q v20_1 w)
theorem wal_Log_Room_eq (C : Comb) (a0 : Value) (w : World) (Q : Value → World → Prop) : wal_Log_Room_x C a0 w Q = FunY Try.prog C 2 [] Try.f30 [a0] w Q := by kernel_rfl
theorem wal_Log_Room_sound (a0 : Value) {w : World} {Q : Value → World → Prop} (h : wal_Log_Room_x (std Try.prog) a0 w Q) : CallsR Try.prog 30 #[a0] w Q :=
  calls_of_funY mixed Try.func30 (Eq.mp (wal_Log_Room_eq _ a0 w Q) h)

def wal_Log_Kept_x (C : Comb) (a0 : Value) (w : World) (Q : Value → World → Prop) : Prop :=
  C.step (sBin .eql 28 (.tmp 3) (.const (.pointer none)) a0 (.pointer none)) w fun v4_1 w =>
  C.bool v4_1
  (Q (.int .i64 0) w)
  (C.step (sNil a0) w fun v6_1 w =>
  C.step (sFieldAddr 91 v6_1 8) w fun v7_1 w =>
  C.step (sLoad 3 v7_1) w fun v8_1 w =>
  Q v8_1 w)
theorem wal_Log_Kept_eq (C : Comb) (a0 : Value) (w : World) (Q : Value → World → Prop) : wal_Log_Kept_x C a0 w Q = FunY Try.prog C 2 [] Try.f31 [a0] w Q := by kernel_rfl
theorem wal_Log_Kept_sound (a0 : Value) {w : World} {Q : Value → World → Prop} (h : wal_Log_Kept_x (std Try.prog) a0 w Q) : CallsR Try.prog 31 #[a0] w Q :=
  calls_of_funY mixed Try.func31 (Eq.mp (wal_Log_Kept_eq _ a0 w Q) h)

def wal_Log_Last_x (C : Comb) (a0 : Value) (w : World) (Q : Value → World → Prop) : Prop :=
  C.step (sBin .eql 28 (.tmp 3) (.const (.pointer none)) a0 (.pointer none)) w fun v4_1 w =>
  C.bool v4_1
  (Q (.int .u64 0) w)
  (C.step (sNil a0) w fun v7_1 w =>
  C.step (sFieldAddr 91 v7_1 2) w fun v8_1 w =>
  C.step (sLoad 87 v8_1) w fun v9_1 w =>
  C.step (sBuiltin .len #[87] 3 [false] [v9_1]) w fun v10_1 w =>
  C.calls 54 #[a0, v10_1] w fun v11_1 w =>
  Q v11_1 w)
theorem wal_Log_Last_eq (C : Comb) (a0 : Value) (w : World) (Q : Value → World → Prop) : wal_Log_Last_x C a0 w Q = FunY Try.prog C 2 [] Try.f32 [a0] w Q := by kernel_rfl
theorem wal_Log_Last_sound (a0 : Value) {w : World} {Q : Value → World → Prop} (h : wal_Log_Last_x (std Try.prog) a0 w Q) : CallsR Try.prog 32 #[a0] w Q :=
  calls_of_funY mixed Try.func32 (Eq.mp (wal_Log_Last_eq _ a0 w Q) h)

def wal_Log_Spend_k1 (C : Comb) (v10_1 : Value) (w : World) (Q : Value → World → Prop) : Prop :=
  Q v10_1 w
def wal_Log_Spend_x (C : Comb) (a0 : Value) (a1 : Value) (w : World) (Q : Value → World → Prop) : Prop :=
  C.step (sBox 41 a1) w fun v3_1 w =>
  C.draw w fun S_1 w =>
  C.stepS S_1 (sLoad 41 v3_1) fun v7_1 =>
  C.calls 31 #[a0] w fun v9_1 w =>
  C.keepS S_1 w fun S_2 =>
  C.calls 41 #[a0, v7_1, v9_1] w fun v10_1 w =>
  C.keepT w fun S_3 =>
  C.step (sBin .eql 24 (.tmp 11) (.const (.int .i64 0)) v10_1 (.int .i64 0)) w fun v12_1 w =>
  C.bool v12_1
  (C.draw w fun S_4 w =>
  C.stepS S_4 (sNil a0) fun v14_1 =>
  C.stepS S_4 (sFieldAddr 91 v14_1 8) fun v15_1 =>
  C.stepS S_4 (sLoad 3 v15_1) fun v16_1 =>
  C.stepS S_4 (sNil a0) fun v18_1 =>
  C.stepS S_4 (sFieldAddr 91 v18_1 2) fun v19_1 =>
  C.stepS S_4 (sLoad 87 v19_1) fun v20_1 =>
  C.stepS S_4 (sNil a0) fun v22_1 =>
  C.stepS S_4 (sFieldAddr 91 v22_1 2) fun v23_1 =>
  C.stepS S_4 (sLoad 87 v23_1) fun v24_1 =>
  C.stepS S_4 (sBuiltin .len #[87] 3 [false] [v24_1]) fun v25_1 =>
  C.stepS S_4 (sBin .sub 3 (.tmp 25) (.const (.int .i64 1)) v25_1 (.int .i64 1)) fun v26_1 =>
  C.stepS S_4 (sIndexAddr 87 v20_1 v26_1) fun v27_1 =>
  C.stepS S_4 (sFieldAddr 95 v27_1 1) fun v28_1 =>
  C.stepS S_4 (sLoad 51 v28_1) fun v29_1 =>
  C.stepS S_4 (sBuiltin .len #[51] 3 [false] [v29_1]) fun v30_1 =>
  C.stepS S_4 (sBin .sub 3 (.tmp 16) (.tmp 30) v16_1 v30_1) fun v31_1 =>
  C.stepS S_4 (sNil a0) fun v32_1 =>
  C.stepS S_4 (sFieldAddr 91 v32_1 8) fun v33_1 =>
  C.step (sStore 3 v33_1 v31_1) w fun vx_1 w =>
  C.keepT w fun S_5 =>
  wal_Log_Spend_k1 C v10_1 w Q)
  (wal_Log_Spend_k1 C v10_1 w Q)
theorem wal_Log_Spend_eq (C : Comb) (a0 : Value) (a1 : Value) (w : World) (Q : Value → World → Prop) : wal_Log_Spend_x C a0 a1 w Q = FunY Try.prog C 6 [] Try.f33 [a0, a1] w Q := by kernel_rfl
theorem wal_Log_Spend_sound (a0 : Value) (a1 : Value) {w : World} {Q : Value → World → Prop} (h : wal_Log_Spend_x (std Try.prog) a0 a1 w Q) : CallsR Try.prog 33 #[a0, a1] w Q :=
  calls_of_funY mixed Try.func33 (Eq.mp (wal_Log_Spend_eq _ a0 a1 w Q) h)

def flotillaref09_Bytes_k1 (C : Comb) (u3_1 : Value) (w : World) (Q : Value → World → Prop) : Prop :=
  Q u3_1 w
def flotillaref09_Bytes_x (C : Comb) (a0 : Value) (w : World) (Q : Value → World → Prop) : Prop :=
  C.loop [(.string ⟨#[]⟩), (.int .i64 0)] w fun dv_1 vs_1 w again_1 =>
  C.step (sBuiltin .len #[31] 3 [false] [a0]) w fun v7_1 w =>
  C.step (sBin .lss 3 (.tmp 5) (.tmp 7) (vs_1.getD 1 undef) v7_1) w fun v8_1 w =>
  C.bool v8_1
  (C.step (sIndexAddr 31 a0 (vs_1.getD 1 undef)) w fun v14_1 w =>
  C.step (sLoad 41 v14_1) w fun v15_1 w =>
  C.calls 28 #[v15_1] w fun v16_1 w =>
  C.step (sBin .add 9 (.tmp 11) (.tmp 16) (vs_1.getD 0 undef) v16_1) w fun v17_1 w =>
  C.step (sBin .add 3 (.tmp 9) (.const (.int .i64 1)) (vs_1.getD 1 undef) (.int .i64 1)) w fun v10_1 w =>
  again_1 [v17_1, v10_1] w)
  (flotillaref09_Bytes_k1 C (vs_1.getD 0 undef) w Q)
theorem flotillaref09_Bytes_eq (C : Comb) (a0 : Value) (w : World) (Q : Value → World → Prop) : flotillaref09_Bytes_x C a0 w Q = FunY Try.prog C 5 [] Try.f34 [a0] w Q := by kernel_rfl
theorem flotillaref09_Bytes_sound (a0 : Value) {w : World} {Q : Value → World → Prop} (h : flotillaref09_Bytes_x (std Try.prog) a0 w Q) : CallsR Try.prog 34 #[a0] w Q :=
  calls_of_funY mixed Try.func34 (Eq.mp (flotillaref09_Bytes_eq _ a0 w Q) h)

def wal_Log_Flying_x (C : Comb) (a0 : Value) (w : World) (Q : Value → World → Prop) : Prop :=
  C.step (sBin .neq 28 (.tmp 3) (.const (.pointer none)) a0 (.pointer none)) w fun v4_1 w =>
  C.bool v4_1
  (C.step (sNil a0) w fun v7_1 w =>
  C.step (sFieldAddr 91 v7_1 5) w fun v8_1 w =>
  C.step (sLoad 3 v8_1) w fun v9_1 w =>
  C.step (sBin .gtr 3 (.tmp 9) (.const (.int .i64 0)) v9_1 (.int .i64 0)) w fun v10_1 w =>
  Q v10_1 w)
  (Q (.bool false) w)
theorem wal_Log_Flying_eq (C : Comb) (a0 : Value) (w : World) (Q : Value → World → Prop) : wal_Log_Flying_x C a0 w Q = FunY Try.prog C 2 [] Try.f35 [a0] w Q := by kernel_rfl
theorem wal_Log_Flying_sound (a0 : Value) {w : World} {Q : Value → World → Prop} (h : wal_Log_Flying_x (std Try.prog) a0 w Q) : CallsR Try.prog 35 #[a0] w Q :=
  calls_of_funY mixed Try.func35 (Eq.mp (wal_Log_Flying_eq _ a0 w Q) h)

def wal_Log_Find_x (C : Comb) (a0 : Value) (a1 : Value) (w : World) (Q : Value → World → Prop) : Prop :=
  C.step (sBox 28 a0) w fun v2_1 w =>
  C.step (sBox 34 a1) w fun v3_1 w =>
  C.step (sAlloc 41) w fun v4_1 w =>
  C.step (sLoad 28 v2_1) w fun v7_1 w =>
  C.step (sBin .eql 28 (.tmp 7) (.const (.pointer none)) v7_1 (.pointer none)) w fun v8_1 w =>
  C.bool v8_1
  (C.step (sBuild 41 []) w fun v9_1 w =>
  C.step (sStore 41 v4_1 v9_1) w fun vx_1 w =>
  C.loadR 41 v4_1 w fun r_1 =>
  Q (.tuple #[r_1, (.bool false)]) w)
  (C.step (sLoad 28 v2_1) w fun v10_1 w =>
  C.step (sNil v10_1) w fun v11_1 w =>
  C.step (sFieldAddr 91 v11_1 2) w fun v12_1 w =>
  C.step (sLoad 87 v12_1) w fun v13_1 w =>
  C.step (sBuiltin .len #[87] 3 [false] [v13_1]) w fun v14_1 w =>
  C.step (sMakeFunc (.func 63) [] [v2_1, v3_1]) w fun v15_1 w =>
  C.calls 62 #[v14_1, v15_1] w fun v16_1 w =>
  C.draw w fun S_1 w =>
  C.stepS S_1 (sLoad 28 v2_1) fun v18_1 =>
  C.stepS S_1 (sNil v18_1) fun v19_1 =>
  C.stepS S_1 (sFieldAddr 91 v19_1 2) fun v20_1 =>
  C.stepS S_1 (sLoad 87 v20_1) fun v21_1 =>
  C.stepS S_1 (sBuiltin .len #[87] 3 [false] [v21_1]) fun v22_1 =>
  C.stepS S_1 (sBin .eql 3 (.tmp 17) (.tmp 22) v16_1 v22_1) fun v23_1 =>
  C.bool v23_1
  (C.step (sBuild 41 []) w fun v37_1 w =>
  C.step (sStore 41 v4_1 v37_1) w fun vx_2 w =>
  C.loadR 41 v4_1 w fun r_2 =>
  Q (.tuple #[r_2, (.bool false)]) w)
  (C.stepS S_1 (sLoad 28 v2_1) fun v25_1 =>
  C.stepS S_1 (sNil v25_1) fun v26_1 =>
  C.stepS S_1 (sFieldAddr 91 v26_1 2) fun v27_1 =>
  C.stepS S_1 (sLoad 87 v27_1) fun v28_1 =>
  C.stepS S_1 (sIndexAddr 87 v28_1 v16_1) fun v30_1 =>
  C.stepS S_1 (sFieldAddr 95 v30_1 0) fun v31_1 =>
  C.stepS S_1 (sFieldAddr 41 v31_1 1) fun v32_1 =>
  C.stepS S_1 (sLoad 34 v32_1) fun v33_1 =>
  C.stepS S_1 (sLoad 34 v3_1) fun v34_1 =>
  C.stepS S_1 (sBin .neq 34 (.tmp 33) (.tmp 34) v33_1 v34_1) fun v35_1 =>
  C.bool v35_1
  (C.step (sBuild 41 []) w fun v37_2 w =>
  C.step (sStore 41 v4_1 v37_2) w fun vx_3 w =>
  C.loadR 41 v4_1 w fun r_3 =>
  Q (.tuple #[r_3, (.bool false)]) w)
  (C.step (sLoad 28 v2_1) w fun v38_1 w =>
  C.step (sNil v38_1) w fun v39_1 w =>
  C.step (sFieldAddr 91 v39_1 2) w fun v40_1 w =>
  C.step (sLoad 87 v40_1) w fun v41_1 w =>
  C.step (sIndexAddr 87 v41_1 v16_1) w fun v43_1 w =>
  C.step (sFieldAddr 95 v43_1 0) w fun v44_1 w =>
  C.step (sLoad 41 v44_1) w fun v45_1 w =>
  C.calls 64 #[v45_1] w fun v46_1 w =>
  C.step (sStore 41 v4_1 v46_1) w fun vx_4 w =>
  C.loadR 41 v4_1 w fun r_4 =>
  Q (.tuple #[r_4, (.bool true)]) w)))
theorem wal_Log_Find_eq (C : Comb) (a0 : Value) (a1 : Value) (w : World) (Q : Value → World → Prop) : wal_Log_Find_x C a0 a1 w Q = FunY Try.prog C 7 [] Try.f36 [a0, a1] w Q := by kernel_rfl
theorem wal_Log_Find_sound (a0 : Value) (a1 : Value) {w : World} {Q : Value → World → Prop} (h : wal_Log_Find_x (std Try.prog) a0 a1 w Q) : CallsR Try.prog 36 #[a0, a1] w Q :=
  calls_of_funY mixed Try.func36 (Eq.mp (wal_Log_Find_eq _ a0 a1 w Q) h)

def wal_Log_Drop_x (C : Comb) (a0 : Value) (a1 : Value) (w : World) (Q : Value → World → Prop) : Prop :=
  C.step (sBin .neq 28 (.tmp 4) (.const (.pointer none)) a0 (.pointer none)) w fun v5_1 w =>
  C.bool v5_1
  (C.step (sBin .gtr 3 (.tmp 7) (.const (.int .i64 0)) a1 (.int .i64 0)) w fun v8_1 w =>
  C.bool v8_1
  (C.draw w fun S_1 w =>
  C.stepS S_1 (sNil a0) fun v11_1 =>
  C.stepS S_1 (sFieldAddr 91 v11_1 8) fun v12_1 =>
  C.stepS S_1 (sLoad 3 v12_1) fun v13_1 =>
  C.stepS S_1 (sNil a0) fun v16_1 =>
  C.stepS S_1 (sFieldAddr 91 v16_1 8) fun v17_1 =>
  C.stepS S_1 (sLoad 3 v17_1) fun v18_1 =>
  C.stepS S_1 (sBuiltin .min #[3, 3] 3 [false, false] [a1, v18_1]) fun v19_1 =>
  C.stepS S_1 (sBin .sub 3 (.tmp 13) (.tmp 19) v13_1 v19_1) fun v20_1 =>
  C.stepS S_1 (sNil a0) fun v21_1 =>
  C.stepS S_1 (sFieldAddr 91 v21_1 8) fun v22_1 =>
  C.step (sStore 3 v22_1 v20_1) w fun vx_1 w =>
  C.keepT w fun S_2 =>
  Q (.tuple #[]) w)
  (Q (.tuple #[]) w))
  (Q (.tuple #[]) w)
theorem wal_Log_Drop_eq (C : Comb) (a0 : Value) (a1 : Value) (w : World) (Q : Value → World → Prop) : wal_Log_Drop_x C a0 a1 w Q = FunY Try.prog C 4 [] Try.f37 [a0, a1] w Q := by kernel_rfl
theorem wal_Log_Drop_sound (a0 : Value) (a1 : Value) {w : World} {Q : Value → World → Prop} (h : wal_Log_Drop_x (std Try.prog) a0 a1 w Q) : CallsR Try.prog 37 #[a0, a1] w Q :=
  calls_of_funY mixed Try.func37 (Eq.mp (wal_Log_Drop_eq _ a0 a1 w Q) h)

def stable_Device_Size_x (C : Comb) (a0 : Value) (w : World) (Q : Value → World → Prop) : Prop :=
  C.step (sBin .eql 23 (.tmp 3) (.const (.pointer none)) a0 (.pointer none)) w fun v4_1 w =>
  C.bool v4_1
  (Q (.int .i64 0) w)
  (C.step (sNil a0) w fun v6_1 w =>
  C.step (sFieldAddr 84 v6_1 0) w fun v7_1 w =>
  C.step (sLoad 51 v7_1) w fun v8_1 w =>
  C.step (sBuiltin .len #[51] 3 [false] [v8_1]) w fun v9_1 w =>
  Q v9_1 w)
theorem stable_Device_Size_eq (C : Comb) (a0 : Value) (w : World) (Q : Value → World → Prop) : stable_Device_Size_x C a0 w Q = FunY Try.prog C 2 [] Try.f38 [a0] w Q := by kernel_rfl
theorem stable_Device_Size_sound (a0 : Value) {w : World} {Q : Value → World → Prop} (h : stable_Device_Size_x (std Try.prog) a0 w Q) : CallsR Try.prog 38 #[a0] w Q :=
  calls_of_funY mixed Try.func38 (Eq.mp (stable_Device_Size_eq _ a0 w Q) h)

def stable_Device_Flying_x (C : Comb) (a0 : Value) (a1 : Value) (w : World) (Q : Value → World → Prop) : Prop :=
  C.calls 51 #[a0, a1] w fun v9_1 w =>
  C.step (sUn .not v9_1) w fun v10_1 w =>
  C.bool v10_1
  (Q (.tuple #[(.int .i64 0), (.int .i64 0), (.bool false)]) w)
  (C.step (sNil a0) w fun v14_1 w =>
  C.step (sFieldAddr 84 v14_1 1) w fun v15_1 w =>
  C.step (sIndexAddr 82 v15_1 a1) w fun v16_1 w =>
  C.step (sLoad 81 v16_1) w fun v17_1 w =>
  C.step (sBin .eql 81 (.tmp 17) (.const (.pointer none)) v17_1 (.pointer none)) w fun v18_1 w =>
  C.bool v18_1
  (Q (.tuple #[(.int .i64 0), (.int .i64 0), (.bool false)]) w)
  (C.draw w fun S_1 w =>
  C.stepS S_1 (sNil a0) fun v22_1 =>
  C.stepS S_1 (sFieldAddr 84 v22_1 1) fun v23_1 =>
  C.stepS S_1 (sIndexAddr 82 v23_1 a1) fun v24_1 =>
  C.stepS S_1 (sLoad 81 v24_1) fun v25_1 =>
  C.stepS S_1 (sNil v25_1) fun v26_1 =>
  C.stepS S_1 (sFieldAddr 111 v26_1 0) fun v27_1 =>
  C.stepS S_1 (sLoad 3 v27_1) fun v28_1 =>
  C.stepS S_1 (sNil a0) fun v31_1 =>
  C.stepS S_1 (sFieldAddr 84 v31_1 1) fun v32_1 =>
  C.stepS S_1 (sIndexAddr 82 v32_1 a1) fun v33_1 =>
  C.stepS S_1 (sLoad 81 v33_1) fun v34_1 =>
  C.stepS S_1 (sNil v34_1) fun v35_1 =>
  C.stepS S_1 (sFieldAddr 111 v35_1 1) fun v36_1 =>
  C.stepS S_1 (sLoad 51 v36_1) fun v37_1 =>
  C.stepS S_1 (sBuiltin .len #[51] 3 [false] [v37_1]) fun v38_1 =>
  Q (.tuple #[v28_1, v38_1, (.bool true)]) w))
theorem stable_Device_Flying_eq (C : Comb) (a0 : Value) (a1 : Value) (w : World) (Q : Value → World → Prop) : stable_Device_Flying_x C a0 a1 w Q = FunY Try.prog C 7 [] Try.f39 [a0, a1] w Q := by kernel_rfl
theorem stable_Device_Flying_sound (a0 : Value) (a1 : Value) {w : World} {Q : Value → World → Prop} (h : stable_Device_Flying_x (std Try.prog) a0 a1 w Q) : CallsR Try.prog 39 #[a0, a1] w Q :=
  calls_of_funY mixed Try.func39 (Eq.mp (stable_Device_Flying_eq _ a0 a1 w Q) h)

def wal_scan_k1 (C : Comb) (v19_1 : Value) (vs_1 : List Value) (again_1 : List Value → World → Prop) (v27_1 : Value) (v8_1 : Value) (w : World) (Q : Value → World → Prop) : Prop :=
  C.draw w fun S_1 w =>
  C.stepS S_1 (sLoad 41 v8_1) fun v52_1 =>
  C.stepS S_1 (sBin .add 3 (.tmp 55) (.tmp 56) (vs_1.getD 1 undef) v27_1) fun v57_1 =>
  C.stepS S_1 (sSlice 51 v19_1 (some (vs_1.getD 1 undef)) (some v57_1) none) fun v58_1 =>
  C.step (sBuild 95 [(0, v52_1), (1, v58_1)]) w fun v59_1 w =>
  C.keepS S_1 w fun S_2 =>
  C.step (sBuildSlice 87 1 [(0, v59_1)]) w fun v60_1 w =>
  C.keepS S_2 w fun S_3 =>
  C.step (sBuiltin .append #[87, 87] 87 [false, false] [(vs_1.getD 0 undef), v60_1]) w fun v61_1 w =>
  C.keepT w fun S_4 =>
  C.step (sBin .add 3 (.tmp 62) (.tmp 63) (vs_1.getD 1 undef) v27_1) w fun v64_1 w =>
  again_1 [v61_1, v64_1] w
def wal_scan_x (C : Comb) (a0 : Value) (w : World) (Q : Value → World → Prop) : Prop :=
  C.calls 38 #[a0] w fun v12_1 w =>
  C.step (sBin .lss 3 (.tmp 12) (.const (.int .i64 64)) v12_1 (.int .i64 64)) w fun v13_1 w =>
  C.bool v13_1
  (Q (.tuple #[(.slice none 0 0), (.int .i64 0)]) w)
  (C.calls 65 #[a0] w fun v17_1 w =>
  C.calls 24 #[a0, (.int .i64 64), v17_1] w fun v18_1 w =>
  C.step (sExtract v18_1 0) w fun v19_1 w =>
  C.step (sExtract v18_1 1) w fun v20_1 w =>
  C.loop [(.slice none 0 0), (.int .i64 0)] w fun dv_1 vs_1 w again_1 =>
  C.step (sSlice 51 v19_1 (some (vs_1.getD 1 undef)) none none) w fun v24_1 w =>
  C.calls 66 #[v24_1] w fun v25_1 w =>
  C.step (sExtract v25_1 0) w fun v26_1 w =>
  C.step (sExtract v25_1 1) w fun v27_1 w =>
  C.step (sExtract v25_1 2) w fun v28_1 w =>
  C.step (sAlloc 41) w fun v8_1 w =>
  C.step (sStore 41 v8_1 v26_1) w fun vx_1 w =>
  C.draw w fun S_5 w =>
  C.stepS S_5 (sBin .neq 24 (.tmp 29) (.const (.int .i64 0)) v28_1 (.int .i64 0)) fun v30_1 =>
  C.bool v30_1
  (Q (.tuple #[(vs_1.getD 0 undef), (vs_1.getD 1 undef)]) w)
  (C.stepS S_5 (sBuiltin .len #[87] 3 [false] [(vs_1.getD 0 undef)]) fun v33_1 =>
  C.stepS S_5 (sBin .gtr 3 (.tmp 33) (.const (.int .i64 0)) v33_1 (.int .i64 0)) fun v34_1 =>
  C.bool v34_1
  (C.stepS S_5 (sFieldAddr 41 v8_1 1) fun v36_1 =>
  C.stepS S_5 (sLoad 34 v36_1) fun v37_1 =>
  C.stepS S_5 (sBuiltin .len #[87] 3 [false] [(vs_1.getD 0 undef)]) fun v40_1 =>
  C.stepS S_5 (sBin .sub 3 (.tmp 40) (.const (.int .i64 1)) v40_1 (.int .i64 1)) fun v41_1 =>
  C.stepS S_5 (sIndexAddr 87 (vs_1.getD 0 undef) v41_1) fun v42_1 =>
  C.stepS S_5 (sFieldAddr 95 v42_1 0) fun v43_1 =>
  C.stepS S_5 (sFieldAddr 41 v43_1 1) fun v44_1 =>
  C.stepS S_5 (sLoad 34 v44_1) fun v45_1 =>
  C.stepS S_5 (sBin .leq 34 (.tmp 37) (.tmp 45) v37_1 v45_1) fun v46_1 =>
  C.bool v46_1
  (Q (.tuple #[(vs_1.getD 0 undef), (vs_1.getD 1 undef)]) w)
  (wal_scan_k1 C v19_1 vs_1 again_1 v27_1 v8_1 w Q))
  (wal_scan_k1 C v19_1 vs_1 again_1 v27_1 v8_1 w Q)))
theorem wal_scan_eq (C : Comb) (a0 : Value) (w : World) (Q : Value → World → Prop) : wal_scan_x C a0 w Q = FunY Try.prog C 2 [] Try.f40 [a0] w Q := by kernel_rfl
theorem wal_scan_sound (a0 : Value) {w : World} {Q : Value → World → Prop} (h : wal_scan_x (std Try.prog) a0 w Q) : CallsR Try.prog 40 #[a0] w Q :=
  calls_of_funY mixed Try.func40 (Eq.mp (wal_scan_eq _ a0 w Q) h)

def wal_Log_join_x (C : Comb) (a0 : Value) (a1 : Value) (a2 : Value) (w : World) (Q : Value → World → Prop) : Prop :=
  C.step (sBox 41 a1) w fun v4_1 w =>
  C.step (sBin .eql 28 (.tmp 9) (.const (.pointer none)) a0 (.pointer none)) w fun v10_1 w =>
  C.bool v10_1
  (Q (.int .i64 1) w)
  (C.step (sLoad 41 v4_1) w fun v12_1 w =>
  C.calls 67 #[v12_1] w fun v13_1 w =>
  C.step (sExtract v13_1 0) w fun v14_1 w =>
  C.step (sExtract v13_1 1) w fun v15_1 w =>
  C.draw w fun S_1 w =>
  C.stepS S_1 (sBin .neq 24 (.tmp 16) (.const (.int .i64 0)) v15_1 (.int .i64 0)) fun v17_1 =>
  C.bool v17_1
  (Q (.int .i64 1) w)
  (C.stepS S_1 (sFieldAddr 41 v4_1 1) fun v19_1 =>
  C.stepS S_1 (sLoad 34 v19_1) fun v20_1 =>
  C.calls 32 #[a0] w fun v22_1 w =>
  C.keepS S_1 w fun S_2 =>
  C.stepS S_2 (sBin .leq 34 (.tmp 20) (.tmp 22) v20_1 v22_1) fun v23_1 =>
  C.bool v23_1
  (Q (.int .i64 1) w)
  (C.step (sBuiltin .len #[51] 3 [false] [v14_1]) w fun v26_1 w =>
  C.step (sBin .gtr 3 (.tmp 26) (.tmp 27) v26_1 a2) w fun v28_1 w =>
  C.bool v28_1
  (Q (.int .i64 7) w)
  (C.draw w fun S_3 w =>
  C.stepS S_3 (sNil a0) fun v31_1 =>
  C.stepS S_3 (sFieldAddr 91 v31_1 2) fun v32_1 =>
  C.stepS S_3 (sLoad 87 v32_1) fun v33_1 =>
  C.stepS S_3 (sLoad 41 v4_1) fun v34_1 =>
  C.calls 64 #[v34_1] w fun v35_1 w =>
  C.keepS S_3 w fun S_4 =>
  C.step (sBuild 95 [(0, v35_1), (1, v14_1)]) w fun v37_1 w =>
  C.keepS S_4 w fun S_5 =>
  C.step (sBuildSlice 87 1 [(0, v37_1)]) w fun v38_1 w =>
  C.keepS S_5 w fun S_6 =>
  C.step (sBuiltin .append #[87, 87] 87 [false, false] [v33_1, v38_1]) w fun v39_1 w =>
  C.keepS S_6 w fun S_7 =>
  C.stepS S_7 (sNil a0) fun v40_1 =>
  C.stepS S_7 (sFieldAddr 91 v40_1 2) fun v41_1 =>
  C.step (sStore 87 v41_1 v39_1) w fun vx_1 w =>
  C.keepT w fun S_8 =>
  C.step (sNil a0) w fun v43_1 w =>
  C.step (sFieldAddr 91 v43_1 3) w fun v44_1 w =>
  C.step (sLoad 3 v44_1) w fun v45_1 w =>
  C.step (sBuiltin .len #[51] 3 [false] [v14_1]) w fun v47_1 w =>
  C.step (sBin .add 3 (.tmp 45) (.tmp 47) v45_1 v47_1) w fun v48_1 w =>
  C.step (sNil a0) w fun v49_1 w =>
  C.step (sFieldAddr 91 v49_1 3) w fun v50_1 w =>
  C.step (sStore 3 v50_1 v48_1) w fun vx_2 w =>
  Q (.int .i64 0) w))))
theorem wal_Log_join_eq (C : Comb) (a0 : Value) (a1 : Value) (a2 : Value) (w : World) (Q : Value → World → Prop) : wal_Log_join_x C a0 a1 a2 w Q = FunY Try.prog C 9 [] Try.f41 [a0, a1, a2] w Q := by kernel_rfl
theorem wal_Log_join_sound (a0 : Value) (a1 : Value) (a2 : Value) {w : World} {Q : Value → World → Prop} (h : wal_Log_join_x (std Try.prog) a0 a1 a2 w Q) : CallsR Try.prog 41 #[a0, a1, a2] w Q :=
  calls_of_funY mixed Try.func41 (Eq.mp (wal_Log_join_eq _ a0 a1 a2 w Q) h)

def enc_New_x (C : Comb) (w : World) (Q : Value → World → Prop) : Prop :=
  C.step (sBuild 129 []) w fun v1_1 w =>
  C.step (sBox 129 v1_1) w fun v2_1 w =>
  Q v2_1 w
theorem enc_New_eq (C : Comb) (w : World) (Q : Value → World → Prop) : enc_New_x C w Q = FunY Try.prog C 0 [] Try.f42 [] w Q := by kernel_rfl
theorem enc_New_sound {w : World} {Q : Value → World → Prop} (h : enc_New_x (std Try.prog) w Q) : CallsR Try.prog 42 #[] w Q :=
  calls_of_funY mixed Try.func42 (Eq.mp (enc_New_eq _ w Q) h)

def enc_Writer_Four_x (C : Comb) (a0 : Value) (a1 : Value) (w : World) (Q : Value → World → Prop) : Prop :=
  C.step (sConv 104 32 a1) w fun v6_1 w =>
  C.calls 68 #[a0, v6_1, (.int .i64 4)] w fun v7_1 w =>
  Q (.tuple #[]) w
theorem enc_Writer_Four_eq (C : Comb) (a0 : Value) (a1 : Value) (w : World) (Q : Value → World → Prop) : enc_Writer_Four_x C a0 a1 w Q = FunY Try.prog C 4 [] Try.f43 [a0, a1] w Q := by kernel_rfl
theorem enc_Writer_Four_sound (a0 : Value) (a1 : Value) {w : World} {Q : Value → World → Prop} (h : enc_Writer_Four_x (std Try.prog) a0 a1 w Q) : CallsR Try.prog 43 #[a0, a1] w Q :=
  calls_of_funY mixed Try.func43 (Eq.mp (enc_Writer_Four_eq _ a0 a1 w Q) h)

def wal_fill_lay_k1 (C : Comb) (u1_1 : Value) (w : World) (Q : Value → World → Prop) : Prop :=
  Q u1_1 w
def wal_fill_lay_x (C : Comb) (a0 : Value) (a1 : Value) (w : World) (Q : Value → World → Prop) : Prop :=
  C.step (sBox 97 a0) w fun v2_1 w =>
  C.loop [a1] w fun dv_1 vs_1 w again_1 =>
  C.step (sBuiltin .len #[51] 3 [false] [(vs_1.getD 0 undef)]) w fun v6_1 w =>
  C.step (sBin .rem 3 (.tmp 6) (.const (.int .i64 64)) v6_1 (.int .i64 64)) w fun v7_1 w =>
  C.step (sBin .neq 3 (.tmp 7) (.const (.int .i64 0)) v7_1 (.int .i64 0)) w fun v8_1 w =>
  C.bool v8_1
  (C.step (sBuildSlice 51 1 [(0, (.int .u8 0))]) w fun v10_1 w =>
  C.step (sBuiltin .append #[51, 51] 51 [false, false] [(vs_1.getD 0 undef), v10_1]) w fun v11_1 w =>
  again_1 [v11_1] w)
  (wal_fill_lay_k1 C (vs_1.getD 0 undef) w Q)
theorem wal_fill_lay_eq (C : Comb) (a0 : Value) (a1 : Value) (w : World) (Q : Value → World → Prop) : wal_fill_lay_x C a0 a1 w Q = FunY Try.prog C 4 [] Try.f44 [a0, a1] w Q := by kernel_rfl
theorem wal_fill_lay_sound (a0 : Value) (a1 : Value) {w : World} {Q : Value → World → Prop} (h : wal_fill_lay_x (std Try.prog) a0 a1 w Q) : CallsR Try.prog 44 #[a0, a1] w Q :=
  calls_of_funY mixed Try.func44 (Eq.mp (wal_fill_lay_eq _ a0 a1 w Q) h)

def crc_Seal_x (C : Comb) (a0 : Value) (w : World) (Q : Value → World → Prop) : Prop :=
  C.calls 69 #[a0] w fun v5_1 w =>
  C.step (sBuildSlice 51 0 []) w fun v6_1 w =>
  C.step (sBuiltin .append #[51, 51] 51 [false, false] [v6_1, a0]) w fun v8_1 w =>
  C.step (sConv 104 5 v5_1) w fun v10_1 w =>
  C.step (sBin .shr 104 (.tmp 11) (.const (.int .u64 8)) v5_1 (.int .u64 8)) w fun v12_1 w =>
  C.step (sConv 104 5 v12_1) w fun v13_1 w =>
  C.step (sBin .shr 104 (.tmp 14) (.const (.int .u64 16)) v5_1 (.int .u64 16)) w fun v15_1 w =>
  C.step (sConv 104 5 v15_1) w fun v16_1 w =>
  C.step (sBin .shr 104 (.tmp 17) (.const (.int .u64 24)) v5_1 (.int .u64 24)) w fun v18_1 w =>
  C.step (sConv 104 5 v18_1) w fun v19_1 w =>
  C.step (sBuildSlice 51 4 [(0, v10_1), (1, v13_1), (2, v16_1), (3, v19_1)]) w fun v20_1 w =>
  C.step (sBuiltin .append #[51, 51] 51 [false, false] [v8_1, v20_1]) w fun v21_1 w =>
  Q v21_1 w
theorem crc_Seal_eq (C : Comb) (a0 : Value) (w : World) (Q : Value → World → Prop) : crc_Seal_x C a0 w Q = FunY Try.prog C 4 [] Try.f45 [a0] w Q := by kernel_rfl
theorem crc_Seal_sound (a0 : Value) {w : World} {Q : Value → World → Prop} (h : crc_Seal_x (std Try.prog) a0 w Q) : CallsR Try.prog 45 #[a0] w Q :=
  calls_of_funY mixed Try.func45 (Eq.mp (crc_Seal_eq _ a0 w Q) h)

def enc_Writer_Done_x (C : Comb) (a0 : Value) (w : World) (Q : Value → World → Prop) : Prop :=
  C.step (sBin .eql 101 (.tmp 3) (.const (.pointer none)) a0 (.pointer none)) w fun v4_1 w =>
  C.bool v4_1
  (Q (.slice none 0 0) w)
  (C.step (sBuildSlice 51 0 []) w fun v5_1 w =>
  C.step (sNil a0) w fun v7_1 w =>
  C.step (sFieldAddr 129 v7_1 0) w fun v8_1 w =>
  C.step (sFieldAddr 127 v8_1 0) w fun v9_1 w =>
  C.step (sLoad 51 v9_1) w fun v10_1 w =>
  C.step (sBuiltin .append #[51, 51] 51 [false, false] [v5_1, v10_1]) w fun v11_1 w =>
  Q v11_1 w)
theorem enc_Writer_Done_eq (C : Comb) (a0 : Value) (w : World) (Q : Value → World → Prop) : enc_Writer_Done_x C a0 w Q = FunY Try.prog C 2 [] Try.f46 [a0] w Q := by kernel_rfl
theorem enc_Writer_Done_sound (a0 : Value) {w : World} {Q : Value → World → Prop} (h : enc_Writer_Done_x (std Try.prog) a0 w Q) : CallsR Try.prog 46 #[a0] w Q :=
  calls_of_funY mixed Try.func46 (Eq.mp (enc_Writer_Done_eq _ a0 w Q) h)

def wal_records_k1 (C : Comb) (u3_1 : Value) (w : World) (Q : Value → World → Prop) : Prop :=
  Q u3_1 w
def wal_records_x (C : Comb) (a0 : Value) (w : World) (Q : Value → World → Prop) : Prop :=
  C.step (sBuiltin .len #[87] 3 [false] [a0]) w fun v7_1 w =>
  C.loop [undef, (.slice none 0 0), (.int .i64 0)] w fun dv_1 vs_1 w again_1 =>
  C.step (sBin .lss 3 (.tmp 8) (.tmp 7) (vs_1.getD 2 undef) v7_1) w fun v9_1 w =>
  C.bool v9_1
  (C.step (sIndexAddr 87 a0 (vs_1.getD 2 undef)) w fun v10_1 w =>
  C.step (sLoad 95 v10_1) w fun v11_1 w =>
  C.step (sAlloc 95) w fun v5_1 w =>
  C.step (sStore 95 v5_1 v11_1) w fun vx_1 w =>
  C.step (sFieldAddr 95 v5_1 0) w fun v13_1 w =>
  C.step (sLoad 41 v13_1) w fun v14_1 w =>
  C.calls 64 #[v14_1] w fun v15_1 w =>
  C.step (sBuildSlice 31 1 [(0, v15_1)]) w fun v16_1 w =>
  C.step (sBuiltin .append #[31, 31] 31 [false, false] [(vs_1.getD 1 undef), v16_1]) w fun v17_1 w =>
  C.step (sBin .add 3 (.tmp 8) (.const (.int .i64 1)) (vs_1.getD 2 undef) (.int .i64 1)) w fun v18_1 w =>
  again_1 [v5_1, v17_1, v18_1] w)
  (wal_records_k1 C (vs_1.getD 1 undef) w Q)
theorem wal_records_eq (C : Comb) (a0 : Value) (w : World) (Q : Value → World → Prop) : wal_records_x C a0 w Q = FunY Try.prog C 6 [] Try.f48 [a0] w Q := by kernel_rfl
theorem wal_records_sound (a0 : Value) {w : World} {Q : Value → World → Prop} (h : wal_records_x (std Try.prog) a0 w Q) : CallsR Try.prog 48 #[a0] w Q :=
  calls_of_funY mixed Try.func48 (Eq.mp (wal_records_eq _ a0 w Q) h)

def flotillaref05_Same_k1 (C : Comb) (w : World) (Q : Value → World → Prop) : Prop :=
  Q (.bool false) w
def flotillaref05_Same_k3 (C : Comb) (w : World) (Q : Value → World → Prop) : Prop :=
  Q (.bool true) w
def flotillaref05_Same_k2 (C : Comb) (v2_1 : Value) (v3_1 : Value) (w : World) (Q : Value → World → Prop) : Prop :=
  C.loop [(.int .i64 0)] w fun dv_1 vs_1 w again_1 =>
  C.step (sFieldAddr 41 v2_1 8) w fun v89_1 w =>
  C.step (sLoad 39 v89_1) w fun v90_1 w =>
  C.step (sBuiltin .len #[39] 3 [false] [v90_1]) w fun v91_1 w =>
  C.step (sBin .lss 3 (.tmp 88) (.tmp 91) (vs_1.getD 0 undef) v91_1) w fun v92_1 w =>
  C.bool v92_1
  (C.draw w fun S_1 w =>
  C.stepS S_1 (sFieldAddr 41 v2_1 8) fun v95_1 =>
  C.stepS S_1 (sLoad 39 v95_1) fun v96_1 =>
  C.stepS S_1 (sIndexAddr 39 v96_1 (vs_1.getD 0 undef)) fun v98_1 =>
  C.stepS S_1 (sLoad 138 v98_1) fun v99_1 =>
  C.stepS S_1 (sFieldAddr 41 v3_1 8) fun v100_1 =>
  C.stepS S_1 (sLoad 39 v100_1) fun v101_1 =>
  C.stepS S_1 (sIndexAddr 39 v101_1 (vs_1.getD 0 undef)) fun v103_1 =>
  C.stepS S_1 (sLoad 138 v103_1) fun v104_1 =>
  C.stepS S_1 (sBin .neq 138 (.tmp 99) (.tmp 104) v99_1 v104_1) fun v105_1 =>
  C.bool v105_1
  (Q (.bool false) w)
  (C.step (sBin .add 3 (.tmp 93) (.const (.int .i64 1)) (vs_1.getD 0 undef) (.int .i64 1)) w fun v94_1 w =>
  again_1 [v94_1] w))
  (flotillaref05_Same_k3 C w Q)
def flotillaref05_Same_x (C : Comb) (a0 : Value) (a1 : Value) (w : World) (Q : Value → World → Prop) : Prop :=
  C.step (sBox 41 a0) w fun v2_1 w =>
  C.step (sBox 41 a1) w fun v3_1 w =>
  C.step (sFieldAddr 41 v2_1 0) w fun v7_1 w =>
  C.step (sLoad 33 v7_1) w fun v8_1 w =>
  C.step (sFieldAddr 41 v3_1 0) w fun v9_1 w =>
  C.step (sLoad 33 v9_1) w fun v10_1 w =>
  C.step (sBin .neq 33 (.tmp 8) (.tmp 10) v8_1 v10_1) w fun v11_1 w =>
  C.bool v11_1
  (flotillaref05_Same_k1 C w Q)
  (C.step (sFieldAddr 41 v2_1 1) w fun v13_1 w =>
  C.step (sLoad 34 v13_1) w fun v14_1 w =>
  C.step (sFieldAddr 41 v3_1 1) w fun v15_1 w =>
  C.step (sLoad 34 v15_1) w fun v16_1 w =>
  C.step (sBin .neq 34 (.tmp 14) (.tmp 16) v14_1 v16_1) w fun v17_1 w =>
  C.bool v17_1
  (flotillaref05_Same_k1 C w Q)
  (C.step (sFieldAddr 41 v2_1 2) w fun v20_1 w =>
  C.step (sLoad 3 v20_1) w fun v21_1 w =>
  C.step (sFieldAddr 41 v3_1 2) w fun v22_1 w =>
  C.step (sLoad 3 v22_1) w fun v23_1 w =>
  C.step (sBin .neq 3 (.tmp 21) (.tmp 23) v21_1 v23_1) w fun v24_1 w =>
  C.bool v24_1
  (flotillaref05_Same_k1 C w Q)
  (C.step (sFieldAddr 41 v2_1 3) w fun v27_1 w =>
  C.step (sLoad 34 v27_1) w fun v28_1 w =>
  C.step (sFieldAddr 41 v3_1 3) w fun v29_1 w =>
  C.step (sLoad 34 v29_1) w fun v30_1 w =>
  C.step (sBin .neq 34 (.tmp 28) (.tmp 30) v28_1 v30_1) w fun v31_1 w =>
  C.bool v31_1
  (flotillaref05_Same_k1 C w Q)
  (C.step (sFieldAddr 41 v2_1 4) w fun v34_1 w =>
  C.step (sLoad 34 v34_1) w fun v35_1 w =>
  C.step (sFieldAddr 41 v3_1 4) w fun v36_1 w =>
  C.step (sLoad 34 v36_1) w fun v37_1 w =>
  C.step (sBin .neq 34 (.tmp 35) (.tmp 37) v35_1 v37_1) w fun v38_1 w =>
  C.bool v38_1
  (flotillaref05_Same_k1 C w Q)
  (C.step (sFieldAddr 41 v2_1 5) w fun v41_1 w =>
  C.step (sLoad 3 v41_1) w fun v42_1 w =>
  C.step (sFieldAddr 41 v3_1 5) w fun v43_1 w =>
  C.step (sLoad 3 v43_1) w fun v44_1 w =>
  C.step (sBin .neq 3 (.tmp 42) (.tmp 44) v42_1 v44_1) w fun v45_1 w =>
  C.bool v45_1
  (flotillaref05_Same_k1 C w Q)
  (C.step (sFieldAddr 41 v2_1 6) w fun v48_1 w =>
  C.step (sLoad 37 v48_1) w fun v49_1 w =>
  C.step (sFieldAddr 41 v3_1 6) w fun v50_1 w =>
  C.step (sLoad 37 v50_1) w fun v51_1 w =>
  C.step (sBin .neq 37 (.tmp 49) (.tmp 51) v49_1 v51_1) w fun v52_1 w =>
  C.bool v52_1
  (Q (.bool false) w)
  (C.step (sFieldAddr 41 v2_1 7) w fun v54_1 w =>
  C.step (sLoad 38 v54_1) w fun v55_1 w =>
  C.step (sBuiltin .len #[38] 3 [false] [v55_1]) w fun v56_1 w =>
  C.step (sFieldAddr 41 v3_1 7) w fun v57_1 w =>
  C.step (sLoad 38 v57_1) w fun v58_1 w =>
  C.step (sBuiltin .len #[38] 3 [false] [v58_1]) w fun v59_1 w =>
  C.step (sBin .neq 3 (.tmp 56) (.tmp 59) v56_1 v59_1) w fun v60_1 w =>
  C.bool v60_1
  (Q (.bool false) w)
  (C.step (sFieldAddr 41 v2_1 8) w fun v62_1 w =>
  C.step (sLoad 39 v62_1) w fun v63_1 w =>
  C.step (sBuiltin .len #[39] 3 [false] [v63_1]) w fun v64_1 w =>
  C.step (sFieldAddr 41 v3_1 8) w fun v65_1 w =>
  C.step (sLoad 39 v65_1) w fun v66_1 w =>
  C.step (sBuiltin .len #[39] 3 [false] [v66_1]) w fun v67_1 w =>
  C.step (sBin .neq 3 (.tmp 64) (.tmp 67) v64_1 v67_1) w fun v68_1 w =>
  C.bool v68_1
  (Q (.bool false) w)
  (C.loop [(.int .i64 0)] w fun dv_2 vs_2 w again_2 =>
  C.step (sFieldAddr 41 v2_1 7) w fun v71_1 w =>
  C.step (sLoad 38 v71_1) w fun v72_1 w =>
  C.step (sBuiltin .len #[38] 3 [false] [v72_1]) w fun v73_1 w =>
  C.step (sBin .lss 3 (.tmp 70) (.tmp 73) (vs_2.getD 0 undef) v73_1) w fun v74_1 w =>
  C.bool v74_1
  (C.draw w fun S_2 w =>
  C.stepS S_2 (sFieldAddr 41 v2_1 7) fun v77_1 =>
  C.stepS S_2 (sLoad 38 v77_1) fun v78_1 =>
  C.stepS S_2 (sIndexAddr 38 v78_1 (vs_2.getD 0 undef)) fun v80_1 =>
  C.stepS S_2 (sLoad 136 v80_1) fun v81_1 =>
  C.stepS S_2 (sFieldAddr 41 v3_1 7) fun v82_1 =>
  C.stepS S_2 (sLoad 38 v82_1) fun v83_1 =>
  C.stepS S_2 (sIndexAddr 38 v83_1 (vs_2.getD 0 undef)) fun v85_1 =>
  C.stepS S_2 (sLoad 136 v85_1) fun v86_1 =>
  C.stepS S_2 (sBin .neq 136 (.tmp 81) (.tmp 86) v81_1 v86_1) fun v87_1 =>
  C.bool v87_1
  (Q (.bool false) w)
  (C.step (sBin .add 3 (.tmp 75) (.const (.int .i64 1)) (vs_2.getD 0 undef) (.int .i64 1)) w fun v76_1 w =>
  again_2 [v76_1] w))
  (flotillaref05_Same_k2 C v2_1 v3_1 w Q))))))))))
theorem flotillaref05_Same_eq (C : Comb) (a0 : Value) (a1 : Value) (w : World) (Q : Value → World → Prop) : flotillaref05_Same_x C a0 a1 w Q = FunY Try.prog C 2 [] Try.f49 [a0, a1] w Q := by kernel_rfl
theorem flotillaref05_Same_sound (a0 : Value) (a1 : Value) {w : World} {Q : Value → World → Prop} (h : flotillaref05_Same_x (std Try.prog) a0 a1 w Q) : CallsR Try.prog 49 #[a0, a1] w Q :=
  calls_of_funY mixed Try.func49 (Eq.mp (flotillaref05_Same_eq _ a0 a1 w Q) h)

def flotillaref08_Noughts_x (C : Comb) (a0 : Value) (w : World) (Q : Value → World → Prop) : Prop :=
  C.step (sMakeSlice 51 a0 a0) w fun v4_1 w =>
  C.step (sConv 51 9 v4_1) w fun v5_1 w =>
  Q v5_1 w
theorem flotillaref08_Noughts_eq (C : Comb) (a0 : Value) (w : World) (Q : Value → World → Prop) : flotillaref08_Noughts_x C a0 w Q = FunY Try.prog C 2 [] Try.f50 [a0] w Q := by kernel_rfl
theorem flotillaref08_Noughts_sound (a0 : Value) {w : World} {Q : Value → World → Prop} (h : flotillaref08_Noughts_x (std Try.prog) a0 w Q) : CallsR Try.prog 50 #[a0] w Q :=
  calls_of_funY mixed Try.func50 (Eq.mp (flotillaref08_Noughts_eq _ a0 w Q) h)

def stable_Device_known_k1 (C : Comb) (w : World) (Q : Value → World → Prop) : Prop :=
  Q (.bool false) w
def stable_Device_known_x (C : Comb) (a0 : Value) (a1 : Value) (w : World) (Q : Value → World → Prop) : Prop :=
  C.step (sBin .neq 23 (.tmp 5) (.const (.pointer none)) a0 (.pointer none)) w fun v6_1 w =>
  C.bool v6_1
  (C.step (sBin .geq 3 (.tmp 8) (.const (.int .i64 0)) a1 (.int .i64 0)) w fun v9_1 w =>
  C.bool v9_1
  (C.step (sBin .lss 3 (.tmp 12) (.const (.int .i64 8)) a1 (.int .i64 8)) w fun v13_1 w =>
  Q v13_1 w)
  (stable_Device_known_k1 C w Q))
  (stable_Device_known_k1 C w Q)
theorem stable_Device_known_eq (C : Comb) (a0 : Value) (a1 : Value) (w : World) (Q : Value → World → Prop) : stable_Device_known_x C a0 a1 w Q = FunY Try.prog C 4 [] Try.f51 [a0, a1] w Q := by kernel_rfl
theorem stable_Device_known_sound (a0 : Value) (a1 : Value) {w : World} {Q : Value → World → Prop} (h : stable_Device_known_x (std Try.prog) a0 a1 w Q) : CallsR Try.prog 51 #[a0, a1] w Q :=
  calls_of_funY mixed Try.func51 (Eq.mp (stable_Device_known_eq _ a0 a1 w Q) h)

def flotillaref09_Told_x (C : Comb) (a0 : Value) (w : World) (Q : Value → World → Prop) : Prop :=
  C.step (sBox 56 a0) w fun v1_1 w =>
  C.step (sFieldAddr 56 v1_1 0) w fun v6_1 w =>
  C.step (sLoad 9 v6_1) w fun v7_1 w =>
  C.step (sBuiltin .len #[9] 3 [false] [v7_1]) w fun v8_1 w =>
  C.step (sBin .lss 3 (.tmp 8) (.const (.int .i64 64)) v8_1 (.int .i64 64)) w fun v9_1 w =>
  C.bool v9_1
  (Q (.int .i64 0) w)
  (C.step (sFieldAddr 56 v1_1 0) w fun v11_1 w =>
  C.step (sLoad 9 v11_1) w fun v12_1 w =>
  C.step (sSlice 9 v12_1 none (some (.int .i64 8)) none) w fun v13_1 w =>
  C.calls 71 #[v13_1] w fun v14_1 w =>
  C.step (sExtract v14_1 0) w fun v15_1 w =>
  C.step (sExtract v14_1 1) w fun v16_1 w =>
  C.step (sBin .neq 24 (.tmp 17) (.const (.int .i64 0)) v16_1 (.int .i64 0)) w fun v18_1 w =>
  C.bool v18_1
  (Q (.int .i64 0) w)
  (C.draw w fun S_1 w =>
  C.stepS S_1 (sIndex 9 v15_1 (.int .i64 0)) fun v20_1 =>
  C.stepS S_1 (sConv 5 3 v20_1) fun v21_1 =>
  C.stepS S_1 (sIndex 9 v15_1 (.int .i64 1)) fun v23_1 =>
  C.stepS S_1 (sConv 5 3 v23_1) fun v24_1 =>
  C.stepS S_1 (sBin .mul 3 (.const (.int .i64 256)) (.tmp 24) (.int .i64 256) v24_1) fun v25_1 =>
  C.stepS S_1 (sBin .add 3 (.tmp 21) (.tmp 25) v21_1 v25_1) fun v26_1 =>
  C.stepS S_1 (sIndex 9 v15_1 (.int .i64 2)) fun v28_1 =>
  C.stepS S_1 (sConv 5 3 v28_1) fun v29_1 =>
  C.stepS S_1 (sBin .mul 3 (.const (.int .i64 65536)) (.tmp 29) (.int .i64 65536) v29_1) fun v30_1 =>
  C.stepS S_1 (sBin .add 3 (.tmp 26) (.tmp 30) v26_1 v30_1) fun v31_1 =>
  C.stepS S_1 (sIndex 9 v15_1 (.int .i64 3)) fun v33_1 =>
  C.stepS S_1 (sConv 5 3 v33_1) fun v34_1 =>
  C.stepS S_1 (sBin .mul 3 (.const (.int .i64 16777216)) (.tmp 34) (.int .i64 16777216) v34_1) fun v35_1 =>
  C.stepS S_1 (sBin .add 3 (.tmp 31) (.tmp 35) v31_1 v35_1) fun v36_1 =>
  C.step (sFieldAddr 56 v1_1 0) w fun v38_1 w =>
  C.step (sLoad 9 v38_1) w fun v39_1 w =>
  C.step (sBuiltin .len #[9] 3 [false] [v39_1]) w fun v40_1 w =>
  C.step (sBin .sub 3 (.tmp 40) (.const (.int .i64 64)) v40_1 (.int .i64 64)) w fun v41_1 w =>
  C.step (sBin .gtr 3 (.tmp 37) (.tmp 41) v36_1 v41_1) w fun v42_1 w =>
  C.bool v42_1
  (Q (.int .i64 0) w)
  (Q v36_1 w)))
theorem flotillaref09_Told_eq (C : Comb) (a0 : Value) (w : World) (Q : Value → World → Prop) : flotillaref09_Told_x C a0 w Q = FunY Try.prog C 6 [] Try.f52 [a0] w Q := by kernel_rfl
theorem flotillaref09_Told_sound (a0 : Value) {w : World} {Q : Value → World → Prop} (h : flotillaref09_Told_x (std Try.prog) a0 w Q) : CallsR Try.prog 52 #[a0] w Q :=
  calls_of_funY mixed Try.func52 (Eq.mp (flotillaref09_Told_eq _ a0 w Q) h)

def flotillaref05_Unframe_x (C : Comb) (a0 : Value) (w : World) (Q : Value → World → Prop) : Prop :=
  C.step (sAlloc 41) w fun v2_1 w =>
  C.step (sBuiltin .len #[9] 3 [false] [a0]) w fun v11_1 w =>
  C.step (sBin .lss 3 (.tmp 11) (.const (.int .i64 2)) v11_1 (.int .i64 2)) w fun v12_1 w =>
  C.bool v12_1
  (C.step (sBuild 41 []) w fun v13_1 w =>
  C.step (sStore 41 v2_1 v13_1) w fun vx_1 w =>
  C.loadR 41 v2_1 w fun r_1 =>
  Q (.tuple #[r_1, (.int .i64 0), (.int .i64 4)]) w)
  (C.draw w fun S_1 w =>
  C.stepS S_1 (sIndex 9 a0 (.int .i64 0)) fun v15_1 =>
  C.stepS S_1 (sConv 5 3 v15_1) fun v16_1 =>
  C.stepS S_1 (sIndex 9 a0 (.int .i64 1)) fun v18_1 =>
  C.stepS S_1 (sConv 5 3 v18_1) fun v19_1 =>
  C.stepS S_1 (sBin .mul 3 (.const (.int .i64 256)) (.tmp 19) (.int .i64 256) v19_1) fun v20_1 =>
  C.stepS S_1 (sBin .add 3 (.tmp 16) (.tmp 20) v16_1 v20_1) fun v21_1 =>
  C.stepS S_1 (sBin .add 3 (.tmp 21) (.const (.int .i64 6)) v21_1 (.int .i64 6)) fun v22_1 =>
  C.step (sBuiltin .len #[9] 3 [false] [a0]) w fun v24_1 w =>
  C.step (sBin .lss 3 (.tmp 24) (.tmp 25) v24_1 v22_1) w fun v26_1 w =>
  C.bool v26_1
  (C.step (sBuild 41 []) w fun v27_1 w =>
  C.step (sStore 41 v2_1 v27_1) w fun vx_2 w =>
  C.loadR 41 v2_1 w fun r_2 =>
  Q (.tuple #[r_2, (.int .i64 0), (.int .i64 4)]) w)
  (C.step (sSlice 9 a0 none (some v22_1) none) w fun v31_1 w =>
  C.calls 71 #[v31_1] w fun v32_1 w =>
  C.step (sExtract v32_1 0) w fun v33_1 w =>
  C.step (sExtract v32_1 1) w fun v34_1 w =>
  C.step (sBin .neq 24 (.tmp 35) (.const (.int .i64 0)) v34_1 (.int .i64 0)) w fun v36_1 w =>
  C.bool v36_1
  (C.step (sBuild 41 []) w fun v37_1 w =>
  C.step (sStore 41 v2_1 v37_1) w fun vx_3 w =>
  C.loadR 41 v2_1 w fun r_3 =>
  Q (.tuple #[r_3, (.int .i64 0), (.int .i64 6)]) w)
  (C.step (sSlice 9 v33_1 (some (.int .i64 2)) none none) w fun v40_1 w =>
  C.calls 72 #[v40_1] w fun v41_1 w =>
  C.step (sExtract v41_1 0) w fun v42_1 w =>
  C.step (sExtract v41_1 1) w fun v43_1 w =>
  C.step (sAlloc 41) w fun v8_1 w =>
  C.step (sStore 41 v8_1 v42_1) w fun vx_4 w =>
  C.step (sBin .neq 24 (.tmp 44) (.const (.int .i64 0)) v43_1 (.int .i64 0)) w fun v45_1 w =>
  C.bool v45_1
  (C.step (sBuild 41 []) w fun v46_1 w =>
  C.step (sStore 41 v2_1 v46_1) w fun vx_5 w =>
  C.loadR 41 v2_1 w fun r_4 =>
  Q (.tuple #[r_4, (.int .i64 0), v43_1]) w)
  (C.step (sLoad 41 v8_1) w fun v48_1 w =>
  C.step (sStore 41 v2_1 v48_1) w fun vx_6 w =>
  C.loadR 41 v2_1 w fun r_5 =>
  Q (.tuple #[r_5, v22_1, (.int .i64 0)]) w))))
theorem flotillaref05_Unframe_eq (C : Comb) (a0 : Value) (w : World) (Q : Value → World → Prop) : flotillaref05_Unframe_x C a0 w Q = FunY Try.prog C 10 [] Try.f53 [a0] w Q := by kernel_rfl
theorem flotillaref05_Unframe_sound (a0 : Value) {w : World} {Q : Value → World → Prop} (h : flotillaref05_Unframe_x (std Try.prog) a0 w Q) : CallsR Try.prog 53 #[a0] w Q :=
  calls_of_funY mixed Try.func53 (Eq.mp (flotillaref05_Unframe_eq _ a0 w Q) h)

def wal_Log_at_x (C : Comb) (a0 : Value) (a1 : Value) (w : World) (Q : Value → World → Prop) : Prop :=
  C.step (sBin .eql 3 (.tmp 5) (.const (.int .i64 0)) a1 (.int .i64 0)) w fun v6_1 w =>
  C.bool v6_1
  (Q (.int .u64 0) w)
  (C.step (sNil a0) w fun v8_1 w =>
  C.step (sFieldAddr 91 v8_1 2) w fun v9_1 w =>
  C.step (sLoad 87 v9_1) w fun v10_1 w =>
  C.step (sBin .sub 3 (.tmp 11) (.const (.int .i64 1)) a1 (.int .i64 1)) w fun v12_1 w =>
  C.step (sIndexAddr 87 v10_1 v12_1) w fun v13_1 w =>
  C.step (sFieldAddr 95 v13_1 0) w fun v14_1 w =>
  C.step (sFieldAddr 41 v14_1 1) w fun v15_1 w =>
  C.step (sLoad 34 v15_1) w fun v16_1 w =>
  Q v16_1 w)
theorem wal_Log_at_eq (C : Comb) (a0 : Value) (a1 : Value) (w : World) (Q : Value → World → Prop) : wal_Log_at_x C a0 a1 w Q = FunY Try.prog C 4 [] Try.f54 [a0, a1] w Q := by kernel_rfl
theorem wal_Log_at_sound (a0 : Value) (a1 : Value) {w : World} {Q : Value → World → Prop} (h : wal_Log_at_x (std Try.prog) a0 a1 w Q) : CallsR Try.prog 54 #[a0, a1] w Q :=
  calls_of_funY mixed Try.func54 (Eq.mp (wal_Log_at_eq _ a0 a1 w Q) h)

def flotillaref05_Numbered_x (C : Comb) (a0 : Value) (w : World) (Q : Value → World → Prop) : Prop :=
  C.step (sBin .geq 34 (.tmp 3) (.const (.int .u64 16)) a0 (.int .u64 16)) w fun v4_1 w =>
  C.bool v4_1
  (C.step (sBin .leq 34 (.tmp 6) (.const (.int .u64 1152921504606846991)) a0 (.int .u64 1152921504606846991)) w fun v7_1 w =>
  Q v7_1 w)
  (Q (.bool false) w)
theorem flotillaref05_Numbered_eq (C : Comb) (a0 : Value) (w : World) (Q : Value → World → Prop) : flotillaref05_Numbered_x C a0 w Q = FunY Try.prog C 2 [] Try.f55 [a0] w Q := by kernel_rfl
theorem flotillaref05_Numbered_sound (a0 : Value) {w : World} {Q : Value → World → Prop} (h : flotillaref05_Numbered_x (std Try.prog) a0 w Q) : CallsR Try.prog 55 #[a0] w Q :=
  calls_of_funY mixed Try.func55 (Eq.mp (flotillaref05_Numbered_eq _ a0 w Q) h)

def flotillaref05_Changes_x (C : Comb) (a0 : Value) (w : World) (Q : Value → World → Prop) : Prop :=
  C.step (sBin .eql 33 (.tmp 3) (.const (.int .i64 1)) a0 (.int .i64 1)) w fun v4_1 w =>
  C.bool v4_1
  (Q (.bool true) w)
  (C.step (sBin .eql 33 (.tmp 6) (.const (.int .i64 2)) a0 (.int .i64 2)) w fun v7_1 w =>
  Q v7_1 w)
theorem flotillaref05_Changes_eq (C : Comb) (a0 : Value) (w : World) (Q : Value → World → Prop) : flotillaref05_Changes_x C a0 w Q = FunY Try.prog C 2 [] Try.f56 [a0] w Q := by kernel_rfl
theorem flotillaref05_Changes_sound (a0 : Value) {w : World} {Q : Value → World → Prop} (h : flotillaref05_Changes_x (std Try.prog) a0 w Q) : CallsR Try.prog 56 #[a0] w Q :=
  calls_of_funY mixed Try.func56 (Eq.mp (flotillaref05_Changes_eq _ a0 w Q) h)

def flotillaref05_ActMay_k1 (C : Comb) (w : World) (Q : Value → World → Prop) : Prop :=
  Q (.bool false) w
def flotillaref05_ActMay_k2 (C : Comb) (w : World) (Q : Value → World → Prop) : Prop :=
  Q (.bool true) w
def flotillaref05_ActMay_k3 (C : Comb) (u2_3 : Value) (w : World) (Q : Value → World → Prop) : Prop :=
  Q u2_3 w
def flotillaref05_ActMay_k4 (C : Comb) (w : World) (Q : Value → World → Prop) : Prop :=
  Q (.bool false) w
def flotillaref05_ActMay_x (C : Comb) (a0 : Value) (w : World) (Q : Value → World → Prop) : Prop :=
  C.step (sBox 37 a0) w fun v1_1 w =>
  C.step (sFieldAddr 37 v1_1 1) w fun v3_1 w =>
  C.step (sLoad 9 v3_1) w fun v4_1 w =>
  C.step (sBuiltin .len #[9] 3 [false] [v4_1]) w fun v5_1 w =>
  C.step (sBin .lss 3 (.tmp 5) (.const (.int .i64 1)) v5_1 (.int .i64 1)) w fun v6_1 w =>
  C.bool v6_1
  (flotillaref05_ActMay_k1 C w Q)
  (C.step (sFieldAddr 37 v1_1 1) w fun v8_1 w =>
  C.step (sLoad 9 v8_1) w fun v9_1 w =>
  C.step (sBuiltin .len #[9] 3 [false] [v9_1]) w fun v10_1 w =>
  C.step (sBin .gtr 3 (.tmp 10) (.const (.int .i64 16)) v10_1 (.int .i64 16)) w fun v11_1 w =>
  C.bool v11_1
  (flotillaref05_ActMay_k1 C w Q)
  (C.step (sFieldAddr 37 v1_1 2) w fun v14_1 w =>
  C.step (sLoad 9 v14_1) w fun v15_1 w =>
  C.step (sBuiltin .len #[9] 3 [false] [v15_1]) w fun v16_1 w =>
  C.step (sBin .gtr 3 (.tmp 16) (.const (.int .i64 32)) v16_1 (.int .i64 32)) w fun v17_1 w =>
  C.bool v17_1
  (flotillaref05_ActMay_k1 C w Q)
  (C.step (sFieldAddr 37 v1_1 3) w fun v20_1 w =>
  C.step (sLoad 9 v20_1) w fun v21_1 w =>
  C.step (sBuiltin .len #[9] 3 [false] [v21_1]) w fun v22_1 w =>
  C.step (sBin .gtr 3 (.tmp 22) (.const (.int .i64 32)) v22_1 (.int .i64 32)) w fun v23_1 w =>
  C.bool v23_1
  (Q (.bool false) w)
  (C.step (sFieldAddr 37 v1_1 0) w fun v25_1 w =>
  C.step (sLoad 35 v25_1) w fun v26_1 w =>
  C.step (sBin .eql 35 (.tmp 26) (.const (.int .i64 1)) v26_1 (.int .i64 1)) w fun v27_1 w =>
  C.bool v27_1
  (C.step (sFieldAddr 37 v1_1 2) w fun v29_1 w =>
  C.step (sLoad 9 v29_1) w fun v30_1 w =>
  C.step (sBin .eql 9 (.tmp 30) (.const (.string ⟨#[]⟩)) v30_1 (.string ⟨#[]⟩)) w fun v31_1 w =>
  C.bool v31_1
  (flotillaref05_ActMay_k2 C w Q)
  (C.step (sFieldAddr 37 v1_1 0) w fun v34_1 w =>
  C.step (sLoad 35 v34_1) w fun v35_1 w =>
  C.step (sBin .eql 35 (.tmp 35) (.const (.int .i64 2)) v35_1 (.int .i64 2)) w fun v36_1 w =>
  C.bool v36_1
  (flotillaref05_ActMay_k2 C w Q)
  (C.step (sFieldAddr 37 v1_1 0) w fun v39_1 w =>
  C.step (sLoad 35 v39_1) w fun v40_1 w =>
  C.step (sBin .eql 35 (.tmp 40) (.const (.int .i64 3)) v40_1 (.int .i64 3)) w fun v41_1 w =>
  C.bool v41_1
  (C.step (sFieldAddr 37 v1_1 3) w fun v43_1 w =>
  C.step (sLoad 9 v43_1) w fun v44_1 w =>
  C.step (sBin .eql 9 (.tmp 44) (.const (.string ⟨#[]⟩)) v44_1 (.string ⟨#[]⟩)) w fun v45_1 w =>
  flotillaref05_ActMay_k3 C v45_1 w Q)
  (flotillaref05_ActMay_k4 C w Q))))
  (C.step (sFieldAddr 37 v1_1 0) w fun v34_2 w =>
  C.step (sLoad 35 v34_2) w fun v35_2 w =>
  C.step (sBin .eql 35 (.tmp 35) (.const (.int .i64 2)) v35_2 (.int .i64 2)) w fun v36_2 w =>
  C.bool v36_2
  (flotillaref05_ActMay_k2 C w Q)
  (C.step (sFieldAddr 37 v1_1 0) w fun v39_2 w =>
  C.step (sLoad 35 v39_2) w fun v40_2 w =>
  C.step (sBin .eql 35 (.tmp 40) (.const (.int .i64 3)) v40_2 (.int .i64 3)) w fun v41_2 w =>
  C.bool v41_2
  (C.step (sFieldAddr 37 v1_1 3) w fun v43_2 w =>
  C.step (sLoad 9 v43_2) w fun v44_2 w =>
  C.step (sBin .eql 9 (.tmp 44) (.const (.string ⟨#[]⟩)) v44_2 (.string ⟨#[]⟩)) w fun v45_2 w =>
  flotillaref05_ActMay_k3 C v45_2 w Q)
  (flotillaref05_ActMay_k4 C w Q)))))))
theorem flotillaref05_ActMay_eq (C : Comb) (a0 : Value) (w : World) (Q : Value → World → Prop) : flotillaref05_ActMay_x C a0 w Q = FunY Try.prog C 2 [] Try.f57 [a0] w Q := by kernel_rfl
theorem flotillaref05_ActMay_sound (a0 : Value) {w : World} {Q : Value → World → Prop} (h : flotillaref05_ActMay_x (std Try.prog) a0 w Q) : CallsR Try.prog 57 #[a0] w Q :=
  calls_of_funY mixed Try.func57 (Eq.mp (flotillaref05_ActMay_eq _ a0 w Q) h)

def flotillaref05_Rows_k2 (C : Comb) (w : World) (Q : Value → World → Prop) : Prop :=
  Q (.bool true) w
def flotillaref05_Rows_k3 (C : Comb) (vs_1 : List Value) (again_1 : List Value → World → Prop) (w : World) (Q : Value → World → Prop) : Prop :=
  C.step (sBin .add 3 (.tmp 72) (.const (.int .i64 1)) (vs_1.getD 0 undef) (.int .i64 1)) w fun v73_1 w =>
  again_1 [v73_1] w
def flotillaref05_Rows_k4 (C : Comb) (w : World) (Q : Value → World → Prop) : Prop :=
  Q (.bool false) w
def flotillaref05_Rows_k1 (C : Comb) (v1_1 : Value) (w : World) (Q : Value → World → Prop) : Prop :=
  C.loop [(.int .i64 0)] w fun dv_1 vs_1 w again_1 =>
  C.step (sFieldAddr 41 v1_1 8) w fun v68_1 w =>
  C.step (sLoad 39 v68_1) w fun v69_1 w =>
  C.step (sBuiltin .len #[39] 3 [false] [v69_1]) w fun v70_1 w =>
  C.step (sBin .lss 3 (.tmp 67) (.tmp 70) (vs_1.getD 0 undef) v70_1) w fun v71_1 w =>
  C.bool v71_1
  (C.step (sFieldAddr 41 v1_1 8) w fun v74_1 w =>
  C.step (sLoad 39 v74_1) w fun v75_1 w =>
  C.step (sIndexAddr 39 v75_1 (vs_1.getD 0 undef)) w fun v77_1 w =>
  C.step (sLoad 138 v77_1) w fun v78_1 w =>
  C.step (sAlloc 138) w fun v6_1 w =>
  C.step (sStore 138 v6_1 v78_1) w fun vx_1 w =>
  C.step (sFieldAddr 138 v6_1 0) w fun v79_1 w =>
  C.step (sLoad 3 v79_1) w fun v80_1 w =>
  C.step (sBin .lss 3 (.tmp 80) (.const (.int .i64 0)) v80_1 (.int .i64 0)) w fun v81_1 w =>
  C.bool v81_1
  (flotillaref05_Rows_k4 C w Q)
  (C.step (sFieldAddr 138 v6_1 0) w fun v83_1 w =>
  C.step (sLoad 3 v83_1) w fun v84_1 w =>
  C.step (sBin .gtr 3 (.tmp 84) (.const (.int .i64 15)) v84_1 (.int .i64 15)) w fun v85_1 w =>
  C.bool v85_1
  (flotillaref05_Rows_k4 C w Q)
  (C.step (sFieldAddr 138 v6_1 1) w fun v88_1 w =>
  C.step (sLoad 34 v88_1) w fun v89_1 w =>
  C.calls 55 #[v89_1] w fun v90_1 w =>
  C.step (sUn .not v90_1) w fun v91_1 w =>
  C.bool v91_1
  (Q (.bool false) w)
  (C.draw w fun S_1 w =>
  C.stepS S_1 (sBin .gtr 3 (.tmp 93) (.const (.int .i64 0)) (vs_1.getD 0 undef) (.int .i64 0)) fun v94_1 =>
  C.bool v94_1
  (C.stepS S_1 (sFieldAddr 41 v1_1 8) fun v96_1 =>
  C.stepS S_1 (sLoad 39 v96_1) fun v97_1 =>
  C.stepS S_1 (sBin .sub 3 (.tmp 98) (.const (.int .i64 1)) (vs_1.getD 0 undef) (.int .i64 1)) fun v99_1 =>
  C.stepS S_1 (sIndexAddr 39 v97_1 v99_1) fun v100_1 =>
  C.stepS S_1 (sFieldAddr 138 v100_1 0) fun v101_1 =>
  C.stepS S_1 (sLoad 3 v101_1) fun v102_1 =>
  C.stepS S_1 (sFieldAddr 138 v6_1 0) fun v103_1 =>
  C.stepS S_1 (sLoad 3 v103_1) fun v104_1 =>
  C.stepS S_1 (sBin .geq 3 (.tmp 102) (.tmp 104) v102_1 v104_1) fun v105_1 =>
  C.bool v105_1
  (Q (.bool false) w)
  (flotillaref05_Rows_k3 C vs_1 again_1 w Q))
  (flotillaref05_Rows_k3 C vs_1 again_1 w Q)))))
  (flotillaref05_Rows_k2 C w Q)
def flotillaref05_Rows_k5 (C : Comb) (vs_2 : List Value) (again_2 : List Value → World → Prop) (w : World) (Q : Value → World → Prop) : Prop :=
  C.step (sBin .add 3 (.tmp 22) (.const (.int .i64 1)) (vs_2.getD 0 undef) (.int .i64 1)) w fun v23_1 w =>
  again_2 [v23_1] w
def flotillaref05_Rows_k6 (C : Comb) (w : World) (Q : Value → World → Prop) : Prop :=
  Q (.bool false) w
def flotillaref05_Rows_x (C : Comb) (a0 : Value) (w : World) (Q : Value → World → Prop) : Prop :=
  C.step (sBox 41 a0) w fun v1_1 w =>
  C.step (sFieldAddr 41 v1_1 7) w fun v7_1 w =>
  C.step (sLoad 38 v7_1) w fun v8_1 w =>
  C.step (sBuiltin .len #[38] 3 [false] [v8_1]) w fun v9_1 w =>
  C.step (sBin .gtr 3 (.tmp 9) (.const (.int .i64 64)) v9_1 (.int .i64 64)) w fun v10_1 w =>
  C.bool v10_1
  (Q (.bool false) w)
  (C.step (sFieldAddr 41 v1_1 8) w fun v12_1 w =>
  C.step (sLoad 39 v12_1) w fun v13_1 w =>
  C.step (sBuiltin .len #[39] 3 [false] [v13_1]) w fun v14_1 w =>
  C.step (sBin .gtr 3 (.tmp 14) (.const (.int .i64 16)) v14_1 (.int .i64 16)) w fun v15_1 w =>
  C.bool v15_1
  (Q (.bool false) w)
  (C.loop [(.int .i64 0)] w fun dv_2 vs_2 w again_2 =>
  C.step (sFieldAddr 41 v1_1 7) w fun v18_1 w =>
  C.step (sLoad 38 v18_1) w fun v19_1 w =>
  C.step (sBuiltin .len #[38] 3 [false] [v19_1]) w fun v20_1 w =>
  C.step (sBin .lss 3 (.tmp 17) (.tmp 20) (vs_2.getD 0 undef) v20_1) w fun v21_1 w =>
  C.bool v21_1
  (C.step (sFieldAddr 41 v1_1 7) w fun v24_1 w =>
  C.step (sLoad 38 v24_1) w fun v25_1 w =>
  C.step (sIndexAddr 38 v25_1 (vs_2.getD 0 undef)) w fun v27_1 w =>
  C.step (sLoad 136 v27_1) w fun v28_1 w =>
  C.step (sAlloc 136) w fun v4_1 w =>
  C.step (sStore 136 v4_1 v28_1) w fun vx_2 w =>
  C.step (sFieldAddr 136 v4_1 0) w fun v29_1 w =>
  C.step (sLoad 3 v29_1) w fun v30_1 w =>
  C.step (sBin .lss 3 (.tmp 30) (.const (.int .i64 1)) v30_1 (.int .i64 1)) w fun v31_1 w =>
  C.bool v31_1
  (flotillaref05_Rows_k6 C w Q)
  (C.step (sFieldAddr 136 v4_1 0) w fun v33_1 w =>
  C.step (sLoad 3 v33_1) w fun v34_1 w =>
  C.step (sBin .gtr 3 (.tmp 34) (.const (.int .i64 1073741824)) v34_1 (.int .i64 1073741824)) w fun v35_1 w =>
  C.bool v35_1
  (flotillaref05_Rows_k6 C w Q)
  (C.step (sFieldAddr 136 v4_1 1) w fun v38_1 w =>
  C.step (sLoad 134 v38_1) w fun v39_1 w =>
  C.step (sBin .lss 134 (.tmp 39) (.const (.int .i64 0)) v39_1 (.int .i64 0)) w fun v40_1 w =>
  C.bool v40_1
  (flotillaref05_Rows_k6 C w Q)
  (C.step (sFieldAddr 136 v4_1 1) w fun v43_1 w =>
  C.step (sLoad 134 v43_1) w fun v44_1 w =>
  C.step (sBin .gtr 134 (.tmp 44) (.const (.int .i64 2)) v44_1 (.int .i64 2)) w fun v45_1 w =>
  C.bool v45_1
  (flotillaref05_Rows_k6 C w Q)
  (C.step (sFieldAddr 136 v4_1 2) w fun v48_1 w =>
  C.step (sLoad 34 v48_1) w fun v49_1 w =>
  C.calls 55 #[v49_1] w fun v50_1 w =>
  C.step (sUn .not v50_1) w fun v51_1 w =>
  C.bool v51_1
  (Q (.bool false) w)
  (C.draw w fun S_2 w =>
  C.stepS S_2 (sBin .gtr 3 (.tmp 53) (.const (.int .i64 0)) (vs_2.getD 0 undef) (.int .i64 0)) fun v54_1 =>
  C.bool v54_1
  (C.stepS S_2 (sFieldAddr 41 v1_1 7) fun v56_1 =>
  C.stepS S_2 (sLoad 38 v56_1) fun v57_1 =>
  C.stepS S_2 (sBin .sub 3 (.tmp 58) (.const (.int .i64 1)) (vs_2.getD 0 undef) (.int .i64 1)) fun v59_1 =>
  C.stepS S_2 (sIndexAddr 38 v57_1 v59_1) fun v60_1 =>
  C.stepS S_2 (sFieldAddr 136 v60_1 0) fun v61_1 =>
  C.stepS S_2 (sLoad 3 v61_1) fun v62_1 =>
  C.stepS S_2 (sFieldAddr 136 v4_1 0) fun v63_1 =>
  C.stepS S_2 (sLoad 3 v63_1) fun v64_1 =>
  C.stepS S_2 (sBin .geq 3 (.tmp 62) (.tmp 64) v62_1 v64_1) fun v65_1 =>
  C.bool v65_1
  (Q (.bool false) w)
  (flotillaref05_Rows_k5 C vs_2 again_2 w Q))
  (flotillaref05_Rows_k5 C vs_2 again_2 w Q)))))))
  (flotillaref05_Rows_k1 C v1_1 w Q)))
theorem flotillaref05_Rows_eq (C : Comb) (a0 : Value) (w : World) (Q : Value → World → Prop) : flotillaref05_Rows_x C a0 w Q = FunY Try.prog C 2 [] Try.f58 [a0] w Q := by kernel_rfl
theorem flotillaref05_Rows_sound (a0 : Value) {w : World} {Q : Value → World → Prop} (h : flotillaref05_Rows_x (std Try.prog) a0 w Q) : CallsR Try.prog 58 #[a0] w Q :=
  calls_of_funY mixed Try.func58 (Eq.mp (flotillaref05_Rows_eq _ a0 w Q) h)

def flotillaref05_Bytes_j1 (C : Comb) (dv_3 : Nat → Value) (vs_3 : List Value) (w : World) (Q : Value → World → Prop) : Prop :=
  Q (vs_3.getD 0 undef) w
def flotillaref05_Bytes_k2 (C : Comb) (v1_1 : Value) (j_3 : List Value → World → Prop) (u3_2 : Value) (w : World) (Q : Value → World → Prop) : Prop :=
  C.step (sFieldAddr 41 v1_1 8) w fun v101_1 w =>
  C.step (sLoad 39 v101_1) w fun v102_1 w =>
  C.step (sBuiltin .len #[39] 3 [false] [v102_1]) w fun v103_1 w =>
  C.step (sConv 3 32 v103_1) w fun v104_1 w =>
  C.calls 61 #[v104_1, (.int .i64 1)] w fun v105_1 w =>
  C.step (sBin .add 9 (.tmp 100) (.tmp 105) u3_2 v105_1) w fun v106_1 w =>
  C.loop [v106_1, (.int .i64 0)] w fun dv_4 vs_4 w again_1 =>
  C.step (sFieldAddr 41 v1_1 8) w fun v108_1 w =>
  C.step (sLoad 39 v108_1) w fun v109_1 w =>
  C.step (sBuiltin .len #[39] 3 [false] [v109_1]) w fun v110_1 w =>
  C.step (sBin .lss 3 (.tmp 107) (.tmp 110) (vs_4.getD 1 undef) v110_1) w fun v111_1 w =>
  C.bool v111_1
  (C.draw w fun S_6 w =>
  C.stepS S_6 (sFieldAddr 41 v1_1 8) fun v115_1 =>
  C.stepS S_6 (sLoad 39 v115_1) fun v116_1 =>
  C.stepS S_6 (sIndexAddr 39 v116_1 (vs_4.getD 1 undef)) fun v118_1 =>
  C.stepS S_6 (sFieldAddr 138 v118_1 0) fun v119_1 =>
  C.stepS S_6 (sLoad 3 v119_1) fun v120_1 =>
  C.stepS S_6 (sConv 3 32 v120_1) fun v121_1 =>
  C.stepS S_6 (sFieldAddr 41 v1_1 8) fun v124_1 =>
  C.stepS S_6 (sLoad 39 v124_1) fun v125_1 =>
  C.stepS S_6 (sIndexAddr 39 v125_1 (vs_4.getD 1 undef)) fun v127_1 =>
  C.stepS S_6 (sFieldAddr 138 v127_1 1) fun v128_1 =>
  C.stepS S_6 (sLoad 34 v128_1) fun v129_1 =>
  C.calls 61 #[v121_1, (.int .i64 2)] w fun v122_1 w =>
  C.keepS S_6 w fun S_7 =>
  C.stepS S_7 (sBin .add 9 (.tmp 114) (.tmp 122) (vs_4.getD 0 undef) v122_1) fun v123_1 =>
  C.calls 61 #[v129_1, (.int .i64 8)] w fun v130_1 w =>
  C.keepS S_7 w fun S_8 =>
  C.stepS S_8 (sBin .add 9 (.tmp 123) (.tmp 130) v123_1 v130_1) fun v131_1 =>
  C.step (sBin .add 3 (.tmp 112) (.const (.int .i64 1)) (vs_4.getD 1 undef) (.int .i64 1)) w fun v113_1 w =>
  again_1 [v131_1, v113_1] w)
  (j_3 [(vs_4.getD 0 undef)] w)
def flotillaref05_Bytes_j3 (C : Comb) (v1_1 : Value) (dv_2 : Nat → Value) (vs_2 : List Value) (w : World) (Q : Value → World → Prop) : Prop :=
  C.join (fun dv_3 vs_3 w => flotillaref05_Bytes_j1 C dv_3 vs_3 w Q) (fun j_3 =>
  C.step (sFieldAddr 41 v1_1 0) w fun v63_1 w =>
  C.step (sLoad 33 v63_1) w fun v64_1 w =>
  C.step (sBin .eql 33 (.tmp 64) (.const (.int .i64 8)) v64_1 (.int .i64 8)) w fun v65_1 w =>
  C.bool v65_1
  (C.step (sFieldAddr 41 v1_1 7) w fun v67_1 w =>
  C.step (sLoad 38 v67_1) w fun v68_1 w =>
  C.step (sBuiltin .len #[38] 3 [false] [v68_1]) w fun v69_1 w =>
  C.step (sConv 3 32 v69_1) w fun v70_1 w =>
  C.calls 61 #[v70_1, (.int .i64 1)] w fun v71_1 w =>
  C.step (sBin .add 9 (.tmp 66) (.tmp 71) (vs_2.getD 0 undef) v71_1) w fun v72_1 w =>
  C.loop [v72_1, (.int .i64 0)] w fun dv_5 vs_5 w again_2 =>
  C.step (sFieldAddr 41 v1_1 7) w fun v74_1 w =>
  C.step (sLoad 38 v74_1) w fun v75_1 w =>
  C.step (sBuiltin .len #[38] 3 [false] [v75_1]) w fun v76_1 w =>
  C.step (sBin .lss 3 (.tmp 73) (.tmp 76) (vs_5.getD 1 undef) v76_1) w fun v77_1 w =>
  C.bool v77_1
  (C.step (sFieldAddr 41 v1_1 7) w fun v80_1 w =>
  C.step (sLoad 38 v80_1) w fun v81_1 w =>
  C.step (sIndexAddr 38 v81_1 (vs_5.getD 1 undef)) w fun v83_1 w =>
  C.step (sLoad 136 v83_1) w fun v84_1 w =>
  C.step (sAlloc 136) w fun v5_1 w =>
  C.step (sStore 136 v5_1 v84_1) w fun vx_1 w =>
  C.draw w fun S_9 w =>
  C.stepS S_9 (sFieldAddr 136 v5_1 0) fun v86_1 =>
  C.stepS S_9 (sLoad 3 v86_1) fun v87_1 =>
  C.stepS S_9 (sConv 3 32 v87_1) fun v88_1 =>
  C.stepS S_9 (sFieldAddr 136 v5_1 1) fun v91_1 =>
  C.stepS S_9 (sLoad 134 v91_1) fun v92_1 =>
  C.stepS S_9 (sConv 134 32 v92_1) fun v93_1 =>
  C.stepS S_9 (sFieldAddr 136 v5_1 2) fun v96_1 =>
  C.stepS S_9 (sLoad 34 v96_1) fun v97_1 =>
  C.calls 61 #[v88_1, (.int .i64 4)] w fun v89_1 w =>
  C.keepS S_9 w fun S_10 =>
  C.stepS S_10 (sBin .add 9 (.tmp 85) (.tmp 89) (vs_5.getD 0 undef) v89_1) fun v90_1 =>
  C.calls 61 #[v93_1, (.int .i64 1)] w fun v94_1 w =>
  C.keepS S_10 w fun S_11 =>
  C.stepS S_11 (sBin .add 9 (.tmp 90) (.tmp 94) v90_1 v94_1) fun v95_1 =>
  C.calls 61 #[v97_1, (.int .i64 8)] w fun v98_1 w =>
  C.keepS S_11 w fun S_12 =>
  C.stepS S_12 (sBin .add 9 (.tmp 95) (.tmp 98) v95_1 v98_1) fun v99_1 =>
  C.step (sBin .add 3 (.tmp 78) (.const (.int .i64 1)) (vs_5.getD 1 undef) (.int .i64 1)) w fun v79_1 w =>
  again_2 [v99_1, v79_1] w)
  (flotillaref05_Bytes_k2 C v1_1 j_3 (vs_5.getD 0 undef) w Q))
  (j_3 [(vs_2.getD 0 undef)] w))
def flotillaref05_Bytes_j4 (C : Comb) (v1_1 : Value) (dv_1 : Nat → Value) (vs_1 : List Value) (w : World) (Q : Value → World → Prop) : Prop :=
  C.join (fun dv_2 vs_2 w => flotillaref05_Bytes_j3 C v1_1 dv_2 vs_2 w Q) (fun j_2 =>
  C.step (sFieldAddr 41 v1_1 0) w fun v55_1 w =>
  C.step (sLoad 33 v55_1) w fun v56_1 w =>
  C.step (sBin .eql 33 (.tmp 56) (.const (.int .i64 2)) v56_1 (.int .i64 2)) w fun v57_1 w =>
  C.bool v57_1
  (C.step (sFieldAddr 41 v1_1 4) w fun v59_1 w =>
  C.step (sLoad 34 v59_1) w fun v60_1 w =>
  C.calls 61 #[v60_1, (.int .i64 8)] w fun v61_1 w =>
  C.step (sBin .add 9 (.tmp 58) (.tmp 61) (vs_1.getD 0 undef) v61_1) w fun v62_1 w =>
  j_2 [v62_1] w)
  (j_2 [(vs_1.getD 0 undef)] w))
def flotillaref05_Bytes_x (C : Comb) (a0 : Value) (w : World) (Q : Value → World → Prop) : Prop :=
  C.step (sBox 41 a0) w fun v1_1 w =>
  C.draw w fun S_1 w =>
  C.stepS S_1 (sFieldAddr 41 v1_1 0) fun v7_1 =>
  C.stepS S_1 (sLoad 33 v7_1) fun v8_1 =>
  C.stepS S_1 (sConv 33 32 v8_1) fun v9_1 =>
  C.stepS S_1 (sFieldAddr 41 v1_1 1) fun v11_1 =>
  C.stepS S_1 (sLoad 34 v11_1) fun v12_1 =>
  C.stepS S_1 (sFieldAddr 41 v1_1 2) fun v15_1 =>
  C.stepS S_1 (sLoad 3 v15_1) fun v16_1 =>
  C.stepS S_1 (sConv 3 32 v16_1) fun v17_1 =>
  C.stepS S_1 (sFieldAddr 41 v1_1 3) fun v20_1 =>
  C.stepS S_1 (sLoad 34 v20_1) fun v21_1 =>
  C.calls 61 #[v9_1, (.int .i64 1)] w fun v10_1 w =>
  C.keepS S_1 w fun S_2 =>
  C.calls 61 #[v12_1, (.int .i64 8)] w fun v13_1 w =>
  C.keepS S_2 w fun S_3 =>
  C.stepS S_3 (sBin .add 9 (.tmp 10) (.tmp 13) v10_1 v13_1) fun v14_1 =>
  C.calls 61 #[v17_1, (.int .i64 4)] w fun v18_1 w =>
  C.keepS S_3 w fun S_4 =>
  C.stepS S_4 (sBin .add 9 (.tmp 14) (.tmp 18) v14_1 v18_1) fun v19_1 =>
  C.calls 61 #[v21_1, (.int .i64 8)] w fun v22_1 w =>
  C.keepS S_4 w fun S_5 =>
  C.stepS S_5 (sBin .add 9 (.tmp 19) (.tmp 22) v19_1 v22_1) fun v23_1 =>
  C.join (fun dv_1 vs_1 w => flotillaref05_Bytes_j4 C v1_1 dv_1 vs_1 w Q) (fun j_1 =>
  C.step (sFieldAddr 41 v1_1 0) w fun v24_1 w =>
  C.step (sLoad 33 v24_1) w fun v25_1 w =>
  C.calls 56 #[v25_1] w fun v26_1 w =>
  C.bool v26_1
  (C.draw w fun S_13 w =>
  C.stepS S_13 (sFieldAddr 41 v1_1 5) fun v28_1 =>
  C.stepS S_13 (sLoad 3 v28_1) fun v29_1 =>
  C.stepS S_13 (sConv 3 32 v29_1) fun v30_1 =>
  C.stepS S_13 (sFieldAddr 41 v1_1 6) fun v33_1 =>
  C.stepS S_13 (sFieldAddr 37 v33_1 0) fun v34_1 =>
  C.stepS S_13 (sLoad 35 v34_1) fun v35_1 =>
  C.stepS S_13 (sConv 35 32 v35_1) fun v36_1 =>
  C.calls 61 #[v30_1, (.int .i64 2)] w fun v31_1 w =>
  C.keepS S_13 w fun S_14 =>
  C.stepS S_14 (sBin .add 9 (.tmp 27) (.tmp 31) v23_1 v31_1) fun v32_1 =>
  C.calls 61 #[v36_1, (.int .i64 1)] w fun v37_1 w =>
  C.keepS S_14 w fun S_15 =>
  C.stepS S_15 (sBin .add 9 (.tmp 32) (.tmp 37) v32_1 v37_1) fun v38_1 =>
  C.draw w fun S_16 w =>
  C.stepS S_16 (sFieldAddr 41 v1_1 6) fun v40_1 =>
  C.stepS S_16 (sFieldAddr 37 v40_1 1) fun v41_1 =>
  C.stepS S_16 (sLoad 9 v41_1) fun v42_1 =>
  C.stepS S_16 (sFieldAddr 41 v1_1 6) fun v45_1 =>
  C.stepS S_16 (sFieldAddr 37 v45_1 2) fun v46_1 =>
  C.stepS S_16 (sLoad 9 v46_1) fun v47_1 =>
  C.stepS S_16 (sFieldAddr 41 v1_1 6) fun v50_1 =>
  C.stepS S_16 (sFieldAddr 37 v50_1 3) fun v51_1 =>
  C.stepS S_16 (sLoad 9 v51_1) fun v52_1 =>
  C.calls 73 #[v42_1] w fun v43_1 w =>
  C.keepS S_16 w fun S_17 =>
  C.stepS S_17 (sBin .add 9 (.tmp 39) (.tmp 43) v38_1 v43_1) fun v44_1 =>
  C.calls 73 #[v47_1] w fun v48_1 w =>
  C.keepS S_17 w fun S_18 =>
  C.stepS S_18 (sBin .add 9 (.tmp 44) (.tmp 48) v44_1 v48_1) fun v49_1 =>
  C.calls 73 #[v52_1] w fun v53_1 w =>
  C.keepS S_18 w fun S_19 =>
  C.stepS S_19 (sBin .add 9 (.tmp 49) (.tmp 53) v49_1 v53_1) fun v54_1 =>
  j_1 [v54_1] w)
  (j_1 [v23_1] w))
theorem flotillaref05_Bytes_eq (C : Comb) (a0 : Value) (w : World) (Q : Value → World → Prop) : flotillaref05_Bytes_x C a0 w Q = FunY Try.prog C 2 [5, 7, 19] Try.f59 [a0] w Q := by kernel_rfl
theorem flotillaref05_Bytes_sound (a0 : Value) {w : World} {Q : Value → World → Prop} (h : flotillaref05_Bytes_x (std Try.prog) a0 w Q) : CallsR Try.prog 59 #[a0] w Q :=
  calls_of_funY mixed Try.func59 (Eq.mp (flotillaref05_Bytes_eq _ a0 w Q) h)

def flotillaref02_Seal_x (C : Comb) (a0 : Value) (w : World) (Q : Value → World → Prop) : Prop :=
  C.calls 75 #[a0] w fun v5_1 w =>
  C.calls 74 #[v5_1] w fun v6_1 w =>
  C.step (sBin .add 9 (.tmp 3) (.tmp 6) a0 v6_1) w fun v7_1 w =>
  Q v7_1 w
theorem flotillaref02_Seal_eq (C : Comb) (a0 : Value) (w : World) (Q : Value → World → Prop) : flotillaref02_Seal_x C a0 w Q = FunY Try.prog C 2 [] Try.f60 [a0] w Q := by kernel_rfl
theorem flotillaref02_Seal_sound (a0 : Value) {w : World} {Q : Value → World → Prop} (h : flotillaref02_Seal_x (std Try.prog) a0 w Q) : CallsR Try.prog 60 #[a0] w Q :=
  calls_of_funY mixed Try.func60 (Eq.mp (flotillaref02_Seal_eq _ a0 w Q) h)

def flotillaref01_Num_k1 (C : Comb) (u5_1 : Value) (w : World) (Q : Value → World → Prop) : Prop :=
  Q u5_1 w
def flotillaref01_Num_x (C : Comb) (a0 : Value) (a1 : Value) (w : World) (Q : Value → World → Prop) : Prop :=
  C.loop [(.string ⟨#[]⟩), a0, (.int .i64 0)] w fun dv_1 vs_1 w again_1 =>
  C.step (sBin .lss 3 (.tmp 7) (.tmp 8) (vs_1.getD 2 undef) a1) w fun v9_1 w =>
  C.bool v9_1
  (C.step (sBin .rem 32 (.tmp 13) (.const (.int .u64 256)) (vs_1.getD 1 undef) (.int .u64 256)) w fun v14_1 w =>
  C.step (sConv 32 5 v14_1) w fun v15_1 w =>
  C.step (sBuildSlice 51 1 [(0, v15_1)]) w fun v16_1 w =>
  C.step (sConv 51 9 v16_1) w fun v17_1 w =>
  C.step (sBin .add 9 (.tmp 12) (.tmp 17) (vs_1.getD 0 undef) v17_1) w fun v18_1 w =>
  C.step (sBin .quo 32 (.tmp 19) (.const (.int .u64 256)) (vs_1.getD 1 undef) (.int .u64 256)) w fun v20_1 w =>
  C.step (sBin .add 3 (.tmp 10) (.const (.int .i64 1)) (vs_1.getD 2 undef) (.int .i64 1)) w fun v11_1 w =>
  again_1 [v18_1, v20_1, v11_1] w)
  (flotillaref01_Num_k1 C (vs_1.getD 0 undef) w Q)
theorem flotillaref01_Num_eq (C : Comb) (a0 : Value) (a1 : Value) (w : World) (Q : Value → World → Prop) : flotillaref01_Num_x C a0 a1 w Q = FunY Try.prog C 7 [] Try.f61 [a0, a1] w Q := by kernel_rfl
theorem flotillaref01_Num_sound (a0 : Value) (a1 : Value) {w : World} {Q : Value → World → Prop} (h : flotillaref01_Num_x (std Try.prog) a0 a1 w Q) : CallsR Try.prog 61 #[a0, a1] w Q :=
  calls_of_funY mixed Try.func61 (Eq.mp (flotillaref01_Num_eq _ a0 a1 w Q) h)

def sort_Search_k1 (C : Comb) (u5_1 : Value) (w : World) (Q : Value → World → Prop) : Prop :=
  Q u5_1 w
def sort_Search_x (C : Comb) (a0 : Value) (a1 : Value) (w : World) (Q : Value → World → Prop) : Prop :=
  C.loop [undef, (.int .i64 0), a0] w fun dv_1 vs_1 w again_1 =>
  C.step (sBin .lss 3 (.tmp 9) (.tmp 10) (vs_1.getD 1 undef) (vs_1.getD 2 undef)) w fun v11_1 w =>
  C.bool v11_1
  (C.step (sBin .add 3 (.tmp 12) (.tmp 13) (vs_1.getD 1 undef) (vs_1.getD 2 undef)) w fun v14_1 w =>
  C.step (sConv 3 132 v14_1) w fun v15_1 w =>
  C.step (sBin .shr 132 (.tmp 15) (.const (.int .u64 1)) v15_1 (.int .u64 1)) w fun v16_1 w =>
  C.step (sConv 132 3 v16_1) w fun v17_1 w =>
  C.step (sCallV a1 [v17_1]) w fun v20_1 w =>
  C.step (sUn .not v20_1) w fun v21_1 w =>
  C.bool v21_1
  (C.step (sBin .add 3 (.tmp 22) (.const (.int .i64 1)) v17_1 (.int .i64 1)) w fun v23_1 w =>
  again_1 [v17_1, v23_1, (vs_1.getD 2 undef)] w)
  (again_1 [v17_1, (vs_1.getD 1 undef), v17_1] w))
  (sort_Search_k1 C (vs_1.getD 1 undef) w Q)
theorem sort_Search_eq (C : Comb) (a0 : Value) (a1 : Value) (w : World) (Q : Value → World → Prop) : sort_Search_x C a0 a1 w Q = FunY Try.prog C 8 [] Try.f62 [a0, a1] w Q := by kernel_rfl
theorem sort_Search_sound (a0 : Value) (a1 : Value) {w : World} {Q : Value → World → Prop} (h : sort_Search_x (std Try.prog) a0 a1 w Q) : CallsR Try.prog 62 #[a0, a1] w Q :=
  calls_of_funY mixed Try.func62 (Eq.mp (sort_Search_eq _ a0 a1 w Q) h)

def wal_Log_Find_1_x (C : Comb) (a0 : Value) (a1 : Value) (a2 : Value) (w : World) (Q : Value → World → Prop) : Prop :=
  C.draw w fun S_1 w =>
  C.stepS S_1 (sLoad 28 a1) fun v5_1 =>
  C.stepS S_1 (sNil v5_1) fun v6_1 =>
  C.stepS S_1 (sFieldAddr 91 v6_1 2) fun v7_1 =>
  C.stepS S_1 (sLoad 87 v7_1) fun v8_1 =>
  C.stepS S_1 (sIndexAddr 87 v8_1 a0) fun v10_1 =>
  C.stepS S_1 (sFieldAddr 95 v10_1 0) fun v11_1 =>
  C.stepS S_1 (sFieldAddr 41 v11_1 1) fun v12_1 =>
  C.stepS S_1 (sLoad 34 v12_1) fun v13_1 =>
  C.stepS S_1 (sLoad 34 a2) fun v14_1 =>
  C.stepS S_1 (sBin .geq 34 (.tmp 13) (.tmp 14) v13_1 v14_1) fun v15_1 =>
  Q v15_1 w
theorem wal_Log_Find_1_eq (C : Comb) (a0 : Value) (a1 : Value) (a2 : Value) (w : World) (Q : Value → World → Prop) : wal_Log_Find_1_x C a0 a1 a2 w Q = FunY Try.prog C 4 [] Try.f63 [a0, a1, a2] w Q := by kernel_rfl
theorem wal_Log_Find_1_sound (a0 : Value) (a1 : Value) (a2 : Value) {w : World} {Q : Value → World → Prop} (h : wal_Log_Find_1_x (std Try.prog) a0 a1 a2 w Q) : CallsR Try.prog 63 #[a0, a1, a2] w Q :=
  calls_of_funY mixed Try.func63 (Eq.mp (wal_Log_Find_1_eq _ a0 a1 a2 w Q) h)

def wal_copied_x (C : Comb) (a0 : Value) (w : World) (Q : Value → World → Prop) : Prop :=
  C.step (sBox 41 a0) w fun v1_1 w =>
  C.step (sAlloc 41) w fun v2_1 w =>
  C.step (sBuildSlice 38 0 []) w fun v3_1 w =>
  C.step (sFieldAddr 41 v1_1 7) w fun v4_1 w =>
  C.step (sLoad 38 v4_1) w fun v5_1 w =>
  C.step (sBuiltin .append #[38, 38] 38 [false, false] [v3_1, v5_1]) w fun v6_1 w =>
  C.step (sFieldAddr 41 v1_1 7) w fun v7_1 w =>
  C.step (sStore 38 v7_1 v6_1) w fun vx_1 w =>
  C.step (sBuildSlice 39 0 []) w fun v8_1 w =>
  C.step (sFieldAddr 41 v1_1 8) w fun v9_1 w =>
  C.step (sLoad 39 v9_1) w fun v10_1 w =>
  C.step (sBuiltin .append #[39, 39] 39 [false, false] [v8_1, v10_1]) w fun v11_1 w =>
  C.step (sFieldAddr 41 v1_1 8) w fun v12_1 w =>
  C.step (sStore 39 v12_1 v11_1) w fun vx_2 w =>
  C.step (sLoad 41 v1_1) w fun v13_1 w =>
  C.step (sStore 41 v2_1 v13_1) w fun vx_3 w =>
  C.loadR 41 v2_1 w fun r_1 =>
  Q r_1 w
theorem wal_copied_eq (C : Comb) (a0 : Value) (w : World) (Q : Value → World → Prop) : wal_copied_x C a0 w Q = FunY Try.prog C 2 [] Try.f64 [a0] w Q := by kernel_rfl
theorem wal_copied_sound (a0 : Value) {w : World} {Q : Value → World → Prop} (h : wal_copied_x (std Try.prog) a0 w Q) : CallsR Try.prog 64 #[a0] w Q :=
  calls_of_funY mixed Try.func64 (Eq.mp (wal_copied_eq _ a0 w Q) h)

def wal_told_x (C : Comb) (a0 : Value) (w : World) (Q : Value → World → Prop) : Prop :=
  C.calls 24 #[a0, (.int .i64 0), (.int .i64 8)] w fun v10_1 w =>
  C.step (sExtract v10_1 0) w fun v11_1 w =>
  C.step (sExtract v10_1 1) w fun v12_1 w =>
  C.step (sBin .neq 24 (.tmp 13) (.const (.int .i64 0)) v12_1 (.int .i64 0)) w fun v14_1 w =>
  C.bool v14_1
  (Q (.int .i64 0) w)
  (C.calls 76 #[v11_1] w fun v17_1 w =>
  C.step (sExtract v17_1 0) w fun v18_1 w =>
  C.step (sExtract v17_1 1) w fun v19_1 w =>
  C.step (sBin .neq 24 (.tmp 20) (.const (.int .i64 0)) v19_1 (.int .i64 0)) w fun v21_1 w =>
  C.bool v21_1
  (Q (.int .i64 0) w)
  (C.calls 77 #[v18_1] w fun v23_1 w =>
  C.calls 78 #[v23_1] w fun v24_1 w =>
  C.step (sConv 104 3 v24_1) w fun v25_1 w =>
  C.calls 38 #[a0] w fun v28_1 w =>
  C.step (sBin .sub 3 (.tmp 28) (.const (.int .i64 64)) v28_1 (.int .i64 64)) w fun v29_1 w =>
  C.step (sBin .gtr 3 (.tmp 26) (.tmp 29) v25_1 v29_1) w fun v30_1 w =>
  C.bool v30_1
  (Q (.int .i64 0) w)
  (Q v25_1 w)))
theorem wal_told_eq (C : Comb) (a0 : Value) (w : World) (Q : Value → World → Prop) : wal_told_x C a0 w Q = FunY Try.prog C 8 [] Try.f65 [a0] w Q := by kernel_rfl
theorem wal_told_sound (a0 : Value) {w : World} {Q : Value → World → Prop} (h : wal_told_x (std Try.prog) a0 w Q) : CallsR Try.prog 65 #[a0] w Q :=
  calls_of_funY mixed Try.func65 (Eq.mp (wal_told_eq _ a0 w Q) h)

def rec_Unframe_x (C : Comb) (a0 : Value) (w : World) (Q : Value → World → Prop) : Prop :=
  C.step (sAlloc 41) w fun v2_1 w =>
  C.calls 77 #[a0] w fun v11_1 w =>
  C.calls 79 #[v11_1] w fun v13_1 w =>
  C.step (sConv 149 3 v13_1) w fun v14_1 w =>
  C.step (sBin .add 3 (.tmp 14) (.const (.int .i64 6)) v14_1 (.int .i64 6)) w fun v15_1 w =>
  C.calls 80 #[v11_1] w fun v17_1 w =>
  C.step (sBin .neq 24 (.tmp 17) (.const (.int .i64 0)) v17_1 (.int .i64 0)) w fun v18_1 w =>
  C.bool v18_1
  (C.step (sBuild 41 []) w fun v25_1 w =>
  C.step (sStore 41 v2_1 v25_1) w fun vx_1 w =>
  C.loadR 41 v2_1 w fun r_1 =>
  Q (.tuple #[r_1, (.int .i64 0), (.int .i64 4)]) w)
  (C.step (sBuiltin .len #[51] 3 [false] [a0]) w fun v21_1 w =>
  C.step (sBin .lss 3 (.tmp 21) (.tmp 22) v21_1 v15_1) w fun v23_1 w =>
  C.bool v23_1
  (C.step (sBuild 41 []) w fun v25_2 w =>
  C.step (sStore 41 v2_1 v25_2) w fun vx_2 w =>
  C.loadR 41 v2_1 w fun r_2 =>
  Q (.tuple #[r_2, (.int .i64 0), (.int .i64 4)]) w)
  (C.step (sSlice 51 a0 none (some v15_1) none) w fun v29_1 w =>
  C.calls 76 #[v29_1] w fun v30_1 w =>
  C.step (sExtract v30_1 0) w fun v31_1 w =>
  C.step (sExtract v30_1 1) w fun v32_1 w =>
  C.step (sBin .neq 24 (.tmp 33) (.const (.int .i64 0)) v32_1 (.int .i64 0)) w fun v34_1 w =>
  C.bool v34_1
  (C.step (sBuild 41 []) w fun v35_1 w =>
  C.step (sStore 41 v2_1 v35_1) w fun vx_3 w =>
  C.loadR 41 v2_1 w fun r_3 =>
  Q (.tuple #[r_3, (.int .i64 0), v32_1]) w)
  (C.step (sSlice 51 v31_1 (some (.int .i64 2)) none none) w fun v39_1 w =>
  C.calls 81 #[v39_1] w fun v40_1 w =>
  C.step (sExtract v40_1 0) w fun v41_1 w =>
  C.step (sExtract v40_1 1) w fun v42_1 w =>
  C.step (sAlloc 41) w fun v9_1 w =>
  C.step (sStore 41 v9_1 v41_1) w fun vx_4 w =>
  C.step (sBin .neq 24 (.tmp 43) (.const (.int .i64 0)) v42_1 (.int .i64 0)) w fun v44_1 w =>
  C.bool v44_1
  (C.step (sBuild 41 []) w fun v45_1 w =>
  C.step (sStore 41 v2_1 v45_1) w fun vx_5 w =>
  C.loadR 41 v2_1 w fun r_4 =>
  Q (.tuple #[r_4, (.int .i64 0), v42_1]) w)
  (C.step (sLoad 41 v9_1) w fun v47_1 w =>
  C.step (sStore 41 v2_1 v47_1) w fun vx_6 w =>
  C.loadR 41 v2_1 w fun r_5 =>
  Q (.tuple #[r_5, v15_1, (.int .i64 0)]) w))))
theorem rec_Unframe_eq (C : Comb) (a0 : Value) (w : World) (Q : Value → World → Prop) : rec_Unframe_x C a0 w Q = FunY Try.prog C 10 [] Try.f66 [a0] w Q := by kernel_rfl
theorem rec_Unframe_sound (a0 : Value) {w : World} {Q : Value → World → Prop} (h : rec_Unframe_x (std Try.prog) a0 w Q) : CallsR Try.prog 66 #[a0] w Q :=
  calls_of_funY mixed Try.func66 (Eq.mp (rec_Unframe_eq _ a0 w Q) h)

def rec_Frame_x (C : Comb) (a0 : Value) (w : World) (Q : Value → World → Prop) : Prop :=
  C.step (sBox 41 a0) w fun v1_1 w =>
  C.step (sLoad 41 v1_1) w fun v8_1 w =>
  C.calls 82 #[v8_1] w fun v9_1 w =>
  C.step (sExtract v9_1 0) w fun v10_1 w =>
  C.step (sExtract v9_1 1) w fun v11_1 w =>
  C.step (sBin .neq 24 (.tmp 12) (.const (.int .i64 0)) v11_1 (.int .i64 0)) w fun v13_1 w =>
  C.bool v13_1
  (Q (.tuple #[(.slice none 0 0), v11_1]) w)
  (C.calls 42 #[] w fun v15_1 w =>
  C.step (sBuiltin .len #[51] 3 [false] [v10_1]) w fun v18_1 w =>
  C.step (sConv 3 149 v18_1) w fun v19_1 w =>
  C.calls 83 #[v15_1, v19_1] w fun v20_1 w =>
  C.calls 46 #[v15_1] w fun v22_1 w =>
  C.step (sBuiltin .append #[51, 51] 51 [false, false] [v22_1, v10_1]) w fun v24_1 w =>
  C.calls 45 #[v24_1] w fun v25_1 w =>
  Q (.tuple #[v25_1, (.int .i64 0)]) w)
theorem rec_Frame_eq (C : Comb) (a0 : Value) (w : World) (Q : Value → World → Prop) : rec_Frame_x C a0 w Q = FunY Try.prog C 7 [] Try.f67 [a0] w Q := by kernel_rfl
theorem rec_Frame_sound (a0 : Value) {w : World} {Q : Value → World → Prop} (h : rec_Frame_x (std Try.prog) a0 w Q) : CallsR Try.prog 67 #[a0] w Q :=
  calls_of_funY mixed Try.func67 (Eq.mp (rec_Frame_eq _ a0 w Q) h)

def enc_Writer_num_x (C : Comb) (a0 : Value) (a1 : Value) (a2 : Value) (w : World) (Q : Value → World → Prop) : Prop :=
  C.step (sBin .eql 101 (.tmp 7) (.const (.pointer none)) a0 (.pointer none)) w fun v8_1 w =>
  C.bool v8_1
  (Q (.tuple #[]) w)
  (C.loop [undef, (.int .i64 0)] w fun dv_1 vs_1 w again_1 =>
  C.step (sBin .lss 3 (.tmp 10) (.tmp 9) (vs_1.getD 1 undef) a2) w fun v11_1 w =>
  C.bool v11_1
  (C.draw w fun S_1 w =>
  C.stepS S_1 (sNil a0) fun v15_1 =>
  C.stepS S_1 (sFieldAddr 129 v15_1 0) fun v16_1 =>
  C.stepS S_1 (sFieldAddr 127 v16_1 0) fun v17_1 =>
  C.stepS S_1 (sLoad 51 v17_1) fun v18_1 =>
  C.stepS S_1 (sBin .mul 3 (.const (.int .i64 8)) (.tmp 20) (.int .i64 8) (vs_1.getD 1 undef)) fun v21_1 =>
  C.stepS S_1 (sBin .shr 32 (.tmp 19) (.tmp 21) a1 v21_1) fun v22_1 =>
  C.stepS S_1 (sConv 32 5 v22_1) fun v23_1 =>
  C.step (sBuildSlice 51 1 [(0, v23_1)]) w fun v24_1 w =>
  C.keepS S_1 w fun S_2 =>
  C.step (sBuiltin .append #[51, 51] 51 [false, false] [v18_1, v24_1]) w fun v25_1 w =>
  C.keepS S_2 w fun S_3 =>
  C.stepS S_3 (sNil a0) fun v26_1 =>
  C.stepS S_3 (sFieldAddr 129 v26_1 0) fun v27_1 =>
  C.stepS S_3 (sFieldAddr 127 v27_1 0) fun v28_1 =>
  C.step (sStore 51 v28_1 v25_1) w fun vx_1 w =>
  C.keepT w fun S_4 =>
  C.step (sBin .add 3 (.tmp 10) (.const (.int .i64 1)) (vs_1.getD 1 undef) (.int .i64 1)) w fun v29_1 w =>
  again_1 [(vs_1.getD 1 undef), v29_1] w)
  (Q (.tuple #[]) w))
theorem enc_Writer_num_eq (C : Comb) (a0 : Value) (a1 : Value) (a2 : Value) (w : World) (Q : Value → World → Prop) : enc_Writer_num_x C a0 a1 a2 w Q = FunY Try.prog C 7 [] Try.f68 [a0, a1, a2] w Q := by kernel_rfl
theorem enc_Writer_num_sound (a0 : Value) (a1 : Value) (a2 : Value) {w : World} {Q : Value → World → Prop} (h : enc_Writer_num_x (std Try.prog) a0 a1 a2 w Q) : CallsR Try.prog 68 #[a0, a1, a2] w Q :=
  calls_of_funY mixed Try.func68 (Eq.mp (enc_Writer_num_eq _ a0 a1 a2 w Q) h)

def crc_Sum_x (C : Comb) (a0 : Value) (w : World) (Q : Value → World → Prop) : Prop :=
  C.calls 84 #[(.int .u32 0), a0] w fun v4_1 w =>
  Q v4_1 w
theorem crc_Sum_eq (C : Comb) (a0 : Value) (w : World) (Q : Value → World → Prop) : crc_Sum_x C a0 w Q = FunY Try.prog C 2 [] Try.f69 [a0] w Q := by kernel_rfl
theorem crc_Sum_sound (a0 : Value) {w : World} {Q : Value → World → Prop} (h : crc_Sum_x (std Try.prog) a0 w Q) : CallsR Try.prog 69 #[a0] w Q :=
  calls_of_funY mixed Try.func69 (Eq.mp (crc_Sum_eq _ a0 w Q) h)

def flotillaref02_Open_x (C : Comb) (a0 : Value) (w : World) (Q : Value → World → Prop) : Prop :=
  C.step (sBuiltin .len #[9] 3 [false] [a0]) w fun v6_1 w =>
  C.step (sBin .lss 3 (.tmp 6) (.const (.int .i64 4)) v6_1 (.int .i64 4)) w fun v7_1 w =>
  C.bool v7_1
  (Q (.tuple #[(.string ⟨#[]⟩), (.int .i64 4)]) w)
  (C.step (sBuiltin .len #[9] 3 [false] [a0]) w fun v9_1 w =>
  C.step (sBin .sub 3 (.tmp 9) (.const (.int .i64 4)) v9_1 (.int .i64 4)) w fun v10_1 w =>
  C.draw w fun S_1 w =>
  C.stepS S_1 (sSlice 9 a0 (some v10_1) none none) fun v13_1 =>
  C.stepS S_1 (sSlice 9 a0 none (some v10_1) none) fun v16_1 =>
  C.calls 75 #[v16_1] w fun v17_1 w =>
  C.keepS S_1 w fun S_2 =>
  C.calls 74 #[v17_1] w fun v18_1 w =>
  C.keepS S_2 w fun S_3 =>
  C.stepS S_3 (sBin .neq 9 (.tmp 13) (.tmp 18) v13_1 v18_1) fun v19_1 =>
  C.bool v19_1
  (Q (.tuple #[(.string ⟨#[]⟩), (.int .i64 6)]) w)
  (C.step (sSlice 9 a0 none (some v10_1) none) w fun v22_1 w =>
  Q (.tuple #[v22_1, (.int .i64 0)]) w))
theorem flotillaref02_Open_eq (C : Comb) (a0 : Value) (w : World) (Q : Value → World → Prop) : flotillaref02_Open_x C a0 w Q = FunY Try.prog C 5 [] Try.f71 [a0] w Q := by kernel_rfl
theorem flotillaref02_Open_sound (a0 : Value) {w : World} {Q : Value → World → Prop} (h : flotillaref02_Open_x (std Try.prog) a0 w Q) : CallsR Try.prog 71 #[a0] w Q :=
  calls_of_funY mixed Try.func71 (Eq.mp (flotillaref02_Open_eq _ a0 w Q) h)

def flotillaref05_Decode_j1 (C : Comb) (v2_1 : Value) (v4_1 : Value) (v5_1 : Value) (dv_3 : Nat → Value) (vs_3 : List Value) (w : World) (Q : Value → World → Prop) : Prop :=
  C.step (sLoad 155 v5_1) w fun v68_1 w =>
  C.calls 88 #[v68_1] w fun v69_1 w =>
  C.step (sBin .neq 24 (.tmp 69) (.const (.int .i64 0)) v69_1 (.int .i64 0)) w fun v70_1 w =>
  C.bool v70_1
  (C.step (sBuild 41 []) w fun v76_1 w =>
  C.step (sStore 41 v2_1 v76_1) w fun vx_11 w =>
  C.loadR 41 v2_1 w fun r_1 =>
  Q (.tuple #[r_1, (.int .i64 5)]) w)
  (C.step (sLoad 41 v4_1) w fun v72_1 w =>
  C.calls 27 #[v72_1] w fun v73_1 w =>
  C.step (sUn .not v73_1) w fun v74_1 w =>
  C.bool v74_1
  (C.step (sBuild 41 []) w fun v76_2 w =>
  C.step (sStore 41 v2_1 v76_2) w fun vx_12 w =>
  C.loadR 41 v2_1 w fun r_2 =>
  Q (.tuple #[r_2, (.int .i64 5)]) w)
  (C.step (sLoad 41 v4_1) w fun v77_1 w =>
  C.step (sStore 41 v2_1 v77_1) w fun vx_13 w =>
  C.loadR 41 v2_1 w fun r_3 =>
  Q (.tuple #[r_3, (.int .i64 0)]) w))
def flotillaref05_Decode_j2 (C : Comb) (v2_1 : Value) (v4_1 : Value) (v5_1 : Value) (dv_2 : Nat → Value) (vs_2 : List Value) (w : World) (Q : Value → World → Prop) : Prop :=
  C.join (fun dv_3 vs_3 w => flotillaref05_Decode_j1 C v2_1 v4_1 v5_1 dv_3 vs_3 w Q) (fun j_3 =>
  C.step (sFieldAddr 41 v4_1 0) w fun v59_1 w =>
  C.step (sLoad 33 v59_1) w fun v60_1 w =>
  C.step (sBin .eql 33 (.tmp 60) (.const (.int .i64 8)) v60_1 (.int .i64 8)) w fun v61_1 w =>
  C.bool v61_1
  (C.step (sLoad 155 v5_1) w fun v63_1 w =>
  C.step (sLoad 41 v4_1) w fun v64_1 w =>
  C.calls 87 #[v63_1, v64_1] w fun v65_1 w =>
  C.step (sExtract v65_1 0) w fun v66_1 w =>
  C.step (sExtract v65_1 1) w fun v67_1 w =>
  C.step (sStore 155 v5_1 v66_1) w fun vx_14 w =>
  C.step (sStore 41 v4_1 v67_1) w fun vx_15 w =>
  j_3 [] w)
  (j_3 [] w))
def flotillaref05_Decode_j3 (C : Comb) (v2_1 : Value) (v4_1 : Value) (v5_1 : Value) (dv_1 : Nat → Value) (vs_1 : List Value) (w : World) (Q : Value → World → Prop) : Prop :=
  C.join (fun dv_2 vs_2 w => flotillaref05_Decode_j2 C v2_1 v4_1 v5_1 dv_2 vs_2 w Q) (fun j_2 =>
  C.step (sFieldAddr 41 v4_1 0) w fun v49_1 w =>
  C.step (sLoad 33 v49_1) w fun v50_1 w =>
  C.step (sBin .eql 33 (.tmp 50) (.const (.int .i64 2)) v50_1 (.int .i64 2)) w fun v51_1 w =>
  C.bool v51_1
  (C.step (sLoad 155 v5_1) w fun v53_1 w =>
  C.calls 85 #[v53_1, (.int .i64 8)] w fun v54_1 w =>
  C.step (sExtract v54_1 0) w fun v55_1 w =>
  C.step (sExtract v54_1 1) w fun v56_1 w =>
  C.step (sStore 155 v5_1 v55_1) w fun vx_16 w =>
  C.step (sFieldAddr 41 v4_1 4) w fun v58_1 w =>
  C.step (sStore 34 v58_1 v56_1) w fun vx_17 w =>
  j_2 [] w)
  (j_2 [] w))
def flotillaref05_Decode_x (C : Comb) (a0 : Value) (w : World) (Q : Value → World → Prop) : Prop :=
  C.step (sAlloc 41) w fun v2_1 w =>
  C.step (sBuild 41 []) w fun v7_1 w =>
  C.step (sAlloc 41) w fun v4_1 w =>
  C.step (sStore 41 v4_1 v7_1) w fun vx_1 w =>
  C.step (sBuild 155 [(0, a0)]) w fun v9_1 w =>
  C.step (sAlloc 155) w fun v5_1 w =>
  C.step (sStore 155 v5_1 v9_1) w fun vx_2 w =>
  C.step (sLoad 155 v5_1) w fun v11_1 w =>
  C.calls 85 #[v11_1, (.int .i64 1)] w fun v12_1 w =>
  C.step (sExtract v12_1 0) w fun v13_1 w =>
  C.step (sExtract v12_1 1) w fun v14_1 w =>
  C.step (sStore 155 v5_1 v13_1) w fun vx_3 w =>
  C.step (sConv 32 33 v14_1) w fun v16_1 w =>
  C.step (sFieldAddr 41 v4_1 0) w fun v17_1 w =>
  C.step (sStore 33 v17_1 v16_1) w fun vx_4 w =>
  C.step (sLoad 155 v5_1) w fun v19_1 w =>
  C.calls 85 #[v19_1, (.int .i64 8)] w fun v20_1 w =>
  C.step (sExtract v20_1 0) w fun v21_1 w =>
  C.step (sExtract v20_1 1) w fun v22_1 w =>
  C.step (sStore 155 v5_1 v21_1) w fun vx_5 w =>
  C.step (sFieldAddr 41 v4_1 1) w fun v24_1 w =>
  C.step (sStore 34 v24_1 v22_1) w fun vx_6 w =>
  C.step (sLoad 155 v5_1) w fun v26_1 w =>
  C.calls 85 #[v26_1, (.int .i64 4)] w fun v27_1 w =>
  C.step (sExtract v27_1 0) w fun v28_1 w =>
  C.step (sExtract v27_1 1) w fun v29_1 w =>
  C.step (sStore 155 v5_1 v28_1) w fun vx_7 w =>
  C.step (sConv 32 3 v29_1) w fun v31_1 w =>
  C.step (sFieldAddr 41 v4_1 2) w fun v32_1 w =>
  C.step (sStore 3 v32_1 v31_1) w fun vx_8 w =>
  C.step (sLoad 155 v5_1) w fun v34_1 w =>
  C.calls 85 #[v34_1, (.int .i64 8)] w fun v35_1 w =>
  C.step (sExtract v35_1 0) w fun v36_1 w =>
  C.step (sExtract v35_1 1) w fun v37_1 w =>
  C.step (sStore 155 v5_1 v36_1) w fun vx_9 w =>
  C.step (sFieldAddr 41 v4_1 3) w fun v39_1 w =>
  C.step (sStore 34 v39_1 v37_1) w fun vx_10 w =>
  C.join (fun dv_1 vs_1 w => flotillaref05_Decode_j3 C v2_1 v4_1 v5_1 dv_1 vs_1 w Q) (fun j_1 =>
  C.step (sFieldAddr 41 v4_1 0) w fun v40_1 w =>
  C.step (sLoad 33 v40_1) w fun v41_1 w =>
  C.calls 56 #[v41_1] w fun v42_1 w =>
  C.bool v42_1
  (C.step (sLoad 155 v5_1) w fun v44_1 w =>
  C.step (sLoad 41 v4_1) w fun v45_1 w =>
  C.calls 86 #[v44_1, v45_1] w fun v46_1 w =>
  C.step (sExtract v46_1 0) w fun v47_1 w =>
  C.step (sExtract v46_1 1) w fun v48_1 w =>
  C.step (sStore 155 v5_1 v47_1) w fun vx_18 w =>
  C.step (sStore 41 v4_1 v48_1) w fun vx_19 w =>
  j_1 [] w)
  (j_1 [] w))
theorem flotillaref05_Decode_eq (C : Comb) (a0 : Value) (w : World) (Q : Value → World → Prop) : flotillaref05_Decode_x C a0 w Q = FunY Try.prog C 2 [14, 17, 19] Try.f72 [a0] w Q := by kernel_rfl
theorem flotillaref05_Decode_sound (a0 : Value) {w : World} {Q : Value → World → Prop} (h : flotillaref05_Decode_x (std Try.prog) a0 w Q) : CallsR Try.prog 72 #[a0] w Q :=
  calls_of_funY mixed Try.func72 (Eq.mp (flotillaref05_Decode_eq _ a0 w Q) h)

def flotillaref01_Text_k1 (C : Comb) (u0_1 : Value) (w : World) (Q : Value → World → Prop) : Prop :=
  C.step (sBuiltin .len #[9] 3 [false] [u0_1]) w fun v9_1 w =>
  C.step (sConv 3 32 v9_1) w fun v10_1 w =>
  C.calls 61 #[v10_1, (.int .i64 2)] w fun v11_1 w =>
  C.step (sBin .add 9 (.tmp 11) (.tmp 12) v11_1 u0_1) w fun v13_1 w =>
  Q v13_1 w
def flotillaref01_Text_x (C : Comb) (a0 : Value) (w : World) (Q : Value → World → Prop) : Prop :=
  C.step (sBuiltin .len #[9] 3 [false] [a0]) w fun v4_1 w =>
  C.step (sBin .gtr 3 (.tmp 4) (.const (.int .i64 65535)) v4_1 (.int .i64 65535)) w fun v5_1 w =>
  C.bool v5_1
  (C.step (sSlice 9 a0 none (some (.int .i64 65535)) none) w fun v7_1 w =>
  flotillaref01_Text_k1 C v7_1 w Q)
  (flotillaref01_Text_k1 C a0 w Q)
theorem flotillaref01_Text_eq (C : Comb) (a0 : Value) (w : World) (Q : Value → World → Prop) : flotillaref01_Text_x C a0 w Q = FunY Try.prog C 2 [] Try.f73 [a0] w Q := by kernel_rfl
theorem flotillaref01_Text_sound (a0 : Value) {w : World} {Q : Value → World → Prop} (h : flotillaref01_Text_x (std Try.prog) a0 w Q) : CallsR Try.prog 73 #[a0] w Q :=
  calls_of_funY mixed Try.func73 (Eq.mp (flotillaref01_Text_eq _ a0 w Q) h)

def flotillaref02_Four_x (C : Comb) (a0 : Value) (w : World) (Q : Value → World → Prop) : Prop :=
  C.step (sBin .rem 104 (.tmp 3) (.const (.int .u32 256)) a0 (.int .u32 256)) w fun v4_1 w =>
  C.step (sConv 104 5 v4_1) w fun v5_1 w =>
  C.step (sBin .quo 104 (.tmp 6) (.const (.int .u32 256)) a0 (.int .u32 256)) w fun v7_1 w =>
  C.step (sBin .rem 104 (.tmp 7) (.const (.int .u32 256)) v7_1 (.int .u32 256)) w fun v8_1 w =>
  C.step (sConv 104 5 v8_1) w fun v9_1 w =>
  C.step (sBin .quo 104 (.tmp 10) (.const (.int .u32 65536)) a0 (.int .u32 65536)) w fun v11_1 w =>
  C.step (sBin .rem 104 (.tmp 11) (.const (.int .u32 256)) v11_1 (.int .u32 256)) w fun v12_1 w =>
  C.step (sConv 104 5 v12_1) w fun v13_1 w =>
  C.step (sBin .quo 104 (.tmp 14) (.const (.int .u32 16777216)) a0 (.int .u32 16777216)) w fun v15_1 w =>
  C.step (sConv 104 5 v15_1) w fun v16_1 w =>
  C.step (sBuildSlice 51 4 [(0, v5_1), (1, v9_1), (2, v13_1), (3, v16_1)]) w fun v17_1 w =>
  C.step (sConv 51 9 v17_1) w fun v18_1 w =>
  Q v18_1 w
theorem flotillaref02_Four_eq (C : Comb) (a0 : Value) (w : World) (Q : Value → World → Prop) : flotillaref02_Four_x C a0 w Q = FunY Try.prog C 2 [] Try.f74 [a0] w Q := by kernel_rfl
theorem flotillaref02_Four_sound (a0 : Value) {w : World} {Q : Value → World → Prop} (h : flotillaref02_Four_x (std Try.prog) a0 w Q) : CallsR Try.prog 74 #[a0] w Q :=
  calls_of_funY mixed Try.func74 (Eq.mp (flotillaref02_Four_eq _ a0 w Q) h)

def flotillaref02_Sum_x (C : Comb) (a0 : Value) (w : World) (Q : Value → World → Prop) : Prop :=
  C.calls 89 #[(.int .u32 0), a0] w fun v4_1 w =>
  Q v4_1 w
theorem flotillaref02_Sum_eq (C : Comb) (a0 : Value) (w : World) (Q : Value → World → Prop) : flotillaref02_Sum_x C a0 w Q = FunY Try.prog C 2 [] Try.f75 [a0] w Q := by kernel_rfl
theorem flotillaref02_Sum_sound (a0 : Value) {w : World} {Q : Value → World → Prop} (h : flotillaref02_Sum_x (std Try.prog) a0 w Q) : CallsR Try.prog 75 #[a0] w Q :=
  calls_of_funY mixed Try.func75 (Eq.mp (flotillaref02_Sum_eq _ a0 w Q) h)

def crc_Open_k1 (C : Comb) (a0 : Value) (v12_1 : Value) (w : World) (Q : Value → World → Prop) : Prop :=
  C.step (sBuildSlice 51 0 []) w fun v33_1 w =>
  C.step (sSlice 51 a0 none (some v12_1) none) w fun v36_1 w =>
  C.step (sBuiltin .append #[51, 51] 51 [false, false] [v33_1, v36_1]) w fun v37_1 w =>
  Q (.tuple #[v37_1, (.int .i64 0)]) w
def crc_Open_x (C : Comb) (a0 : Value) (w : World) (Q : Value → World → Prop) : Prop :=
  C.step (sBuiltin .len #[51] 3 [false] [a0]) w fun v8_1 w =>
  C.step (sBin .lss 3 (.tmp 8) (.const (.int .i64 4)) v8_1 (.int .i64 4)) w fun v9_1 w =>
  C.bool v9_1
  (Q (.tuple #[(.slice none 0 0), (.int .i64 4)]) w)
  (C.step (sBuiltin .len #[51] 3 [false] [a0]) w fun v11_1 w =>
  C.step (sBin .sub 3 (.tmp 11) (.const (.int .i64 4)) v11_1 (.int .i64 4)) w fun v12_1 w =>
  C.step (sSlice 51 a0 none (some v12_1) none) w fun v15_1 w =>
  C.calls 69 #[v15_1] w fun v16_1 w =>
  C.loop [undef, (.slice none 0 0), (.int .i64 0), (.int .i64 0)] w fun dv_1 vs_1 w again_1 =>
  C.step (sBin .lss 3 (.tmp 17) (.const (.int .i64 4)) (vs_1.getD 3 undef) (.int .i64 4)) w fun v18_1 w =>
  C.bool v18_1
  (C.draw w fun S_1 w =>
  C.stepS S_1 (sBin .add 3 (.tmp 21) (.tmp 22) v12_1 (vs_1.getD 3 undef)) fun v23_1 =>
  C.stepS S_1 (sIndexAddr 51 a0 v23_1) fun v24_1 =>
  C.stepS S_1 (sLoad 5 v24_1) fun v25_1 =>
  C.stepS S_1 (sBin .mul 3 (.const (.int .i64 8)) (.tmp 27) (.int .i64 8) (vs_1.getD 3 undef)) fun v28_1 =>
  C.stepS S_1 (sBin .shr 104 (.tmp 26) (.tmp 28) v16_1 v28_1) fun v29_1 =>
  C.stepS S_1 (sConv 104 5 v29_1) fun v30_1 =>
  C.stepS S_1 (sBin .neq 5 (.tmp 25) (.tmp 30) v25_1 v30_1) fun v31_1 =>
  C.bool v31_1
  (Q (.tuple #[(.slice none 0 0), (.int .i64 6)]) w)
  (C.step (sBin .add 3 (.tmp 17) (.const (.int .i64 1)) (vs_1.getD 3 undef) (.int .i64 1)) w fun v32_1 w =>
  again_1 [(vs_1.getD 3 undef), (vs_1.getD 1 undef), (vs_1.getD 2 undef), v32_1] w))
  (crc_Open_k1 C a0 v12_1 w Q))
theorem crc_Open_eq (C : Comb) (a0 : Value) (w : World) (Q : Value → World → Prop) : crc_Open_x C a0 w Q = FunY Try.prog C 7 [] Try.f76 [a0] w Q := by kernel_rfl
theorem crc_Open_sound (a0 : Value) {w : World} {Q : Value → World → Prop} (h : crc_Open_x (std Try.prog) a0 w Q) : CallsR Try.prog 76 #[a0] w Q :=
  calls_of_funY mixed Try.func76 (Eq.mp (crc_Open_eq _ a0 w Q) h)

def enc_Read_x (C : Comb) (a0 : Value) (w : World) (Q : Value → World → Prop) : Prop :=
  C.step (sBuildSlice 51 0 []) w fun v3_1 w =>
  C.step (sBuiltin .append #[51, 51] 51 [false, false] [v3_1, a0]) w fun v5_1 w =>
  C.step (sBuild 127 [(0, v5_1)]) w fun v6_1 w =>
  C.step (sBuild 163 [(0, v6_1)]) w fun v7_1 w =>
  C.step (sBox 163 v7_1) w fun v8_1 w =>
  Q v8_1 w
theorem enc_Read_eq (C : Comb) (a0 : Value) (w : World) (Q : Value → World → Prop) : enc_Read_x C a0 w Q = FunY Try.prog C 2 [] Try.f77 [a0] w Q := by kernel_rfl
theorem enc_Read_sound (a0 : Value) {w : World} {Q : Value → World → Prop} (h : enc_Read_x (std Try.prog) a0 w Q) : CallsR Try.prog 77 #[a0] w Q :=
  calls_of_funY mixed Try.func77 (Eq.mp (enc_Read_eq _ a0 w Q) h)

def enc_Reader_Four_x (C : Comb) (a0 : Value) (w : World) (Q : Value → World → Prop) : Prop :=
  C.calls 90 #[a0, (.int .i64 4)] w fun v4_1 w =>
  C.step (sConv 32 104 v4_1) w fun v5_1 w =>
  Q v5_1 w
theorem enc_Reader_Four_eq (C : Comb) (a0 : Value) (w : World) (Q : Value → World → Prop) : enc_Reader_Four_x C a0 w Q = FunY Try.prog C 2 [] Try.f78 [a0] w Q := by kernel_rfl
theorem enc_Reader_Four_sound (a0 : Value) {w : World} {Q : Value → World → Prop} (h : enc_Reader_Four_x (std Try.prog) a0 w Q) : CallsR Try.prog 78 #[a0] w Q :=
  calls_of_funY mixed Try.func78 (Eq.mp (enc_Reader_Four_eq _ a0 w Q) h)

def enc_Reader_Two_x (C : Comb) (a0 : Value) (w : World) (Q : Value → World → Prop) : Prop :=
  C.calls 90 #[a0, (.int .i64 2)] w fun v4_1 w =>
  C.step (sConv 32 149 v4_1) w fun v5_1 w =>
  Q v5_1 w
theorem enc_Reader_Two_eq (C : Comb) (a0 : Value) (w : World) (Q : Value → World → Prop) : enc_Reader_Two_x C a0 w Q = FunY Try.prog C 2 [] Try.f79 [a0] w Q := by kernel_rfl
theorem enc_Reader_Two_sound (a0 : Value) {w : World} {Q : Value → World → Prop} (h : enc_Reader_Two_x (std Try.prog) a0 w Q) : CallsR Try.prog 79 #[a0] w Q :=
  calls_of_funY mixed Try.func79 (Eq.mp (enc_Reader_Two_eq _ a0 w Q) h)

def enc_Reader_Err_x (C : Comb) (a0 : Value) (w : World) (Q : Value → World → Prop) : Prop :=
  C.step (sBin .eql 146 (.tmp 3) (.const (.pointer none)) a0 (.pointer none)) w fun v4_1 w =>
  C.bool v4_1
  (Q (.int .i64 1) w)
  (C.step (sNil a0) w fun v6_1 w =>
  C.step (sFieldAddr 163 v6_1 1) w fun v7_1 w =>
  C.step (sLoad 24 v7_1) w fun v8_1 w =>
  Q v8_1 w)
theorem enc_Reader_Err_eq (C : Comb) (a0 : Value) (w : World) (Q : Value → World → Prop) : enc_Reader_Err_x C a0 w Q = FunY Try.prog C 2 [] Try.f80 [a0] w Q := by kernel_rfl
theorem enc_Reader_Err_sound (a0 : Value) {w : World} {Q : Value → World → Prop} (h : enc_Reader_Err_x (std Try.prog) a0 w Q) : CallsR Try.prog 80 #[a0] w Q :=
  calls_of_funY mixed Try.func80 (Eq.mp (enc_Reader_Err_eq _ a0 w Q) h)

def rec_Encode_j1 (C : Comb) (v12_1 : Value) (dv_3 : Nat → Value) (vs_3 : List Value) (w : World) (Q : Value → World → Prop) : Prop :=
  C.calls 46 #[v12_1] w fun v122_1 w =>
  Q (.tuple #[v122_1, (.int .i64 0)]) w
def rec_Encode_k2 (C : Comb) (v1_1 : Value) (v12_1 : Value) (j_3 : List Value → World → Prop) (w : World) (Q : Value → World → Prop) : Prop :=
  C.step (sFieldAddr 41 v1_1 8) w fun v99_1 w =>
  C.step (sLoad 39 v99_1) w fun v100_1 w =>
  C.step (sBuiltin .len #[39] 3 [false] [v100_1]) w fun v101_1 w =>
  C.step (sConv 3 5 v101_1) w fun v102_1 w =>
  C.calls 94 #[v12_1, v102_1] w fun v103_1 w =>
  C.step (sFieldAddr 41 v1_1 8) w fun v104_1 w =>
  C.step (sLoad 39 v104_1) w fun v105_1 w =>
  C.step (sBuiltin .len #[39] 3 [false] [v105_1]) w fun v106_1 w =>
  C.loop [(.int .i64 0)] w fun dv_4 vs_4 w again_1 =>
  C.step (sBin .lss 3 (.tmp 107) (.tmp 106) (vs_4.getD 0 undef) v106_1) w fun v108_1 w =>
  C.bool v108_1
  (C.step (sIndexAddr 39 v105_1 (vs_4.getD 0 undef)) w fun v109_1 w =>
  C.step (sLoad 138 v109_1) w fun v110_1 w =>
  C.step (sAlloc 138) w fun v8_1 w =>
  C.step (sStore 138 v8_1 v110_1) w fun vx_1 w =>
  C.step (sFieldAddr 138 v8_1 0) w fun v112_1 w =>
  C.step (sLoad 3 v112_1) w fun v113_1 w =>
  C.step (sConv 3 149 v113_1) w fun v114_1 w =>
  C.calls 83 #[v12_1, v114_1] w fun v115_1 w =>
  C.step (sFieldAddr 138 v8_1 1) w fun v117_1 w =>
  C.step (sLoad 34 v117_1) w fun v118_1 w =>
  C.calls 95 #[v12_1, v118_1] w fun v119_1 w =>
  C.step (sBin .add 3 (.tmp 107) (.const (.int .i64 1)) (vs_4.getD 0 undef) (.int .i64 1)) w fun v120_1 w =>
  again_1 [v120_1] w)
  (j_3 [] w)
def rec_Encode_j3 (C : Comb) (v1_1 : Value) (v12_1 : Value) (dv_2 : Nat → Value) (vs_2 : List Value) (w : World) (Q : Value → World → Prop) : Prop :=
  C.join (fun dv_3 vs_3 w => rec_Encode_j1 C v12_1 dv_3 vs_3 w Q) (fun j_3 =>
  C.step (sFieldAddr 41 v1_1 0) w fun v67_1 w =>
  C.step (sLoad 33 v67_1) w fun v68_1 w =>
  C.step (sBin .eql 33 (.tmp 68) (.const (.int .i64 8)) v68_1 (.int .i64 8)) w fun v69_1 w =>
  C.bool v69_1
  (C.step (sFieldAddr 41 v1_1 7) w fun v71_1 w =>
  C.step (sLoad 38 v71_1) w fun v72_1 w =>
  C.step (sBuiltin .len #[38] 3 [false] [v72_1]) w fun v73_1 w =>
  C.step (sConv 3 5 v73_1) w fun v74_1 w =>
  C.calls 94 #[v12_1, v74_1] w fun v75_1 w =>
  C.step (sFieldAddr 41 v1_1 7) w fun v76_1 w =>
  C.step (sLoad 38 v76_1) w fun v77_1 w =>
  C.step (sBuiltin .len #[38] 3 [false] [v77_1]) w fun v78_1 w =>
  C.loop [(.int .i64 0)] w fun dv_5 vs_5 w again_2 =>
  C.step (sBin .lss 3 (.tmp 79) (.tmp 78) (vs_5.getD 0 undef) v78_1) w fun v80_1 w =>
  C.bool v80_1
  (C.step (sIndexAddr 38 v77_1 (vs_5.getD 0 undef)) w fun v81_1 w =>
  C.step (sLoad 136 v81_1) w fun v82_1 w =>
  C.step (sAlloc 136) w fun v6_1 w =>
  C.step (sStore 136 v6_1 v82_1) w fun vx_2 w =>
  C.step (sFieldAddr 136 v6_1 0) w fun v84_1 w =>
  C.step (sLoad 3 v84_1) w fun v85_1 w =>
  C.step (sConv 3 104 v85_1) w fun v86_1 w =>
  C.calls 43 #[v12_1, v86_1] w fun v87_1 w =>
  C.step (sFieldAddr 136 v6_1 1) w fun v89_1 w =>
  C.step (sLoad 134 v89_1) w fun v90_1 w =>
  C.step (sConv 134 5 v90_1) w fun v91_1 w =>
  C.calls 94 #[v12_1, v91_1] w fun v92_1 w =>
  C.step (sFieldAddr 136 v6_1 2) w fun v94_1 w =>
  C.step (sLoad 34 v94_1) w fun v95_1 w =>
  C.calls 95 #[v12_1, v95_1] w fun v96_1 w =>
  C.step (sBin .add 3 (.tmp 79) (.const (.int .i64 1)) (vs_5.getD 0 undef) (.int .i64 1)) w fun v97_1 w =>
  again_2 [v97_1] w)
  (rec_Encode_k2 C v1_1 v12_1 j_3 w Q))
  (j_3 [] w))
def rec_Encode_j4 (C : Comb) (v1_1 : Value) (v12_1 : Value) (dv_1 : Nat → Value) (vs_1 : List Value) (w : World) (Q : Value → World → Prop) : Prop :=
  C.join (fun dv_2 vs_2 w => rec_Encode_j3 C v1_1 v12_1 dv_2 vs_2 w Q) (fun j_2 =>
  C.step (sFieldAddr 41 v1_1 0) w fun v60_1 w =>
  C.step (sLoad 33 v60_1) w fun v61_1 w =>
  C.step (sBin .eql 33 (.tmp 61) (.const (.int .i64 2)) v61_1 (.int .i64 2)) w fun v62_1 w =>
  C.bool v62_1
  (C.step (sFieldAddr 41 v1_1 4) w fun v64_1 w =>
  C.step (sLoad 34 v64_1) w fun v65_1 w =>
  C.calls 95 #[v12_1, v65_1] w fun v66_1 w =>
  j_2 [] w)
  (j_2 [] w))
def rec_Encode_x (C : Comb) (a0 : Value) (w : World) (Q : Value → World → Prop) : Prop :=
  C.step (sBox 41 a0) w fun v1_1 w =>
  C.step (sLoad 41 v1_1) w fun v9_1 w =>
  C.calls 93 #[v9_1] w fun v10_1 w =>
  C.step (sBin .neq 24 (.tmp 10) (.const (.int .i64 0)) v10_1 (.int .i64 0)) w fun v11_1 w =>
  C.bool v11_1
  (Q (.tuple #[(.slice none 0 0), (.int .i64 1)]) w)
  (C.calls 42 #[] w fun v12_1 w =>
  C.step (sFieldAddr 41 v1_1 0) w fun v14_1 w =>
  C.step (sLoad 33 v14_1) w fun v15_1 w =>
  C.step (sConv 33 5 v15_1) w fun v16_1 w =>
  C.calls 94 #[v12_1, v16_1] w fun v17_1 w =>
  C.step (sFieldAddr 41 v1_1 1) w fun v19_1 w =>
  C.step (sLoad 34 v19_1) w fun v20_1 w =>
  C.calls 95 #[v12_1, v20_1] w fun v21_1 w =>
  C.step (sFieldAddr 41 v1_1 2) w fun v23_1 w =>
  C.step (sLoad 3 v23_1) w fun v24_1 w =>
  C.step (sConv 3 104 v24_1) w fun v25_1 w =>
  C.calls 43 #[v12_1, v25_1] w fun v26_1 w =>
  C.step (sFieldAddr 41 v1_1 3) w fun v28_1 w =>
  C.step (sLoad 34 v28_1) w fun v29_1 w =>
  C.calls 95 #[v12_1, v29_1] w fun v30_1 w =>
  C.join (fun dv_1 vs_1 w => rec_Encode_j4 C v1_1 v12_1 dv_1 vs_1 w Q) (fun j_1 =>
  C.step (sFieldAddr 41 v1_1 0) w fun v31_1 w =>
  C.step (sLoad 33 v31_1) w fun v32_1 w =>
  C.calls 96 #[v32_1] w fun v33_1 w =>
  C.bool v33_1
  (C.step (sFieldAddr 41 v1_1 5) w fun v35_1 w =>
  C.step (sLoad 3 v35_1) w fun v36_1 w =>
  C.step (sConv 3 149 v36_1) w fun v37_1 w =>
  C.calls 83 #[v12_1, v37_1] w fun v38_1 w =>
  C.step (sFieldAddr 41 v1_1 6) w fun v40_1 w =>
  C.step (sFieldAddr 37 v40_1 0) w fun v41_1 w =>
  C.step (sLoad 35 v41_1) w fun v42_1 w =>
  C.step (sConv 35 5 v42_1) w fun v43_1 w =>
  C.calls 94 #[v12_1, v43_1] w fun v44_1 w =>
  C.step (sFieldAddr 41 v1_1 6) w fun v46_1 w =>
  C.step (sFieldAddr 37 v46_1 1) w fun v47_1 w =>
  C.step (sLoad 9 v47_1) w fun v48_1 w =>
  C.calls 97 #[v12_1, v48_1] w fun v49_1 w =>
  C.step (sFieldAddr 41 v1_1 6) w fun v51_1 w =>
  C.step (sFieldAddr 37 v51_1 2) w fun v52_1 w =>
  C.step (sLoad 9 v52_1) w fun v53_1 w =>
  C.calls 97 #[v12_1, v53_1] w fun v54_1 w =>
  C.step (sFieldAddr 41 v1_1 6) w fun v56_1 w =>
  C.step (sFieldAddr 37 v56_1 3) w fun v57_1 w =>
  C.step (sLoad 9 v57_1) w fun v58_1 w =>
  C.calls 97 #[v12_1, v58_1] w fun v59_1 w =>
  j_1 [] w)
  (j_1 [] w)))
theorem rec_Encode_eq (C : Comb) (a0 : Value) (w : World) (Q : Value → World → Prop) : rec_Encode_x C a0 w Q = FunY Try.prog C 2 [14, 16, 32] Try.f82 [a0] w Q := by kernel_rfl
theorem rec_Encode_sound (a0 : Value) {w : World} {Q : Value → World → Prop} (h : rec_Encode_x (std Try.prog) a0 w Q) : CallsR Try.prog 82 #[a0] w Q :=
  calls_of_funY mixed Try.func82 (Eq.mp (rec_Encode_eq _ a0 w Q) h)

def enc_Writer_Two_x (C : Comb) (a0 : Value) (a1 : Value) (w : World) (Q : Value → World → Prop) : Prop :=
  C.step (sConv 149 32 a1) w fun v6_1 w =>
  C.calls 68 #[a0, v6_1, (.int .i64 2)] w fun v7_1 w =>
  Q (.tuple #[]) w
theorem enc_Writer_Two_eq (C : Comb) (a0 : Value) (a1 : Value) (w : World) (Q : Value → World → Prop) : enc_Writer_Two_x C a0 a1 w Q = FunY Try.prog C 4 [] Try.f83 [a0, a1] w Q := by kernel_rfl
theorem enc_Writer_Two_sound (a0 : Value) (a1 : Value) {w : World} {Q : Value → World → Prop} (h : enc_Writer_Two_x (std Try.prog) a0 a1 w Q) : CallsR Try.prog 83 #[a0, a1] w Q :=
  calls_of_funY mixed Try.func83 (Eq.mp (enc_Writer_Two_eq _ a0 a1 w Q) h)

def crc_More_k1 (C : Comb) (u6_1 : Value) (w : World) (Q : Value → World → Prop) : Prop :=
  C.step (sUn .xor u6_1) w fun v38_1 w =>
  Q v38_1 w
def crc_More_x (C : Comb) (a0 : Value) (a1 : Value) (w : World) (Q : Value → World → Prop) : Prop :=
  C.calls 98 #[] w fun v9_1 w =>
  C.step (sAlloc 172) w fun v5_1 w =>
  C.step (sStore 172 v5_1 v9_1) w fun vx_1 w =>
  C.step (sUn .xor a0) w fun v11_1 w =>
  C.step (sBuiltin .len #[51] 3 [false] [a1]) w fun v13_1 w =>
  C.loop [undef, v11_1, (.int .i64 0)] w fun dv_1 vs_1 w again_1 =>
  C.step (sBin .lss 3 (.tmp 14) (.tmp 13) (vs_1.getD 2 undef) v13_1) w fun v15_1 w =>
  C.bool v15_1
  (C.step (sIndexAddr 51 a1 (vs_1.getD 2 undef)) w fun v16_1 w =>
  C.step (sLoad 5 v16_1) w fun v17_1 w =>
  C.step (sConv 5 104 v17_1) w fun v20_1 w =>
  C.step (sBin .xor 104 (.tmp 18) (.tmp 20) (vs_1.getD 1 undef) v20_1) w fun v21_1 w =>
  C.step (sBin .shr 104 (.tmp 22) (.const (.int .u64 4)) v21_1 (.int .u64 4)) w fun v23_1 w =>
  C.step (sBin .and 104 (.tmp 24) (.const (.int .u32 15)) v21_1 (.int .u32 15)) w fun v25_1 w =>
  C.step (sIndexAddr 172 v5_1 v25_1) w fun v26_1 w =>
  C.step (sLoad 104 v26_1) w fun v27_1 w =>
  C.step (sBin .xor 104 (.tmp 23) (.tmp 27) v23_1 v27_1) w fun v28_1 w =>
  C.step (sBin .shr 104 (.tmp 29) (.const (.int .u64 4)) v28_1 (.int .u64 4)) w fun v30_1 w =>
  C.step (sBin .and 104 (.tmp 31) (.const (.int .u32 15)) v28_1 (.int .u32 15)) w fun v32_1 w =>
  C.step (sIndexAddr 172 v5_1 v32_1) w fun v33_1 w =>
  C.step (sLoad 104 v33_1) w fun v34_1 w =>
  C.step (sBin .xor 104 (.tmp 30) (.tmp 34) v30_1 v34_1) w fun v35_1 w =>
  C.step (sBin .add 3 (.tmp 14) (.const (.int .i64 1)) (vs_1.getD 2 undef) (.int .i64 1)) w fun v36_1 w =>
  again_1 [v17_1, v35_1, v36_1] w)
  (crc_More_k1 C (vs_1.getD 1 undef) w Q)
theorem crc_More_eq (C : Comb) (a0 : Value) (a1 : Value) (w : World) (Q : Value → World → Prop) : crc_More_x C a0 a1 w Q = FunY Try.prog C 9 [] Try.f84 [a0, a1] w Q := by kernel_rfl
theorem crc_More_sound (a0 : Value) (a1 : Value) {w : World} {Q : Value → World → Prop} (h : crc_More_x (std Try.prog) a0 a1 w Q) : CallsR Try.prog 84 #[a0, a1] w Q :=
  calls_of_funY mixed Try.func84 (Eq.mp (crc_More_eq _ a0 a1 w Q) h)

def flotillaref01_Take_k1 (C : Comb) (a1 : Value) (v2_1 : Value) (v4_1 : Value) (u6_1 : Value) (w : World) (Q : Value → World → Prop) : Prop :=
  C.step (sFieldAddr 155 v2_1 1) w fun v35_1 w =>
  C.step (sLoad 3 v35_1) w fun v36_1 w =>
  C.step (sBin .add 3 (.tmp 36) (.tmp 37) v36_1 a1) w fun v38_1 w =>
  C.step (sFieldAddr 155 v2_1 1) w fun v39_1 w =>
  C.step (sStore 3 v39_1 v38_1) w fun vx_4 w =>
  C.step (sLoad 155 v2_1) w fun v40_1 w =>
  C.step (sStore 155 v4_1 v40_1) w fun vx_5 w =>
  C.loadR 155 v4_1 w fun r_3 =>
  Q (.tuple #[r_3, u6_1]) w
def flotillaref01_Take_x (C : Comb) (a0 : Value) (a1 : Value) (w : World) (Q : Value → World → Prop) : Prop :=
  C.step (sBox 155 a0) w fun v2_1 w =>
  C.step (sAlloc 155) w fun v4_1 w =>
  C.step (sFieldAddr 155 v2_1 2) w fun v8_1 w =>
  C.step (sLoad 24 v8_1) w fun v9_1 w =>
  C.step (sBin .neq 24 (.tmp 9) (.const (.int .i64 0)) v9_1 (.int .i64 0)) w fun v10_1 w =>
  C.bool v10_1
  (C.step (sLoad 155 v2_1) w fun v11_1 w =>
  C.step (sStore 155 v4_1 v11_1) w fun vx_1 w =>
  C.loadR 155 v4_1 w fun r_1 =>
  Q (.tuple #[r_1, (.int .u64 0)]) w)
  (C.step (sLoad 155 v2_1) w fun v12_1 w =>
  C.calls 99 #[v12_1] w fun v13_1 w =>
  C.step (sBin .lss 3 (.tmp 13) (.tmp 14) v13_1 a1) w fun v15_1 w =>
  C.bool v15_1
  (C.step (sFieldAddr 155 v2_1 2) w fun v16_1 w =>
  C.step (sStore 24 v16_1 (.int .i64 4)) w fun vx_2 w =>
  C.step (sLoad 155 v2_1) w fun v17_1 w =>
  C.step (sStore 155 v4_1 v17_1) w fun vx_3 w =>
  C.loadR 155 v4_1 w fun r_2 =>
  Q (.tuple #[r_2, (.int .u64 0)]) w)
  (C.step (sBin .sub 3 (.tmp 18) (.const (.int .i64 1)) a1 (.int .i64 1)) w fun v19_1 w =>
  C.loop [(.int .u64 0), v19_1] w fun dv_1 vs_1 w again_1 =>
  C.step (sBin .geq 3 (.tmp 20) (.const (.int .i64 0)) (vs_1.getD 1 undef) (.int .i64 0)) w fun v21_1 w =>
  C.bool v21_1
  (C.step (sBin .mul 32 (.const (.int .u64 256)) (.tmp 24) (.int .u64 256) (vs_1.getD 0 undef)) w fun v25_1 w =>
  C.step (sFieldAddr 155 v2_1 0) w fun v26_1 w =>
  C.step (sLoad 9 v26_1) w fun v27_1 w =>
  C.step (sFieldAddr 155 v2_1 1) w fun v28_1 w =>
  C.step (sLoad 3 v28_1) w fun v29_1 w =>
  C.step (sBin .add 3 (.tmp 29) (.tmp 30) v29_1 (vs_1.getD 1 undef)) w fun v31_1 w =>
  C.step (sIndex 9 v27_1 v31_1) w fun v32_1 w =>
  C.step (sConv 5 32 v32_1) w fun v33_1 w =>
  C.step (sBin .add 32 (.tmp 25) (.tmp 33) v25_1 v33_1) w fun v34_1 w =>
  C.step (sBin .sub 3 (.tmp 22) (.const (.int .i64 1)) (vs_1.getD 1 undef) (.int .i64 1)) w fun v23_1 w =>
  again_1 [v34_1, v23_1] w)
  (flotillaref01_Take_k1 C a1 v2_1 v4_1 (vs_1.getD 0 undef) w Q)))
theorem flotillaref01_Take_eq (C : Comb) (a0 : Value) (a1 : Value) (w : World) (Q : Value → World → Prop) : flotillaref01_Take_x C a0 a1 w Q = FunY Try.prog C 8 [] Try.f85 [a0, a1] w Q := by kernel_rfl
theorem flotillaref01_Take_sound (a0 : Value) (a1 : Value) {w : World} {Q : Value → World → Prop} (h : flotillaref01_Take_x (std Try.prog) a0 a1 w Q) : CallsR Try.prog 85 #[a0, a1] w Q :=
  calls_of_funY mixed Try.func85 (Eq.mp (flotillaref01_Take_eq _ a0 a1 w Q) h)

def flotillaref05_change_x (C : Comb) (a0 : Value) (a1 : Value) (w : World) (Q : Value → World → Prop) : Prop :=
  C.step (sBox 155 a0) w fun v2_1 w =>
  C.step (sBox 41 a1) w fun v3_1 w =>
  C.step (sAlloc 155) w fun v4_1 w =>
  C.step (sAlloc 41) w fun v5_1 w =>
  C.step (sLoad 155 v2_1) w fun v8_1 w =>
  C.calls 85 #[v8_1, (.int .i64 2)] w fun v9_1 w =>
  C.step (sExtract v9_1 0) w fun v10_1 w =>
  C.step (sExtract v9_1 1) w fun v11_1 w =>
  C.step (sStore 155 v2_1 v10_1) w fun vx_1 w =>
  C.step (sConv 32 3 v11_1) w fun v13_1 w =>
  C.step (sFieldAddr 41 v3_1 5) w fun v14_1 w =>
  C.step (sStore 3 v14_1 v13_1) w fun vx_2 w =>
  C.step (sLoad 155 v2_1) w fun v16_1 w =>
  C.calls 85 #[v16_1, (.int .i64 1)] w fun v17_1 w =>
  C.step (sExtract v17_1 0) w fun v18_1 w =>
  C.step (sExtract v17_1 1) w fun v19_1 w =>
  C.step (sStore 155 v2_1 v18_1) w fun vx_3 w =>
  C.step (sConv 32 35 v19_1) w fun v21_1 w =>
  C.step (sFieldAddr 41 v3_1 6) w fun v22_1 w =>
  C.step (sFieldAddr 37 v22_1 0) w fun v23_1 w =>
  C.step (sStore 35 v23_1 v21_1) w fun vx_4 w =>
  C.step (sLoad 155 v2_1) w fun v25_1 w =>
  C.calls 100 #[v25_1, (.int .i64 16)] w fun v26_1 w =>
  C.step (sExtract v26_1 0) w fun v27_1 w =>
  C.step (sExtract v26_1 1) w fun v28_1 w =>
  C.step (sStore 155 v2_1 v27_1) w fun vx_5 w =>
  C.step (sFieldAddr 41 v3_1 6) w fun v29_1 w =>
  C.step (sFieldAddr 37 v29_1 1) w fun v30_1 w =>
  C.step (sStore 9 v30_1 v28_1) w fun vx_6 w =>
  C.step (sLoad 155 v2_1) w fun v32_1 w =>
  C.calls 100 #[v32_1, (.int .i64 32)] w fun v33_1 w =>
  C.step (sExtract v33_1 0) w fun v34_1 w =>
  C.step (sExtract v33_1 1) w fun v35_1 w =>
  C.step (sStore 155 v2_1 v34_1) w fun vx_7 w =>
  C.step (sFieldAddr 41 v3_1 6) w fun v36_1 w =>
  C.step (sFieldAddr 37 v36_1 2) w fun v37_1 w =>
  C.step (sStore 9 v37_1 v35_1) w fun vx_8 w =>
  C.step (sLoad 155 v2_1) w fun v39_1 w =>
  C.calls 100 #[v39_1, (.int .i64 32)] w fun v40_1 w =>
  C.step (sExtract v40_1 0) w fun v41_1 w =>
  C.step (sExtract v40_1 1) w fun v42_1 w =>
  C.step (sStore 155 v2_1 v41_1) w fun vx_9 w =>
  C.step (sFieldAddr 41 v3_1 6) w fun v43_1 w =>
  C.step (sFieldAddr 37 v43_1 3) w fun v44_1 w =>
  C.step (sStore 9 v44_1 v42_1) w fun vx_10 w =>
  C.draw w fun S_1 w =>
  C.stepS S_1 (sLoad 155 v2_1) fun v45_1 =>
  C.stepS S_1 (sLoad 41 v3_1) fun v46_1 =>
  C.step (sStore 155 v4_1 v45_1) w fun vx_11 w =>
  C.keepS S_1 w fun S_2 =>
  C.step (sStore 41 v5_1 v46_1) w fun vx_12 w =>
  C.keepT w fun S_3 =>
  C.loadR 155 v4_1 w fun r_1 =>
  C.loadR 41 v5_1 w fun r_2 =>
  Q (.tuple #[r_1, r_2]) w
theorem flotillaref05_change_eq (C : Comb) (a0 : Value) (a1 : Value) (w : World) (Q : Value → World → Prop) : flotillaref05_change_x C a0 a1 w Q = FunY Try.prog C 7 [] Try.f86 [a0, a1] w Q := by kernel_rfl
theorem flotillaref05_change_sound (a0 : Value) (a1 : Value) {w : World} {Q : Value → World → Prop} (h : flotillaref05_change_x (std Try.prog) a0 a1 w Q) : CallsR Try.prog 86 #[a0, a1] w Q :=
  calls_of_funY mixed Try.func86 (Eq.mp (flotillaref05_change_eq _ a0 a1 w Q) h)

def flotillaref05_tables_k2 (C : Comb) (v2_1 : Value) (v3_1 : Value) (v4_1 : Value) (v5_1 : Value) (w : World) (Q : Value → World → Prop) : Prop :=
  C.draw w fun S_1 w =>
  C.stepS S_1 (sLoad 155 v2_1) fun v77_1 =>
  C.stepS S_1 (sLoad 41 v3_1) fun v78_1 =>
  C.step (sStore 155 v4_1 v77_1) w fun vx_3 w =>
  C.keepS S_1 w fun S_2 =>
  C.step (sStore 41 v5_1 v78_1) w fun vx_4 w =>
  C.keepT w fun S_3 =>
  C.loadR 155 v4_1 w fun r_1 =>
  C.loadR 41 v5_1 w fun r_2 =>
  Q (.tuple #[r_1, r_2]) w
def flotillaref05_tables_k1 (C : Comb) (v2_1 : Value) (v3_1 : Value) (v4_1 : Value) (v5_1 : Value) (w : World) (Q : Value → World → Prop) : Prop :=
  C.step (sLoad 155 v2_1) w fun v49_1 w =>
  C.calls 85 #[v49_1, (.int .i64 1)] w fun v50_1 w =>
  C.step (sExtract v50_1 0) w fun v51_1 w =>
  C.step (sExtract v50_1 1) w fun v52_1 w =>
  C.step (sStore 155 v2_1 v51_1) w fun vx_2 w =>
  C.loop [(.int .u64 0)] w fun dv_1 vs_1 w again_1 =>
  C.step (sBin .lss 32 (.tmp 53) (.tmp 54) (vs_1.getD 0 undef) v52_1) w fun v55_1 w =>
  C.bool v55_1
  (C.step (sLoad 155 v2_1) w fun v59_1 w =>
  C.calls 85 #[v59_1, (.int .i64 2)] w fun v60_1 w =>
  C.step (sExtract v60_1 0) w fun v61_1 w =>
  C.step (sExtract v60_1 1) w fun v62_1 w =>
  C.step (sStore 155 v2_1 v61_1) w fun vx_5 w =>
  C.step (sLoad 155 v2_1) w fun v64_1 w =>
  C.calls 85 #[v64_1, (.int .i64 8)] w fun v65_1 w =>
  C.step (sExtract v65_1 0) w fun v66_1 w =>
  C.step (sExtract v65_1 1) w fun v67_1 w =>
  C.step (sStore 155 v2_1 v66_1) w fun vx_6 w =>
  C.step (sFieldAddr 41 v3_1 8) w fun v68_1 w =>
  C.step (sLoad 39 v68_1) w fun v69_1 w =>
  C.step (sConv 32 3 v62_1) w fun v71_1 w =>
  C.step (sBuild 138 [(0, v71_1), (1, v67_1)]) w fun v73_1 w =>
  C.step (sBuildSlice 39 1 [(0, v73_1)]) w fun v74_1 w =>
  C.step (sBuiltin .append #[39, 39] 39 [false, false] [v69_1, v74_1]) w fun v75_1 w =>
  C.step (sFieldAddr 41 v3_1 8) w fun v76_1 w =>
  C.step (sStore 39 v76_1 v75_1) w fun vx_7 w =>
  C.step (sBin .add 32 (.tmp 56) (.const (.int .u64 1)) (vs_1.getD 0 undef) (.int .u64 1)) w fun v57_1 w =>
  again_1 [v57_1] w)
  (flotillaref05_tables_k2 C v2_1 v3_1 v4_1 v5_1 w Q)
def flotillaref05_tables_x (C : Comb) (a0 : Value) (a1 : Value) (w : World) (Q : Value → World → Prop) : Prop :=
  C.step (sBox 155 a0) w fun v2_1 w =>
  C.step (sBox 41 a1) w fun v3_1 w =>
  C.step (sAlloc 155) w fun v4_1 w =>
  C.step (sAlloc 41) w fun v5_1 w =>
  C.step (sLoad 155 v2_1) w fun v13_1 w =>
  C.calls 85 #[v13_1, (.int .i64 1)] w fun v14_1 w =>
  C.step (sExtract v14_1 0) w fun v15_1 w =>
  C.step (sExtract v14_1 1) w fun v16_1 w =>
  C.step (sStore 155 v2_1 v15_1) w fun vx_1 w =>
  C.loop [(.int .u64 0)] w fun dv_2 vs_2 w again_2 =>
  C.step (sBin .lss 32 (.tmp 17) (.tmp 18) (vs_2.getD 0 undef) v16_1) w fun v19_1 w =>
  C.bool v19_1
  (C.step (sLoad 155 v2_1) w fun v23_1 w =>
  C.calls 85 #[v23_1, (.int .i64 4)] w fun v24_1 w =>
  C.step (sExtract v24_1 0) w fun v25_1 w =>
  C.step (sExtract v24_1 1) w fun v26_1 w =>
  C.step (sStore 155 v2_1 v25_1) w fun vx_8 w =>
  C.step (sLoad 155 v2_1) w fun v28_1 w =>
  C.calls 85 #[v28_1, (.int .i64 1)] w fun v29_1 w =>
  C.step (sExtract v29_1 0) w fun v30_1 w =>
  C.step (sExtract v29_1 1) w fun v31_1 w =>
  C.step (sStore 155 v2_1 v30_1) w fun vx_9 w =>
  C.step (sLoad 155 v2_1) w fun v33_1 w =>
  C.calls 85 #[v33_1, (.int .i64 8)] w fun v34_1 w =>
  C.step (sExtract v34_1 0) w fun v35_1 w =>
  C.step (sExtract v34_1 1) w fun v36_1 w =>
  C.step (sStore 155 v2_1 v35_1) w fun vx_10 w =>
  C.step (sFieldAddr 41 v3_1 7) w fun v37_1 w =>
  C.step (sLoad 38 v37_1) w fun v38_1 w =>
  C.step (sConv 32 3 v26_1) w fun v40_1 w =>
  C.step (sConv 32 134 v31_1) w fun v42_1 w =>
  C.step (sBuild 136 [(0, v40_1), (1, v42_1), (2, v36_1)]) w fun v44_1 w =>
  C.step (sBuildSlice 38 1 [(0, v44_1)]) w fun v45_1 w =>
  C.step (sBuiltin .append #[38, 38] 38 [false, false] [v38_1, v45_1]) w fun v46_1 w =>
  C.step (sFieldAddr 41 v3_1 7) w fun v47_1 w =>
  C.step (sStore 38 v47_1 v46_1) w fun vx_11 w =>
  C.step (sBin .add 32 (.tmp 20) (.const (.int .u64 1)) (vs_2.getD 0 undef) (.int .u64 1)) w fun v21_1 w =>
  again_2 [v21_1] w)
  (flotillaref05_tables_k1 C v2_1 v3_1 v4_1 v5_1 w Q)
theorem flotillaref05_tables_eq (C : Comb) (a0 : Value) (a1 : Value) (w : World) (Q : Value → World → Prop) : flotillaref05_tables_x C a0 a1 w Q = FunY Try.prog C 2 [] Try.f87 [a0, a1] w Q := by kernel_rfl
theorem flotillaref05_tables_sound (a0 : Value) (a1 : Value) {w : World} {Q : Value → World → Prop} (h : flotillaref05_tables_x (std Try.prog) a0 a1 w Q) : CallsR Try.prog 87 #[a0, a1] w Q :=
  calls_of_funY mixed Try.func87 (Eq.mp (flotillaref05_tables_eq _ a0 a1 w Q) h)

def flotillaref01_End_k1 (C : Comb) (v1_1 : Value) (w : World) (Q : Value → World → Prop) : Prop :=
  C.step (sFieldAddr 155 v1_1 2) w fun v11_1 w =>
  C.step (sLoad 24 v11_1) w fun v12_1 w =>
  Q v12_1 w
def flotillaref01_End_x (C : Comb) (a0 : Value) (w : World) (Q : Value → World → Prop) : Prop :=
  C.step (sBox 155 a0) w fun v1_1 w =>
  C.step (sFieldAddr 155 v1_1 2) w fun v3_1 w =>
  C.step (sLoad 24 v3_1) w fun v4_1 w =>
  C.step (sBin .eql 24 (.tmp 4) (.const (.int .i64 0)) v4_1 (.int .i64 0)) w fun v5_1 w =>
  C.bool v5_1
  (C.step (sLoad 155 v1_1) w fun v7_1 w =>
  C.calls 99 #[v7_1] w fun v8_1 w =>
  C.step (sBin .gtr 3 (.tmp 8) (.const (.int .i64 0)) v8_1 (.int .i64 0)) w fun v9_1 w =>
  C.bool v9_1
  (Q (.int .i64 5) w)
  (flotillaref01_End_k1 C v1_1 w Q))
  (flotillaref01_End_k1 C v1_1 w Q)
theorem flotillaref01_End_eq (C : Comb) (a0 : Value) (w : World) (Q : Value → World → Prop) : flotillaref01_End_x C a0 w Q = FunY Try.prog C 2 [] Try.f88 [a0] w Q := by kernel_rfl
theorem flotillaref01_End_sound (a0 : Value) {w : World} {Q : Value → World → Prop} (h : flotillaref01_End_x (std Try.prog) a0 w Q) : CallsR Try.prog 88 #[a0] w Q :=
  calls_of_funY mixed Try.func88 (Eq.mp (flotillaref01_End_eq _ a0 w Q) h)

def flotillaref02_More_k1 (C : Comb) (u5_1 : Value) (w : World) (Q : Value → World → Prop) : Prop :=
  C.step (sBin .sub 104 (.const (.int .u32 4294967295)) (.tmp 38) (.int .u32 4294967295) u5_1) w fun v39_1 w =>
  Q v39_1 w
def flotillaref02_More_k2 (C : Comb) (vs_1 : List Value) (again_1 : List Value → World → Prop) (u9_2 : Value) (u7_2 : Value) (u5_2 : Value) (u8_2 : Value) (w : World) (Q : Value → World → Prop) : Prop :=
  C.step (sBin .add 3 (.tmp 16) (.const (.int .i64 1)) (vs_1.getD 4 undef) (.int .i64 1)) w fun v17_1 w =>
  again_1 [u9_2, u7_2, u5_2, u8_2, v17_1] w
def flotillaref02_More_k3 (C : Comb) (vs_2 : List Value) (again_2 : List Value → World → Prop) (u9_3 : Value) (u7_3 : Value) (u5_3 : Value) (w : World) (Q : Value → World → Prop) : Prop :=
  C.step (sBin .add 3 (.tmp 24) (.const (.int .i64 1)) (vs_2.getD 3 undef) (.int .i64 1)) w fun v25_1 w =>
  again_2 [u9_3, u7_3, u5_3, v25_1] w
def flotillaref02_More_x (C : Comb) (a0 : Value) (a1 : Value) (w : World) (Q : Value → World → Prop) : Prop :=
  C.step (sBin .sub 104 (.const (.int .u32 4294967295)) (.tmp 10) (.int .u32 4294967295) a0) w fun v11_1 w =>
  C.loop [undef, undef, v11_1, undef, (.int .i64 0)] w fun dv_1 vs_1 w again_1 =>
  C.step (sBuiltin .len #[9] 3 [false] [a1]) w fun v14_1 w =>
  C.step (sBin .lss 3 (.tmp 12) (.tmp 14) (vs_1.getD 4 undef) v14_1) w fun v15_1 w =>
  C.bool v15_1
  (C.step (sIndex 9 a1 (vs_1.getD 4 undef)) w fun v20_1 w =>
  C.step (sConv 5 104 v20_1) w fun v21_1 w =>
  C.loop [(vs_1.getD 0 undef), v21_1, (vs_1.getD 2 undef), (.int .i64 0)] w fun dv_2 vs_2 w again_2 =>
  C.step (sBin .lss 3 (.tmp 22) (.const (.int .i64 8)) (vs_2.getD 3 undef) (.int .i64 8)) w fun v23_1 w =>
  C.bool v23_1
  (C.step (sBin .rem 104 (.tmp 26) (.const (.int .u32 2)) (vs_2.getD 2 undef) (.int .u32 2)) w fun v27_1 w =>
  C.step (sBin .rem 104 (.tmp 28) (.const (.int .u32 2)) (vs_2.getD 1 undef) (.int .u32 2)) w fun v29_1 w =>
  C.step (sBin .neq 104 (.tmp 27) (.tmp 29) v27_1 v29_1) w fun v30_1 w =>
  C.step (sBin .quo 104 (.tmp 31) (.const (.int .u32 2)) (vs_2.getD 2 undef) (.int .u32 2)) w fun v32_1 w =>
  C.step (sBin .quo 104 (.tmp 33) (.const (.int .u32 2)) (vs_2.getD 1 undef) (.int .u32 2)) w fun v34_1 w =>
  C.bool v30_1
  (C.step (sBin .xor 104 (.tmp 36) (.const (.int .u32 2197175160)) v32_1 (.int .u32 2197175160)) w fun v37_1 w =>
  flotillaref02_More_k3 C vs_2 again_2 v30_1 v34_1 v37_1 w Q)
  (flotillaref02_More_k3 C vs_2 again_2 v30_1 v34_1 v32_1 w Q))
  (flotillaref02_More_k2 C vs_1 again_1 (vs_2.getD 0 undef) (vs_2.getD 1 undef) (vs_2.getD 2 undef) (vs_2.getD 3 undef) w Q))
  (flotillaref02_More_k1 C (vs_1.getD 2 undef) w Q)
theorem flotillaref02_More_eq (C : Comb) (a0 : Value) (a1 : Value) (w : World) (Q : Value → World → Prop) : flotillaref02_More_x C a0 a1 w Q = FunY Try.prog C 10 [] Try.f89 [a0, a1] w Q := by kernel_rfl
theorem flotillaref02_More_sound (a0 : Value) (a1 : Value) {w : World} {Q : Value → World → Prop} (h : flotillaref02_More_x (std Try.prog) a0 a1 w Q) : CallsR Try.prog 89 #[a0, a1] w Q :=
  calls_of_funY mixed Try.func89 (Eq.mp (flotillaref02_More_eq _ a0 a1 w Q) h)

def enc_Reader_num_k1 (C : Comb) (u5_1 : Value) (w : World) (Q : Value → World → Prop) : Prop :=
  Q u5_1 w
def enc_Reader_num_x (C : Comb) (a0 : Value) (a1 : Value) (w : World) (Q : Value → World → Prop) : Prop :=
  C.calls 101 #[a0, a1] w fun v10_1 w =>
  C.step (sBuiltin .len #[51] 3 [false] [v10_1]) w fun v11_1 w =>
  C.loop [undef, undef, (.int .u64 0), (.int .i64 0)] w fun dv_1 vs_1 w again_1 =>
  C.step (sBin .lss 3 (.tmp 12) (.tmp 11) (vs_1.getD 3 undef) v11_1) w fun v13_1 w =>
  C.bool v13_1
  (C.step (sIndexAddr 51 v10_1 (vs_1.getD 3 undef)) w fun v15_1 w =>
  C.step (sLoad 5 v15_1) w fun v16_1 w =>
  C.step (sConv 5 32 v16_1) w fun v19_1 w =>
  C.step (sBin .mul 3 (.const (.int .i64 8)) (.tmp 20) (.int .i64 8) (vs_1.getD 3 undef)) w fun v21_1 w =>
  C.step (sBin .shl 32 (.tmp 19) (.tmp 21) v19_1 v21_1) w fun v22_1 w =>
  C.step (sBin .add 32 (.tmp 17) (.tmp 22) (vs_1.getD 2 undef) v22_1) w fun v23_1 w =>
  C.step (sBin .add 3 (.tmp 12) (.const (.int .i64 1)) (vs_1.getD 3 undef) (.int .i64 1)) w fun v24_1 w =>
  again_1 [(vs_1.getD 3 undef), v16_1, v23_1, v24_1] w)
  (enc_Reader_num_k1 C (vs_1.getD 2 undef) w Q)
theorem enc_Reader_num_eq (C : Comb) (a0 : Value) (a1 : Value) (w : World) (Q : Value → World → Prop) : enc_Reader_num_x C a0 a1 w Q = FunY Try.prog C 8 [] Try.f90 [a0, a1] w Q := by kernel_rfl
theorem enc_Reader_num_sound (a0 : Value) (a1 : Value) {w : World} {Q : Value → World → Prop} (h : enc_Reader_num_x (std Try.prog) a0 a1 w Q) : CallsR Try.prog 90 #[a0, a1] w Q :=
  calls_of_funY mixed Try.func90 (Eq.mp (enc_Reader_num_eq _ a0 a1 w Q) h)

def rec_Check_k1 (C : Comb) (w : World) (Q : Value → World → Prop) : Prop :=
  Q (.int .i64 1) w
def rec_Check_k2 (C : Comb) (u109_2 : Value) (w : World) (Q : Value → World → Prop) : Prop :=
  C.bool u109_2
  (Q (.int .i64 1) w)
  (Q (.int .i64 0) w)
def rec_Check_j3 (C : Comb) (v1_1 : Value) (dv_4 : Nat → Value) (vs_4 : List Value) (w : World) (Q : Value → World → Prop) : Prop :=
  C.step (sUn .not (vs_4.getD 0 undef)) w fun v94_1 w =>
  C.bool v94_1
  (rec_Check_k1 C w Q)
  (C.step (sFieldAddr 41 v1_1 0) w fun v96_1 w =>
  C.step (sLoad 33 v96_1) w fun v97_1 w =>
  C.step (sBin .neq 33 (.tmp 97) (.const (.int .i64 2)) v97_1 (.int .i64 2)) w fun v98_1 w =>
  C.bool v98_1
  (C.step (sFieldAddr 41 v1_1 4) w fun v100_1 w =>
  C.step (sLoad 34 v100_1) w fun v101_1 w =>
  C.step (sBin .neq 34 (.tmp 101) (.const (.int .u64 0)) v101_1 (.int .u64 0)) w fun v102_1 w =>
  C.bool v102_1
  (rec_Check_k1 C w Q)
  (C.step (sLoad 41 v1_1) w fun v106_1 w =>
  C.calls 112 #[v106_1] w fun v107_1 w =>
  C.step (sUn .not v107_1) w fun v108_1 w =>
  rec_Check_k2 C v108_1 w Q))
  (C.step (sLoad 41 v1_1) w fun v106_2 w =>
  C.calls 112 #[v106_2] w fun v107_2 w =>
  C.step (sUn .not v107_2) w fun v108_2 w =>
  rec_Check_k2 C v108_2 w Q))
def rec_Check_j4 (C : Comb) (v1_1 : Value) (dv_3 : Nat → Value) (vs_3 : List Value) (w : World) (Q : Value → World → Prop) : Prop :=
  C.join (fun dv_4 vs_4 w => rec_Check_j3 C v1_1 dv_4 vs_4 w Q) (fun j_4 =>
  C.step (sFieldAddr 41 v1_1 0) w fun v77_1 w =>
  C.step (sLoad 33 v77_1) w fun v78_1 w =>
  C.step (sBin .neq 33 (.tmp 78) (.const (.int .i64 8)) v78_1 (.int .i64 8)) w fun v79_1 w =>
  C.bool v79_1
  (C.bool (vs_3.getD 0 undef)
  (C.step (sFieldAddr 41 v1_1 7) w fun v82_1 w =>
  C.step (sLoad 38 v82_1) w fun v83_1 w =>
  C.step (sBuiltin .len #[38] 3 [false] [v83_1]) w fun v84_1 w =>
  C.step (sBin .eql 3 (.tmp 84) (.const (.int .i64 0)) v84_1 (.int .i64 0)) w fun v85_1 w =>
  C.bool v85_1
  (C.step (sFieldAddr 41 v1_1 8) w fun v88_1 w =>
  C.step (sLoad 39 v88_1) w fun v89_1 w =>
  C.step (sBuiltin .len #[39] 3 [false] [v89_1]) w fun v90_1 w =>
  C.step (sBin .eql 3 (.tmp 90) (.const (.int .i64 0)) v90_1 (.int .i64 0)) w fun v91_1 w =>
  j_4 [v91_1] w)
  (j_4 [(.bool false)] w))
  (j_4 [(.bool false)] w))
  (j_4 [(vs_3.getD 0 undef)] w))
def rec_Check_j5 (C : Comb) (v1_1 : Value) (dv_2 : Nat → Value) (vs_2 : List Value) (w : World) (Q : Value → World → Prop) : Prop :=
  C.join (fun dv_3 vs_3 w => rec_Check_j4 C v1_1 dv_3 vs_3 w Q) (fun j_3 =>
  C.step (sFieldAddr 41 v1_1 0) w fun v57_1 w =>
  C.step (sLoad 33 v57_1) w fun v58_1 w =>
  C.calls 110 #[v58_1] w fun v59_1 w =>
  C.bool v59_1
  (C.bool (vs_2.getD 0 undef)
  (C.step (sFieldAddr 41 v1_1 2) w fun v62_1 w =>
  C.step (sLoad 3 v62_1) w fun v63_1 w =>
  C.step (sBin .eql 3 (.tmp 63) (.const (.int .i64 0)) v63_1 (.int .i64 0)) w fun v64_1 w =>
  C.bool v64_1
  (C.step (sFieldAddr 41 v1_1 3) w fun v67_1 w =>
  C.step (sLoad 34 v67_1) w fun v68_1 w =>
  C.step (sBin .eql 34 (.tmp 68) (.const (.int .u64 0)) v68_1 (.int .u64 0)) w fun v69_1 w =>
  j_3 [v69_1] w)
  (j_3 [(.bool false)] w))
  (j_3 [(.bool false)] w))
  (C.bool (vs_2.getD 0 undef)
  (C.step (sFieldAddr 41 v1_1 2) w fun v73_1 w =>
  C.step (sLoad 3 v73_1) w fun v74_1 w =>
  C.calls 111 #[v74_1] w fun v75_1 w =>
  j_3 [v75_1] w)
  (j_3 [(.bool false)] w)))
def rec_Check_j6 (C : Comb) (v1_1 : Value) (dv_1 : Nat → Value) (vs_1 : List Value) (w : World) (Q : Value → World → Prop) : Prop :=
  C.join (fun dv_2 vs_2 w => rec_Check_j5 C v1_1 dv_2 vs_2 w Q) (fun j_2 =>
  C.step (sFieldAddr 41 v1_1 0) w fun v31_1 w =>
  C.step (sLoad 33 v31_1) w fun v32_1 w =>
  C.calls 96 #[v32_1] w fun v33_1 w =>
  C.bool v33_1
  (C.bool (vs_1.getD 0 undef)
  (C.step (sFieldAddr 41 v1_1 5) w fun v36_1 w =>
  C.step (sLoad 3 v36_1) w fun v37_1 w =>
  C.calls 108 #[v37_1] w fun v38_1 w =>
  C.bool v38_1
  (C.step (sFieldAddr 41 v1_1 6) w fun v41_1 w =>
  C.step (sLoad 37 v41_1) w fun v42_1 w =>
  C.calls 109 #[v42_1] w fun v43_1 w =>
  j_2 [v43_1] w)
  (j_2 [(.bool false)] w))
  (j_2 [(.bool false)] w))
  (C.bool (vs_1.getD 0 undef)
  (C.step (sFieldAddr 41 v1_1 5) w fun v47_1 w =>
  C.step (sLoad 3 v47_1) w fun v48_1 w =>
  C.step (sBin .eql 3 (.tmp 48) (.const (.int .i64 0)) v48_1 (.int .i64 0)) w fun v49_1 w =>
  C.bool v49_1
  (C.step (sFieldAddr 41 v1_1 6) w fun v52_1 w =>
  C.step (sLoad 37 v52_1) w fun v53_1 w =>
  C.step (sBuild 37 []) w fun v54_1 w =>
  C.step (sBin .eql 37 (.tmp 53) (.tmp 54) v53_1 v54_1) w fun v55_1 w =>
  j_2 [v55_1] w)
  (j_2 [(.bool false)] w))
  (j_2 [(.bool false)] w)))
def rec_Check_x (C : Comb) (a0 : Value) (w : World) (Q : Value → World → Prop) : Prop :=
  C.step (sBox 41 a0) w fun v1_1 w =>
  C.join (fun dv_1 vs_1 w => rec_Check_j6 C v1_1 dv_1 vs_1 w Q) (fun j_1 =>
  C.step (sFieldAddr 41 v1_1 0) w fun v4_1 w =>
  C.step (sLoad 33 v4_1) w fun v5_1 w =>
  C.step (sBin .gtr 33 (.tmp 5) (.const (.int .i64 0)) v5_1 (.int .i64 0)) w fun v6_1 w =>
  C.bool v6_1
  (C.step (sFieldAddr 41 v1_1 0) w fun v8_1 w =>
  C.step (sLoad 33 v8_1) w fun v9_1 w =>
  C.step (sBin .lss 33 (.tmp 9) (.const (.int .i64 9)) v9_1 (.int .i64 9)) w fun v10_1 w =>
  C.bool v10_1
  (C.step (sFieldAddr 41 v1_1 1) w fun v13_1 w =>
  C.step (sLoad 34 v13_1) w fun v14_1 w =>
  C.calls 107 #[v14_1] w fun v15_1 w =>
  C.bool v15_1
  (C.step (sFieldAddr 41 v1_1 3) w fun v18_1 w =>
  C.step (sLoad 34 v18_1) w fun v19_1 w =>
  C.step (sFieldAddr 41 v1_1 1) w fun v20_1 w =>
  C.step (sLoad 34 v20_1) w fun v21_1 w =>
  C.step (sBin .lss 34 (.tmp 19) (.tmp 21) v19_1 v21_1) w fun v22_1 w =>
  C.bool v22_1
  (C.step (sFieldAddr 41 v1_1 4) w fun v25_1 w =>
  C.step (sLoad 34 v25_1) w fun v26_1 w =>
  C.step (sFieldAddr 41 v1_1 1) w fun v27_1 w =>
  C.step (sLoad 34 v27_1) w fun v28_1 w =>
  C.step (sBin .lss 34 (.tmp 26) (.tmp 28) v26_1 v28_1) w fun v29_1 w =>
  j_1 [v29_1] w)
  (j_1 [(.bool false)] w))
  (j_1 [(.bool false)] w))
  (j_1 [(.bool false)] w))
  (j_1 [(.bool false)] w))
theorem rec_Check_eq (C : Comb) (a0 : Value) (w : World) (Q : Value → World → Prop) : rec_Check_x C a0 w Q = FunY Try.prog C 2 [2, 5, 8, 10] Try.f93 [a0] w Q := by kernel_rfl
theorem rec_Check_sound (a0 : Value) {w : World} {Q : Value → World → Prop} (h : rec_Check_x (std Try.prog) a0 w Q) : CallsR Try.prog 93 #[a0] w Q :=
  calls_of_funY mixed Try.func93 (Eq.mp (rec_Check_eq _ a0 w Q) h)

def enc_Writer_Byte_x (C : Comb) (a0 : Value) (a1 : Value) (w : World) (Q : Value → World → Prop) : Prop :=
  C.step (sConv 5 32 a1) w fun v6_1 w =>
  C.calls 68 #[a0, v6_1, (.int .i64 1)] w fun v7_1 w =>
  Q (.tuple #[]) w
theorem enc_Writer_Byte_eq (C : Comb) (a0 : Value) (a1 : Value) (w : World) (Q : Value → World → Prop) : enc_Writer_Byte_x C a0 a1 w Q = FunY Try.prog C 4 [] Try.f94 [a0, a1] w Q := by kernel_rfl
theorem enc_Writer_Byte_sound (a0 : Value) (a1 : Value) {w : World} {Q : Value → World → Prop} (h : enc_Writer_Byte_x (std Try.prog) a0 a1 w Q) : CallsR Try.prog 94 #[a0, a1] w Q :=
  calls_of_funY mixed Try.func94 (Eq.mp (enc_Writer_Byte_eq _ a0 a1 w Q) h)

def enc_Writer_Eight_x (C : Comb) (a0 : Value) (a1 : Value) (w : World) (Q : Value → World → Prop) : Prop :=
  C.calls 68 #[a0, a1, (.int .i64 8)] w fun v6_1 w =>
  Q (.tuple #[]) w
theorem enc_Writer_Eight_eq (C : Comb) (a0 : Value) (a1 : Value) (w : World) (Q : Value → World → Prop) : enc_Writer_Eight_x C a0 a1 w Q = FunY Try.prog C 4 [] Try.f95 [a0, a1] w Q := by kernel_rfl
theorem enc_Writer_Eight_sound (a0 : Value) (a1 : Value) {w : World} {Q : Value → World → Prop} (h : enc_Writer_Eight_x (std Try.prog) a0 a1 w Q) : CallsR Try.prog 95 #[a0, a1] w Q :=
  calls_of_funY mixed Try.func95 (Eq.mp (enc_Writer_Eight_eq _ a0 a1 w Q) h)

def rec_changes_x (C : Comb) (a0 : Value) (w : World) (Q : Value → World → Prop) : Prop :=
  C.step (sBin .eql 33 (.tmp 3) (.const (.int .i64 1)) a0 (.int .i64 1)) w fun v4_1 w =>
  C.bool v4_1
  (Q (.bool true) w)
  (C.step (sBin .eql 33 (.tmp 6) (.const (.int .i64 2)) a0 (.int .i64 2)) w fun v7_1 w =>
  Q v7_1 w)
theorem rec_changes_eq (C : Comb) (a0 : Value) (w : World) (Q : Value → World → Prop) : rec_changes_x C a0 w Q = FunY Try.prog C 2 [] Try.f96 [a0] w Q := by kernel_rfl
theorem rec_changes_sound (a0 : Value) {w : World} {Q : Value → World → Prop} (h : rec_changes_x (std Try.prog) a0 w Q) : CallsR Try.prog 96 #[a0] w Q :=
  calls_of_funY mixed Try.func96 (Eq.mp (rec_changes_eq _ a0 w Q) h)

def enc_Writer_Text_k1 (C : Comb) (a0 : Value) (u1_1 : Value) (w : World) (Q : Value → World → Prop) : Prop :=
  C.step (sBuiltin .len #[9] 3 [false] [u1_1]) w fun v13_1 w =>
  C.step (sConv 3 32 v13_1) w fun v14_1 w =>
  C.calls 68 #[a0, v14_1, (.int .i64 2)] w fun v15_1 w =>
  C.step (sNil a0) w fun v18_1 w =>
  C.step (sFieldAddr 129 v18_1 0) w fun v19_1 w =>
  C.step (sFieldAddr 127 v19_1 0) w fun v20_1 w =>
  C.step (sLoad 51 v20_1) w fun v21_1 w =>
  C.step (sBuiltin .append #[51, 9] 51 [false, false] [v21_1, u1_1]) w fun v23_1 w =>
  C.step (sNil a0) w fun v24_1 w =>
  C.step (sFieldAddr 129 v24_1 0) w fun v25_1 w =>
  C.step (sFieldAddr 127 v25_1 0) w fun v26_1 w =>
  C.step (sStore 51 v26_1 v23_1) w fun vx_1 w =>
  Q (.tuple #[]) w
def enc_Writer_Text_x (C : Comb) (a0 : Value) (a1 : Value) (w : World) (Q : Value → World → Prop) : Prop :=
  C.step (sBin .eql 101 (.tmp 4) (.const (.pointer none)) a0 (.pointer none)) w fun v5_1 w =>
  C.bool v5_1
  (Q (.tuple #[]) w)
  (C.step (sBuiltin .len #[9] 3 [false] [a1]) w fun v7_1 w =>
  C.step (sBin .gtr 3 (.tmp 7) (.const (.int .i64 65535)) v7_1 (.int .i64 65535)) w fun v8_1 w =>
  C.bool v8_1
  (C.step (sSlice 9 a1 none (some (.int .i64 65535)) none) w fun v10_1 w =>
  enc_Writer_Text_k1 C a0 v10_1 w Q)
  (enc_Writer_Text_k1 C a0 a1 w Q))
theorem enc_Writer_Text_eq (C : Comb) (a0 : Value) (a1 : Value) (w : World) (Q : Value → World → Prop) : enc_Writer_Text_x C a0 a1 w Q = FunY Try.prog C 4 [] Try.f97 [a0, a1] w Q := by kernel_rfl
theorem enc_Writer_Text_sound (a0 : Value) (a1 : Value) {w : World} {Q : Value → World → Prop} (h : enc_Writer_Text_x (std Try.prog) a0 a1 w Q) : CallsR Try.prog 97 #[a0, a1] w Q :=
  calls_of_funY mixed Try.func97 (Eq.mp (enc_Writer_Text_eq _ a0 a1 w Q) h)

def crc_steps_k1 (C : Comb) (v0_1 : Value) (v1_1 : Value) (w : World) (Q : Value → World → Prop) : Prop :=
  C.step (sLoad 172 v1_1) w fun v24_1 w =>
  C.step (sStore 172 v0_1 v24_1) w fun vx_1 w =>
  C.loadR 172 v0_1 w fun r_1 =>
  Q r_1 w
def crc_steps_k2 (C : Comb) (v1_1 : Value) (vs_1 : List Value) (again_1 : List Value → World → Prop) (u3_2 : Value) (w : World) (Q : Value → World → Prop) : Prop :=
  C.step (sIndexAddr 172 v1_1 (vs_1.getD 2 undef)) w fun v22_1 w =>
  C.step (sStore 104 v22_1 u3_2) w fun vx_2 w =>
  C.step (sBin .add 3 (.tmp 4) (.const (.int .i64 1)) (vs_1.getD 2 undef) (.int .i64 1)) w fun v23_1 w =>
  again_1 [(vs_1.getD 2 undef), u3_2, v23_1] w
def crc_steps_k3 (C : Comb) (vs_2 : List Value) (again_2 : List Value → World → Prop) (u3_3 : Value) (w : World) (Q : Value → World → Prop) : Prop :=
  C.step (sBin .add 3 (.tmp 9) (.const (.int .i64 1)) (vs_2.getD 1 undef) (.int .i64 1)) w fun v19_1 w =>
  again_2 [u3_3, v19_1] w
def crc_steps_x (C : Comb) (w : World) (Q : Value → World → Prop) : Prop :=
  C.step (sAlloc 172) w fun v0_1 w =>
  C.step (sAlloc 172) w fun v1_1 w =>
  C.loop [undef, undef, (.int .i64 0)] w fun dv_1 vs_1 w again_1 =>
  C.step (sBin .lss 3 (.tmp 4) (.const (.int .i64 16)) (vs_1.getD 2 undef) (.int .i64 16)) w fun v5_1 w =>
  C.bool v5_1
  (C.step (sConv 3 104 (vs_1.getD 2 undef)) w fun v8_1 w =>
  C.loop [v8_1, (.int .i64 0)] w fun dv_2 vs_2 w again_2 =>
  C.step (sBin .lss 3 (.tmp 9) (.const (.int .i64 4)) (vs_2.getD 1 undef) (.int .i64 4)) w fun v10_1 w =>
  C.bool v10_1
  (C.step (sBin .and 104 (.tmp 11) (.const (.int .u32 1)) (vs_2.getD 0 undef) (.int .u32 1)) w fun v12_1 w =>
  C.step (sBin .eql 104 (.tmp 12) (.const (.int .u32 1)) v12_1 (.int .u32 1)) w fun v13_1 w =>
  C.bool v13_1
  (C.step (sBin .shr 104 (.tmp 14) (.const (.int .u64 1)) (vs_2.getD 0 undef) (.int .u64 1)) w fun v15_1 w =>
  C.step (sBin .xor 104 (.tmp 15) (.const (.int .u32 2197175160)) v15_1 (.int .u32 2197175160)) w fun v16_1 w =>
  crc_steps_k3 C vs_2 again_2 v16_1 w Q)
  (C.step (sBin .shr 104 (.tmp 17) (.const (.int .u64 1)) (vs_2.getD 0 undef) (.int .u64 1)) w fun v18_1 w =>
  crc_steps_k3 C vs_2 again_2 v18_1 w Q))
  (crc_steps_k2 C v1_1 vs_1 again_1 (vs_2.getD 0 undef) w Q))
  (crc_steps_k1 C v0_1 v1_1 w Q)
theorem crc_steps_eq (C : Comb) (w : World) (Q : Value → World → Prop) : crc_steps_x C w Q = FunY Try.prog C 4 [] Try.f98 [] w Q := by kernel_rfl
theorem crc_steps_sound {w : World} {Q : Value → World → Prop} (h : crc_steps_x (std Try.prog) w Q) : CallsR Try.prog 98 #[] w Q :=
  calls_of_funY mixed Try.func98 (Eq.mp (crc_steps_eq _ w Q) h)

def flotillaref01_Left_x (C : Comb) (a0 : Value) (w : World) (Q : Value → World → Prop) : Prop :=
  C.step (sBox 155 a0) w fun v1_1 w =>
  C.step (sFieldAddr 155 v1_1 0) w fun v3_1 w =>
  C.step (sLoad 9 v3_1) w fun v4_1 w =>
  C.step (sBuiltin .len #[9] 3 [false] [v4_1]) w fun v5_1 w =>
  C.step (sFieldAddr 155 v1_1 1) w fun v6_1 w =>
  C.step (sLoad 3 v6_1) w fun v7_1 w =>
  C.step (sBin .sub 3 (.tmp 5) (.tmp 7) v5_1 v7_1) w fun v8_1 w =>
  Q v8_1 w
theorem flotillaref01_Left_eq (C : Comb) (a0 : Value) (w : World) (Q : Value → World → Prop) : flotillaref01_Left_x C a0 w Q = FunY Try.prog C 2 [] Try.f99 [a0] w Q := by kernel_rfl
theorem flotillaref01_Left_sound (a0 : Value) {w : World} {Q : Value → World → Prop} (h : flotillaref01_Left_x (std Try.prog) a0 w Q) : CallsR Try.prog 99 #[a0] w Q :=
  calls_of_funY mixed Try.func99 (Eq.mp (flotillaref01_Left_eq _ a0 w Q) h)

def flotillaref01_TakeText_k1 (C : Comb) (v2_1 : Value) (v4_1 : Value) (v12_1 : Value) (v6_1 : Value) (u1_1 : Value) (w : World) (Q : Value → World → Prop) : Prop :=
  C.step (sConv 32 3 v12_1) w fun v20_1 w =>
  C.step (sBin .gtr 3 (.tmp 20) (.tmp 21) v20_1 u1_1) w fun v22_1 w =>
  C.bool v22_1
  (C.step (sFieldAddr 155 v2_1 2) w fun v23_1 w =>
  C.step (sStore 24 v23_1 (.int .i64 3)) w fun vx_3 w =>
  C.step (sLoad 155 v2_1) w fun v24_1 w =>
  C.step (sStore 155 v4_1 v24_1) w fun vx_4 w =>
  C.loadR 155 v4_1 w fun r_2 =>
  Q (.tuple #[r_2, (.string ⟨#[]⟩)]) w)
  (C.step (sLoad 155 v6_1) w fun v25_1 w =>
  C.calls 99 #[v25_1] w fun v26_1 w =>
  C.step (sConv 32 3 v12_1) w fun v28_1 w =>
  C.step (sBin .lss 3 (.tmp 26) (.tmp 28) v26_1 v28_1) w fun v29_1 w =>
  C.bool v29_1
  (C.step (sFieldAddr 155 v2_1 2) w fun v30_1 w =>
  C.step (sStore 24 v30_1 (.int .i64 4)) w fun vx_5 w =>
  C.step (sLoad 155 v2_1) w fun v31_1 w =>
  C.step (sStore 155 v4_1 v31_1) w fun vx_6 w =>
  C.loadR 155 v4_1 w fun r_3 =>
  Q (.tuple #[r_3, (.string ⟨#[]⟩)]) w)
  (C.step (sFieldAddr 155 v6_1 1) w fun v32_1 w =>
  C.step (sLoad 3 v32_1) w fun v33_1 w =>
  C.step (sConv 32 3 v12_1) w fun v35_1 w =>
  C.step (sBin .add 3 (.tmp 33) (.tmp 35) v33_1 v35_1) w fun v36_1 w =>
  C.step (sFieldAddr 155 v6_1 1) w fun v37_1 w =>
  C.step (sStore 3 v37_1 v36_1) w fun vx_7 w =>
  C.draw w fun S_1 w =>
  C.stepS S_1 (sLoad 155 v6_1) fun v38_1 =>
  C.stepS S_1 (sFieldAddr 155 v2_1 0) fun v39_1 =>
  C.stepS S_1 (sLoad 9 v39_1) fun v40_1 =>
  C.stepS S_1 (sFieldAddr 155 v6_1 1) fun v41_1 =>
  C.stepS S_1 (sLoad 3 v41_1) fun v42_1 =>
  C.stepS S_1 (sConv 32 3 v12_1) fun v44_1 =>
  C.stepS S_1 (sBin .sub 3 (.tmp 42) (.tmp 44) v42_1 v44_1) fun v45_1 =>
  C.stepS S_1 (sFieldAddr 155 v6_1 1) fun v46_1 =>
  C.stepS S_1 (sLoad 3 v46_1) fun v47_1 =>
  C.stepS S_1 (sSlice 9 v40_1 (some v45_1) (some v47_1) none) fun v48_1 =>
  C.step (sStore 155 v4_1 v38_1) w fun vx_8 w =>
  C.keepS S_1 w fun S_2 =>
  C.loadR 155 v4_1 w fun r_4 =>
  Q (.tuple #[r_4, v48_1]) w))
def flotillaref01_TakeText_x (C : Comb) (a0 : Value) (a1 : Value) (w : World) (Q : Value → World → Prop) : Prop :=
  C.step (sBox 155 a0) w fun v2_1 w =>
  C.step (sAlloc 155) w fun v4_1 w =>
  C.step (sLoad 155 v2_1) w fun v9_1 w =>
  C.calls 85 #[v9_1, (.int .i64 2)] w fun v10_1 w =>
  C.step (sExtract v10_1 0) w fun v11_1 w =>
  C.step (sExtract v10_1 1) w fun v12_1 w =>
  C.step (sAlloc 155) w fun v6_1 w =>
  C.step (sStore 155 v6_1 v11_1) w fun vx_1 w =>
  C.step (sFieldAddr 155 v6_1 2) w fun v13_1 w =>
  C.step (sLoad 24 v13_1) w fun v14_1 w =>
  C.step (sBin .neq 24 (.tmp 14) (.const (.int .i64 0)) v14_1 (.int .i64 0)) w fun v15_1 w =>
  C.bool v15_1
  (C.step (sLoad 155 v6_1) w fun v16_1 w =>
  C.step (sStore 155 v4_1 v16_1) w fun vx_2 w =>
  C.loadR 155 v4_1 w fun r_1 =>
  Q (.tuple #[r_1, (.string ⟨#[]⟩)]) w)
  (C.step (sBin .lss 3 (.tmp 17) (.const (.int .i64 0)) a1 (.int .i64 0)) w fun v18_1 w =>
  C.bool v18_1
  (flotillaref01_TakeText_k1 C v2_1 v4_1 v12_1 v6_1 (.int .i64 0) w Q)
  (flotillaref01_TakeText_k1 C v2_1 v4_1 v12_1 v6_1 a1 w Q))
theorem flotillaref01_TakeText_eq (C : Comb) (a0 : Value) (a1 : Value) (w : World) (Q : Value → World → Prop) : flotillaref01_TakeText_x C a0 a1 w Q = FunY Try.prog C 8 [] Try.f100 [a0, a1] w Q := by kernel_rfl
theorem flotillaref01_TakeText_sound (a0 : Value) (a1 : Value) {w : World} {Q : Value → World → Prop} (h : flotillaref01_TakeText_x (std Try.prog) a0 a1 w Q) : CallsR Try.prog 100 #[a0, a1] w Q :=
  calls_of_funY mixed Try.func100 (Eq.mp (flotillaref01_TakeText_eq _ a0 a1 w Q) h)

def enc_Reader_take_x (C : Comb) (a0 : Value) (a1 : Value) (w : World) (Q : Value → World → Prop) : Prop :=
  C.step (sBin .eql 146 (.tmp 6) (.const (.pointer none)) a0 (.pointer none)) w fun v7_1 w =>
  C.bool v7_1
  (Q (.slice none 0 0) w)
  (C.step (sNil a0) w fun v10_1 w =>
  C.step (sFieldAddr 163 v10_1 1) w fun v11_1 w =>
  C.step (sLoad 24 v11_1) w fun v12_1 w =>
  C.step (sBin .neq 24 (.tmp 12) (.const (.int .i64 0)) v12_1 (.int .i64 0)) w fun v13_1 w =>
  C.bool v13_1
  (Q (.slice none 0 0) w)
  (C.step (sNil a0) w fun v16_1 w =>
  C.step (sFieldAddr 163 v16_1 0) w fun v17_1 w =>
  C.step (sFieldAddr 127 v17_1 0) w fun v18_1 w =>
  C.step (sLoad 51 v18_1) w fun v19_1 w =>
  C.step (sBuiltin .len #[51] 3 [false] [v19_1]) w fun v20_1 w =>
  C.step (sBin .lss 3 (.tmp 20) (.tmp 21) v20_1 a1) w fun v22_1 w =>
  C.bool v22_1
  (C.step (sNil a0) w fun v24_1 w =>
  C.step (sFieldAddr 163 v24_1 1) w fun v25_1 w =>
  C.step (sStore 24 v25_1 (.int .i64 4)) w fun vx_1 w =>
  Q (.slice none 0 0) w)
  (C.step (sNil a0) w fun v27_1 w =>
  C.step (sFieldAddr 163 v27_1 0) w fun v28_1 w =>
  C.step (sFieldAddr 127 v28_1 0) w fun v29_1 w =>
  C.step (sLoad 51 v29_1) w fun v30_1 w =>
  C.step (sSlice 51 v30_1 none (some a1) none) w fun v32_1 w =>
  C.step (sNil a0) w fun v35_1 w =>
  C.step (sFieldAddr 163 v35_1 0) w fun v36_1 w =>
  C.step (sFieldAddr 127 v36_1 0) w fun v37_1 w =>
  C.step (sLoad 51 v37_1) w fun v38_1 w =>
  C.step (sSlice 51 v38_1 (some a1) none none) w fun v40_1 w =>
  C.step (sNil a0) w fun v41_1 w =>
  C.step (sFieldAddr 163 v41_1 0) w fun v42_1 w =>
  C.step (sFieldAddr 127 v42_1 0) w fun v43_1 w =>
  C.step (sStore 51 v43_1 v40_1) w fun vx_2 w =>
  Q v32_1 w)))
theorem enc_Reader_take_eq (C : Comb) (a0 : Value) (a1 : Value) (w : World) (Q : Value → World → Prop) : enc_Reader_take_x C a0 a1 w Q = FunY Try.prog C 6 [] Try.f101 [a0, a1] w Q := by kernel_rfl
theorem enc_Reader_take_sound (a0 : Value) (a1 : Value) {w : World} {Q : Value → World → Prop} (h : enc_Reader_take_x (std Try.prog) a0 a1 w Q) : CallsR Try.prog 101 #[a0, a1] w Q :=
  calls_of_funY mixed Try.func101 (Eq.mp (enc_Reader_take_eq _ a0 a1 w Q) h)

def enc_Reader_Byte_x (C : Comb) (a0 : Value) (w : World) (Q : Value → World → Prop) : Prop :=
  C.calls 90 #[a0, (.int .i64 1)] w fun v4_1 w =>
  C.step (sConv 32 5 v4_1) w fun v5_1 w =>
  Q v5_1 w
theorem enc_Reader_Byte_eq (C : Comb) (a0 : Value) (w : World) (Q : Value → World → Prop) : enc_Reader_Byte_x C a0 w Q = FunY Try.prog C 2 [] Try.f102 [a0] w Q := by kernel_rfl
theorem enc_Reader_Byte_sound (a0 : Value) {w : World} {Q : Value → World → Prop} (h : enc_Reader_Byte_x (std Try.prog) a0 w Q) : CallsR Try.prog 102 #[a0] w Q :=
  calls_of_funY mixed Try.func102 (Eq.mp (enc_Reader_Byte_eq _ a0 w Q) h)

def enc_Reader_Eight_x (C : Comb) (a0 : Value) (w : World) (Q : Value → World → Prop) : Prop :=
  C.calls 90 #[a0, (.int .i64 8)] w fun v4_1 w =>
  Q v4_1 w
theorem enc_Reader_Eight_eq (C : Comb) (a0 : Value) (w : World) (Q : Value → World → Prop) : enc_Reader_Eight_x C a0 w Q = FunY Try.prog C 2 [] Try.f103 [a0] w Q := by kernel_rfl
theorem enc_Reader_Eight_sound (a0 : Value) {w : World} {Q : Value → World → Prop} (h : enc_Reader_Eight_x (std Try.prog) a0 w Q) : CallsR Try.prog 103 #[a0] w Q :=
  calls_of_funY mixed Try.func103 (Eq.mp (enc_Reader_Eight_eq _ a0 w Q) h)

def enc_Reader_Text_k1 (C : Comb) (a0 : Value) (v21_1 : Value) (v24_1 : Value) (w : World) (Q : Value → World → Prop) : Prop :=
  C.calls 101 #[a0, v24_1] w fun v41_1 w =>
  C.step (sConv 51 9 v41_1) w fun v42_1 w =>
  C.step (sNil a0) w fun v44_1 w =>
  C.step (sFieldAddr 163 v44_1 1) w fun v45_1 w =>
  C.step (sLoad 24 v45_1) w fun v46_1 w =>
  C.step (sBin .neq 24 (.tmp 46) (.const (.int .i64 0)) v46_1 (.int .i64 0)) w fun v47_1 w =>
  C.bool v47_1
  (C.step (sNil a0) w fun v50_1 w =>
  C.step (sFieldAddr 163 v50_1 0) w fun v51_1 w =>
  C.step (sFieldAddr 127 v51_1 0) w fun v52_1 w =>
  C.step (sStore 51 v52_1 v21_1) w fun vx_1 w =>
  Q (.string ⟨#[]⟩) w)
  (Q v42_1 w)
def enc_Reader_Text_x (C : Comb) (a0 : Value) (a1 : Value) (w : World) (Q : Value → World → Prop) : Prop :=
  C.step (sBin .eql 146 (.tmp 8) (.const (.pointer none)) a0 (.pointer none)) w fun v9_1 w =>
  C.bool v9_1
  (Q (.string ⟨#[]⟩) w)
  (C.step (sNil a0) w fun v12_1 w =>
  C.step (sFieldAddr 163 v12_1 1) w fun v13_1 w =>
  C.step (sLoad 24 v13_1) w fun v14_1 w =>
  C.step (sBin .neq 24 (.tmp 14) (.const (.int .i64 0)) v14_1 (.int .i64 0)) w fun v15_1 w =>
  C.bool v15_1
  (Q (.string ⟨#[]⟩) w)
  (C.step (sNil a0) w fun v18_1 w =>
  C.step (sFieldAddr 163 v18_1 0) w fun v19_1 w =>
  C.step (sFieldAddr 127 v19_1 0) w fun v20_1 w =>
  C.step (sLoad 51 v20_1) w fun v21_1 w =>
  C.calls 90 #[a0, (.int .i64 2)] w fun v23_1 w =>
  C.step (sConv 32 3 v23_1) w fun v24_1 w =>
  C.step (sNil a0) w fun v26_1 w =>
  C.step (sFieldAddr 163 v26_1 1) w fun v27_1 w =>
  C.step (sLoad 24 v27_1) w fun v28_1 w =>
  C.step (sBin .eql 24 (.tmp 28) (.const (.int .i64 0)) v28_1 (.int .i64 0)) w fun v29_1 w =>
  C.bool v29_1
  (C.step (sBuiltin .max #[3, 3] 3 [false, true] [a1, (.int .i64 0)]) w fun v33_1 w =>
  C.step (sBin .gtr 3 (.tmp 31) (.tmp 33) v24_1 v33_1) w fun v34_1 w =>
  C.bool v34_1
  (C.step (sNil a0) w fun v37_1 w =>
  C.step (sFieldAddr 163 v37_1 1) w fun v38_1 w =>
  C.step (sStore 24 v38_1 (.int .i64 3)) w fun vx_2 w =>
  enc_Reader_Text_k1 C a0 v21_1 v24_1 w Q)
  (enc_Reader_Text_k1 C a0 v21_1 v24_1 w Q))
  (enc_Reader_Text_k1 C a0 v21_1 v24_1 w Q)))
theorem enc_Reader_Text_eq (C : Comb) (a0 : Value) (a1 : Value) (w : World) (Q : Value → World → Prop) : enc_Reader_Text_x C a0 a1 w Q = FunY Try.prog C 8 [] Try.f105 [a0, a1] w Q := by kernel_rfl
theorem enc_Reader_Text_sound (a0 : Value) (a1 : Value) {w : World} {Q : Value → World → Prop} (h : enc_Reader_Text_x (std Try.prog) a0 a1 w Q) : CallsR Try.prog 105 #[a0, a1] w Q :=
  calls_of_funY mixed Try.func105 (Eq.mp (enc_Reader_Text_eq _ a0 a1 w Q) h)

def enc_Reader_End_k1 (C : Comb) (v5_1 : Value) (w : World) (Q : Value → World → Prop) : Prop :=
  Q v5_1 w
def enc_Reader_End_x (C : Comb) (a0 : Value) (w : World) (Q : Value → World → Prop) : Prop :=
  C.calls 80 #[a0] w fun v5_1 w =>
  C.step (sBin .eql 24 (.tmp 6) (.const (.int .i64 0)) v5_1 (.int .i64 0)) w fun v7_1 w =>
  C.bool v7_1
  (C.step (sNil a0) w fun v10_1 w =>
  C.step (sFieldAddr 163 v10_1 0) w fun v11_1 w =>
  C.step (sFieldAddr 127 v11_1 0) w fun v12_1 w =>
  C.step (sLoad 51 v12_1) w fun v13_1 w =>
  C.step (sBuiltin .len #[51] 3 [false] [v13_1]) w fun v14_1 w =>
  C.step (sBin .gtr 3 (.tmp 14) (.const (.int .i64 0)) v14_1 (.int .i64 0)) w fun v15_1 w =>
  C.bool v15_1
  (Q (.int .i64 5) w)
  (enc_Reader_End_k1 C v5_1 w Q))
  (enc_Reader_End_k1 C v5_1 w Q)
theorem enc_Reader_End_eq (C : Comb) (a0 : Value) (w : World) (Q : Value → World → Prop) : enc_Reader_End_x C a0 w Q = FunY Try.prog C 4 [] Try.f106 [a0] w Q := by kernel_rfl
theorem enc_Reader_End_sound (a0 : Value) {w : World} {Q : Value → World → Prop} (h : enc_Reader_End_x (std Try.prog) a0 w Q) : CallsR Try.prog 106 #[a0] w Q :=
  calls_of_funY mixed Try.func106 (Eq.mp (enc_Reader_End_eq _ a0 w Q) h)

def rec_numbered_x (C : Comb) (a0 : Value) (w : World) (Q : Value → World → Prop) : Prop :=
  C.step (sBin .geq 34 (.tmp 3) (.const (.int .u64 16)) a0 (.int .u64 16)) w fun v4_1 w =>
  C.bool v4_1
  (C.step (sBin .leq 34 (.tmp 6) (.const (.int .u64 1152921504606846991)) a0 (.int .u64 1152921504606846991)) w fun v7_1 w =>
  Q v7_1 w)
  (Q (.bool false) w)
theorem rec_numbered_eq (C : Comb) (a0 : Value) (w : World) (Q : Value → World → Prop) : rec_numbered_x C a0 w Q = FunY Try.prog C 2 [] Try.f107 [a0] w Q := by kernel_rfl
theorem rec_numbered_sound (a0 : Value) {w : World} {Q : Value → World → Prop} (h : rec_numbered_x (std Try.prog) a0 w Q) : CallsR Try.prog 107 #[a0] w Q :=
  calls_of_funY mixed Try.func107 (Eq.mp (rec_numbered_eq _ a0 w Q) h)

def rec_page_x (C : Comb) (a0 : Value) (w : World) (Q : Value → World → Prop) : Prop :=
  C.step (sBin .geq 3 (.tmp 3) (.const (.int .i64 0)) a0 (.int .i64 0)) w fun v4_1 w =>
  C.bool v4_1
  (C.step (sBin .lss 3 (.tmp 6) (.const (.int .i64 16)) a0 (.int .i64 16)) w fun v7_1 w =>
  Q v7_1 w)
  (Q (.bool false) w)
theorem rec_page_eq (C : Comb) (a0 : Value) (w : World) (Q : Value → World → Prop) : rec_page_x C a0 w Q = FunY Try.prog C 2 [] Try.f108 [a0] w Q := by kernel_rfl
theorem rec_page_sound (a0 : Value) {w : World} {Q : Value → World → Prop} (h : rec_page_x (std Try.prog) a0 w Q) : CallsR Try.prog 108 #[a0] w Q :=
  calls_of_funY mixed Try.func108 (Eq.mp (rec_page_eq _ a0 w Q) h)

def rec_mayAct_k1 (C : Comb) (w : World) (Q : Value → World → Prop) : Prop :=
  Q (.bool false) w
def rec_mayAct_x (C : Comb) (a0 : Value) (w : World) (Q : Value → World → Prop) : Prop :=
  C.step (sBox 37 a0) w fun v1_1 w =>
  C.step (sFieldAddr 37 v1_1 1) w fun v3_1 w =>
  C.step (sLoad 9 v3_1) w fun v4_1 w =>
  C.step (sBuiltin .len #[9] 3 [false] [v4_1]) w fun v5_1 w =>
  C.step (sBin .lss 3 (.tmp 5) (.const (.int .i64 1)) v5_1 (.int .i64 1)) w fun v6_1 w =>
  C.bool v6_1
  (rec_mayAct_k1 C w Q)
  (C.step (sFieldAddr 37 v1_1 1) w fun v8_1 w =>
  C.step (sLoad 9 v8_1) w fun v9_1 w =>
  C.step (sBuiltin .len #[9] 3 [false] [v9_1]) w fun v10_1 w =>
  C.step (sBin .gtr 3 (.tmp 10) (.const (.int .i64 16)) v10_1 (.int .i64 16)) w fun v11_1 w =>
  C.bool v11_1
  (rec_mayAct_k1 C w Q)
  (C.step (sFieldAddr 37 v1_1 2) w fun v14_1 w =>
  C.step (sLoad 9 v14_1) w fun v15_1 w =>
  C.step (sBuiltin .len #[9] 3 [false] [v15_1]) w fun v16_1 w =>
  C.step (sBin .gtr 3 (.tmp 16) (.const (.int .i64 32)) v16_1 (.int .i64 32)) w fun v17_1 w =>
  C.bool v17_1
  (rec_mayAct_k1 C w Q)
  (C.step (sFieldAddr 37 v1_1 3) w fun v20_1 w =>
  C.step (sLoad 9 v20_1) w fun v21_1 w =>
  C.step (sBuiltin .len #[9] 3 [false] [v21_1]) w fun v22_1 w =>
  C.step (sBin .gtr 3 (.tmp 22) (.const (.int .i64 32)) v22_1 (.int .i64 32)) w fun v23_1 w =>
  C.bool v23_1
  (Q (.bool false) w)
  (C.step (sFieldAddr 37 v1_1 0) w fun v25_1 w =>
  C.step (sLoad 35 v25_1) w fun v26_1 w =>
  C.step (sBin .eql 35 (.tmp 26) (.const (.int .i64 1)) v26_1 (.int .i64 1)) w fun v28_1 w =>
  C.bool v28_1
  (C.step (sFieldAddr 37 v1_1 2) w fun v29_1 w =>
  C.step (sLoad 9 v29_1) w fun v30_1 w =>
  C.step (sBin .eql 9 (.tmp 30) (.const (.string ⟨#[]⟩)) v30_1 (.string ⟨#[]⟩)) w fun v31_1 w =>
  Q v31_1 w)
  (C.step (sBin .eql 35 (.tmp 26) (.const (.int .i64 2)) v26_1 (.int .i64 2)) w fun v33_1 w =>
  C.bool v33_1
  (Q (.bool true) w)
  (C.step (sBin .eql 35 (.tmp 26) (.const (.int .i64 3)) v26_1 (.int .i64 3)) w fun v35_1 w =>
  C.bool v35_1
  (C.step (sFieldAddr 37 v1_1 3) w fun v36_1 w =>
  C.step (sLoad 9 v36_1) w fun v37_1 w =>
  C.step (sBin .eql 9 (.tmp 37) (.const (.string ⟨#[]⟩)) v37_1 (.string ⟨#[]⟩)) w fun v38_1 w =>
  Q v38_1 w)
  (Q (.bool false) w)))))))
theorem rec_mayAct_eq (C : Comb) (a0 : Value) (w : World) (Q : Value → World → Prop) : rec_mayAct_x C a0 w Q = FunY Try.prog C 2 [] Try.f109 [a0] w Q := by kernel_rfl
theorem rec_mayAct_sound (a0 : Value) {w : World} {Q : Value → World → Prop} (h : rec_mayAct_x (std Try.prog) a0 w Q) : CallsR Try.prog 109 #[a0] w Q :=
  calls_of_funY mixed Try.func109 (Eq.mp (rec_mayAct_eq _ a0 w Q) h)

def rec_points_x (C : Comb) (a0 : Value) (w : World) (Q : Value → World → Prop) : Prop :=
  C.step (sBin .eql 33 (.tmp 3) (.const (.int .i64 7)) a0 (.int .i64 7)) w fun v4_1 w =>
  C.bool v4_1
  (Q (.bool true) w)
  (C.step (sBin .eql 33 (.tmp 6) (.const (.int .i64 8)) a0 (.int .i64 8)) w fun v7_1 w =>
  Q v7_1 w)
theorem rec_points_eq (C : Comb) (a0 : Value) (w : World) (Q : Value → World → Prop) : rec_points_x C a0 w Q = FunY Try.prog C 2 [] Try.f110 [a0] w Q := by kernel_rfl
theorem rec_points_sound (a0 : Value) {w : World} {Q : Value → World → Prop} (h : rec_points_x (std Try.prog) a0 w Q) : CallsR Try.prog 110 #[a0] w Q :=
  calls_of_funY mixed Try.func110 (Eq.mp (rec_points_eq _ a0 w Q) h)

def rec_txn_x (C : Comb) (a0 : Value) (w : World) (Q : Value → World → Prop) : Prop :=
  C.step (sBin .geq 3 (.tmp 3) (.const (.int .i64 1)) a0 (.int .i64 1)) w fun v4_1 w =>
  C.bool v4_1
  (C.step (sBin .leq 3 (.tmp 6) (.const (.int .i64 1073741824)) a0 (.int .i64 1073741824)) w fun v7_1 w =>
  Q v7_1 w)
  (Q (.bool false) w)
theorem rec_txn_eq (C : Comb) (a0 : Value) (w : World) (Q : Value → World → Prop) : rec_txn_x C a0 w Q = FunY Try.prog C 2 [] Try.f111 [a0] w Q := by kernel_rfl
theorem rec_txn_sound (a0 : Value) {w : World} {Q : Value → World → Prop} (h : rec_txn_x (std Try.prog) a0 w Q) : CallsR Try.prog 111 #[a0] w Q :=
  calls_of_funY mixed Try.func111 (Eq.mp (rec_txn_eq _ a0 w Q) h)

def rec_tables_k2 (C : Comb) (w : World) (Q : Value → World → Prop) : Prop :=
  Q (.bool true) w
def rec_tables_k3 (C : Comb) (vs_1 : List Value) (again_1 : List Value → World → Prop) (w : World) (Q : Value → World → Prop) : Prop :=
  C.step (sBin .add 3 (.tmp 65) (.const (.int .i64 1)) (vs_1.getD 0 undef) (.int .i64 1)) w fun v96_1 w =>
  again_1 [v96_1] w
def rec_tables_k4 (C : Comb) (w : World) (Q : Value → World → Prop) : Prop :=
  Q (.bool false) w
def rec_tables_k1 (C : Comb) (v1_1 : Value) (w : World) (Q : Value → World → Prop) : Prop :=
  C.step (sFieldAddr 41 v1_1 8) w fun v62_1 w =>
  C.step (sLoad 39 v62_1) w fun v63_1 w =>
  C.step (sBuiltin .len #[39] 3 [false] [v63_1]) w fun v64_1 w =>
  C.loop [(.int .i64 0)] w fun dv_1 vs_1 w again_1 =>
  C.step (sBin .lss 3 (.tmp 65) (.tmp 64) (vs_1.getD 0 undef) v64_1) w fun v66_1 w =>
  C.bool v66_1
  (C.step (sIndexAddr 39 v63_1 (vs_1.getD 0 undef)) w fun v68_1 w =>
  C.step (sLoad 138 v68_1) w fun v69_1 w =>
  C.step (sAlloc 138) w fun v6_1 w =>
  C.step (sStore 138 v6_1 v69_1) w fun vx_1 w =>
  C.draw w fun S_1 w =>
  C.stepS S_1 (sFieldAddr 138 v6_1 0) fun v70_1 =>
  C.stepS S_1 (sLoad 3 v70_1) fun v71_1 =>
  C.calls 108 #[v71_1] w fun v72_1 w =>
  C.keepT w fun S_2 =>
  C.stepS S_2 (sUn .not v72_1) fun v73_1 =>
  C.bool v73_1
  (rec_tables_k4 C w Q)
  (C.stepS S_2 (sFieldAddr 138 v6_1 1) fun v75_1 =>
  C.stepS S_2 (sLoad 34 v75_1) fun v76_1 =>
  C.calls 107 #[v76_1] w fun v77_1 w =>
  C.keepT w fun S_3 =>
  C.stepS S_3 (sUn .not v77_1) fun v78_1 =>
  C.bool v78_1
  (rec_tables_k4 C w Q)
  (C.stepS S_3 (sBin .gtr 3 (.tmp 81) (.const (.int .i64 0)) (vs_1.getD 0 undef) (.int .i64 0)) fun v82_1 =>
  C.bool v82_1
  (C.stepS S_3 (sFieldAddr 41 v1_1 8) fun v84_1 =>
  C.stepS S_3 (sLoad 39 v84_1) fun v85_1 =>
  C.stepS S_3 (sBin .sub 3 (.tmp 86) (.const (.int .i64 1)) (vs_1.getD 0 undef) (.int .i64 1)) fun v87_1 =>
  C.stepS S_3 (sIndexAddr 39 v85_1 v87_1) fun v88_1 =>
  C.stepS S_3 (sFieldAddr 138 v88_1 0) fun v89_1 =>
  C.stepS S_3 (sLoad 3 v89_1) fun v90_1 =>
  C.stepS S_3 (sFieldAddr 138 v6_1 0) fun v91_1 =>
  C.stepS S_3 (sLoad 3 v91_1) fun v92_1 =>
  C.stepS S_3 (sBin .geq 3 (.tmp 90) (.tmp 92) v90_1 v92_1) fun v93_1 =>
  C.bool v93_1
  (Q (.bool false) w)
  (rec_tables_k3 C vs_1 again_1 w Q))
  (rec_tables_k3 C vs_1 again_1 w Q))))
  (rec_tables_k2 C w Q)
def rec_tables_k5 (C : Comb) (vs_2 : List Value) (again_2 : List Value → World → Prop) (w : World) (Q : Value → World → Prop) : Prop :=
  C.step (sBin .add 3 (.tmp 20) (.const (.int .i64 1)) (vs_2.getD 0 undef) (.int .i64 1)) w fun v61_1 w =>
  again_2 [v61_1] w
def rec_tables_k6 (C : Comb) (w : World) (Q : Value → World → Prop) : Prop :=
  Q (.bool false) w
def rec_tables_x (C : Comb) (a0 : Value) (w : World) (Q : Value → World → Prop) : Prop :=
  C.step (sBox 41 a0) w fun v1_1 w =>
  C.step (sFieldAddr 41 v1_1 7) w fun v7_1 w =>
  C.step (sLoad 38 v7_1) w fun v8_1 w =>
  C.step (sBuiltin .len #[38] 3 [false] [v8_1]) w fun v9_1 w =>
  C.step (sBin .gtr 3 (.tmp 9) (.const (.int .i64 64)) v9_1 (.int .i64 64)) w fun v10_1 w =>
  C.bool v10_1
  (Q (.bool false) w)
  (C.step (sFieldAddr 41 v1_1 8) w fun v12_1 w =>
  C.step (sLoad 39 v12_1) w fun v13_1 w =>
  C.step (sBuiltin .len #[39] 3 [false] [v13_1]) w fun v14_1 w =>
  C.step (sBin .gtr 3 (.tmp 14) (.const (.int .i64 16)) v14_1 (.int .i64 16)) w fun v15_1 w =>
  C.bool v15_1
  (Q (.bool false) w)
  (C.step (sFieldAddr 41 v1_1 7) w fun v17_1 w =>
  C.step (sLoad 38 v17_1) w fun v18_1 w =>
  C.step (sBuiltin .len #[38] 3 [false] [v18_1]) w fun v19_1 w =>
  C.loop [(.int .i64 0)] w fun dv_2 vs_2 w again_2 =>
  C.step (sBin .lss 3 (.tmp 20) (.tmp 19) (vs_2.getD 0 undef) v19_1) w fun v21_1 w =>
  C.bool v21_1
  (C.step (sIndexAddr 38 v18_1 (vs_2.getD 0 undef)) w fun v23_1 w =>
  C.step (sLoad 136 v23_1) w fun v24_1 w =>
  C.step (sAlloc 136) w fun v4_1 w =>
  C.step (sStore 136 v4_1 v24_1) w fun vx_2 w =>
  C.draw w fun S_4 w =>
  C.stepS S_4 (sFieldAddr 136 v4_1 0) fun v25_1 =>
  C.stepS S_4 (sLoad 3 v25_1) fun v26_1 =>
  C.calls 111 #[v26_1] w fun v27_1 w =>
  C.keepT w fun S_5 =>
  C.stepS S_5 (sUn .not v27_1) fun v28_1 =>
  C.bool v28_1
  (rec_tables_k6 C w Q)
  (C.stepS S_5 (sFieldAddr 136 v4_1 1) fun v30_1 =>
  C.stepS S_5 (sLoad 134 v30_1) fun v31_1 =>
  C.stepS S_5 (sBin .lss 134 (.tmp 31) (.const (.int .i64 0)) v31_1 (.int .i64 0)) fun v32_1 =>
  C.bool v32_1
  (rec_tables_k6 C w Q)
  (C.stepS S_5 (sFieldAddr 136 v4_1 1) fun v35_1 =>
  C.stepS S_5 (sLoad 134 v35_1) fun v36_1 =>
  C.stepS S_5 (sBin .geq 134 (.tmp 36) (.const (.int .i64 3)) v36_1 (.int .i64 3)) fun v37_1 =>
  C.bool v37_1
  (rec_tables_k6 C w Q)
  (C.stepS S_5 (sFieldAddr 136 v4_1 2) fun v40_1 =>
  C.stepS S_5 (sLoad 34 v40_1) fun v41_1 =>
  C.calls 107 #[v41_1] w fun v42_1 w =>
  C.keepT w fun S_6 =>
  C.stepS S_6 (sUn .not v42_1) fun v43_1 =>
  C.bool v43_1
  (rec_tables_k6 C w Q)
  (C.stepS S_6 (sBin .gtr 3 (.tmp 46) (.const (.int .i64 0)) (vs_2.getD 0 undef) (.int .i64 0)) fun v47_1 =>
  C.bool v47_1
  (C.stepS S_6 (sFieldAddr 41 v1_1 7) fun v49_1 =>
  C.stepS S_6 (sLoad 38 v49_1) fun v50_1 =>
  C.stepS S_6 (sBin .sub 3 (.tmp 51) (.const (.int .i64 1)) (vs_2.getD 0 undef) (.int .i64 1)) fun v52_1 =>
  C.stepS S_6 (sIndexAddr 38 v50_1 v52_1) fun v53_1 =>
  C.stepS S_6 (sFieldAddr 136 v53_1 0) fun v54_1 =>
  C.stepS S_6 (sLoad 3 v54_1) fun v55_1 =>
  C.stepS S_6 (sFieldAddr 136 v4_1 0) fun v56_1 =>
  C.stepS S_6 (sLoad 3 v56_1) fun v57_1 =>
  C.stepS S_6 (sBin .geq 3 (.tmp 55) (.tmp 57) v55_1 v57_1) fun v58_1 =>
  C.bool v58_1
  (Q (.bool false) w)
  (rec_tables_k5 C vs_2 again_2 w Q))
  (rec_tables_k5 C vs_2 again_2 w Q))))))
  (rec_tables_k1 C v1_1 w Q)))
theorem rec_tables_eq (C : Comb) (a0 : Value) (w : World) (Q : Value → World → Prop) : rec_tables_x C a0 w Q = FunY Try.prog C 2 [] Try.f112 [a0] w Q := by kernel_rfl
theorem rec_tables_sound (a0 : Value) {w : World} {Q : Value → World → Prop} (h : rec_tables_x (std Try.prog) a0 w Q) : CallsR Try.prog 112 #[a0] w Q :=
  calls_of_funY mixed Try.func112 (Eq.mp (rec_tables_eq _ a0 w Q) h)

def wal_entry_lay_x (C : Comb) (a0 : Value) (a1 : Value) (w : World) (Q : Value → World → Prop) : Prop :=
  C.step (sBox 95 a0) w fun v2_1 w =>
  C.step (sFieldAddr 95 v2_1 1) w fun v6_1 w =>
  C.step (sLoad 51 v6_1) w fun v7_1 w =>
  C.step (sBuiltin .append #[51, 51] 51 [false, false] [a1, v7_1]) w fun v8_1 w =>
  Q v8_1 w
theorem wal_entry_lay_eq (C : Comb) (a0 : Value) (a1 : Value) (w : World) (Q : Value → World → Prop) : wal_entry_lay_x C a0 a1 w Q = FunY Try.prog C 4 [] Try.f128 [a0, a1] w Q := by kernel_rfl
theorem wal_entry_lay_sound (a0 : Value) (a1 : Value) {w : World} {Q : Value → World → Prop} (h : wal_entry_lay_x (std Try.prog) a0 a1 w Q) : CallsR Try.prog 128 #[a0, a1] w Q :=
  calls_of_funY mixed Try.func128 (Eq.mp (wal_entry_lay_eq _ a0 a1 w Q) h)

def wal_Log_Force_k1 (C : Comb) (w : World) (Q : Value → World → Prop) : Prop :=
  Q (.bool false) w
def wal_Log_Force_k3 (C : Comb) (a0 : Value) (u3_2 : Value) (u7_3 : Value) (w : World) (Q : Value → World → Prop) : Prop :=
  C.step (sBin .rem 3 (.tmp 73) (.const (.int .i64 64)) u3_2 (.int .i64 64)) w fun v74_1 w =>
  C.step (sBin .sub 3 (.tmp 72) (.tmp 74) u3_2 v74_1) w fun v75_1 w =>
  C.draw w fun S_2 w =>
  C.stepS S_2 (sNil a0) fun v77_1 =>
  C.stepS S_2 (sFieldAddr 91 v77_1 0) fun v78_1 =>
  C.stepS S_2 (sLoad 23 v78_1) fun v79_1 =>
  C.stepS S_2 (sNil a0) fun v81_1 =>
  C.stepS S_2 (sFieldAddr 91 v81_1 1) fun v82_1 =>
  C.stepS S_2 (sLoad 3 v82_1) fun v83_1 =>
  C.stepS S_2 (sBin .add 3 (.const (.int .i64 64)) (.tmp 84) (.int .i64 64) v75_1) fun v85_1 =>
  C.stepS S_2 (sSlice 51 u7_3 (some v75_1) none none) fun v88_1 =>
  C.calls 19 #[v79_1, v83_1, v85_1, v88_1] w fun v89_1 w =>
  C.keepT w fun S_3 =>
  C.stepS S_3 (sBin .neq 24 (.tmp 89) (.const (.int .i64 0)) v89_1 (.int .i64 0)) fun v90_1 =>
  C.bool v90_1
  (Q (.bool false) w)
  (C.draw w fun S_4 w =>
  C.stepS S_4 (sNil a0) fun v95_1 =>
  C.stepS S_4 (sFieldAddr 91 v95_1 2) fun v96_1 =>
  C.stepS S_4 (sLoad 87 v96_1) fun v97_1 =>
  C.stepS S_4 (sBuiltin .len #[87] 3 [false] [v97_1]) fun v98_1 =>
  C.stepS S_4 (sNil a0) fun v100_1 =>
  C.stepS S_4 (sFieldAddr 91 v100_1 3) fun v101_1 =>
  C.stepS S_4 (sLoad 3 v101_1) fun v102_1 =>
  C.stepS S_4 (sNil a0) fun v103_1 =>
  C.stepS S_4 (sFieldAddr 91 v103_1 5) fun v104_1 =>
  C.step (sStore 3 v104_1 v98_1) w fun vx_1 w =>
  C.keepS S_4 w fun S_5 =>
  C.stepS S_5 (sNil a0) fun v105_1 =>
  C.stepS S_5 (sFieldAddr 91 v105_1 6) fun v106_1 =>
  C.step (sStore 3 v106_1 v102_1) w fun vx_2 w =>
  C.keepS S_5 w fun S_6 =>
  C.stepS S_6 (sNil a0) fun v107_1 =>
  C.stepS S_6 (sFieldAddr 91 v107_1 7) fun v108_1 =>
  C.step (sStore 4 v108_1 (.bool false)) w fun vx_3 w =>
  C.keepT w fun S_7 =>
  Q (.bool true) w)
def wal_Log_Force_k2 (C : Comb) (a0 : Value) (u3_2 : Value) (u4_2 : Value) (w : World) (Q : Value → World → Prop) : Prop :=
  C.step (sBuild 97 []) w fun v59_1 w =>
  C.step (sIface 97 v59_1) w fun v60_1 w =>
  C.step (sBuildSlice 93 1 [(0, v60_1)]) w fun v61_1 w =>
  C.step (sBuiltin .append #[93, 93] 93 [false, false] [u4_2, v61_1]) w fun v62_1 w =>
  C.step (sBuiltin .len #[93] 3 [false] [v62_1]) w fun v63_1 w =>
  C.loop [(.slice none 0 0), (.int .i64 0)] w fun dv_1 vs_1 w again_1 =>
  C.step (sBin .lss 3 (.tmp 64) (.tmp 63) (vs_1.getD 1 undef) v63_1) w fun v65_1 w =>
  C.bool v65_1
  (C.step (sIndexAddr 93 v62_1 (vs_1.getD 1 undef)) w fun v66_1 w =>
  C.step (sLoad 99 v66_1) w fun v67_1 w =>
  C.step (sInvoke v67_1 "flotilla/wal.lay" [(vs_1.getD 0 undef)]) w fun v70_1 w =>
  C.step (sBin .add 3 (.tmp 64) (.const (.int .i64 1)) (vs_1.getD 1 undef) (.int .i64 1)) w fun v71_1 w =>
  again_1 [v70_1, v71_1] w)
  (wal_Log_Force_k3 C a0 u3_2 (vs_1.getD 0 undef) w Q)
def wal_Log_Force_k4 (C : Comb) (vs_2 : List Value) (again_2 : List Value → World → Prop) (v6_1 : Value) (u3_4 : Value) (w : World) (Q : Value → World → Prop) : Prop :=
  C.step (sLoad 95 v6_1) w fun v53_1 w =>
  C.step (sIface 95 v53_1) w fun v54_1 w =>
  C.step (sBuildSlice 93 1 [(0, v54_1)]) w fun v55_1 w =>
  C.step (sBuiltin .append #[93, 93] 93 [false, false] [(vs_2.getD 1 undef), v55_1]) w fun v56_1 w =>
  C.step (sBin .add 3 (.tmp 36) (.const (.int .i64 1)) (vs_2.getD 2 undef) (.int .i64 1)) w fun v57_1 w =>
  again_2 [u3_4, v56_1, v57_1] w
def wal_Log_Force_x (C : Comb) (a0 : Value) (w : World) (Q : Value → World → Prop) : Prop :=
  C.draw w fun S_1 w =>
  C.stepS S_1 (sBin .eql 28 (.tmp 10) (.const (.pointer none)) a0 (.pointer none)) fun v11_1 =>
  C.bool v11_1
  (wal_Log_Force_k1 C w Q)
  (C.stepS S_1 (sNil a0) fun v14_1 =>
  C.stepS S_1 (sFieldAddr 91 v14_1 5) fun v15_1 =>
  C.stepS S_1 (sLoad 3 v15_1) fun v16_1 =>
  C.stepS S_1 (sBin .gtr 3 (.tmp 16) (.const (.int .i64 0)) v16_1 (.int .i64 0)) fun v17_1 =>
  C.bool v17_1
  (wal_Log_Force_k1 C w Q)
  (C.stepS S_1 (sNil a0) fun v21_1 =>
  C.stepS S_1 (sFieldAddr 91 v21_1 4) fun v22_1 =>
  C.stepS S_1 (sLoad 3 v22_1) fun v23_1 =>
  C.stepS S_1 (sNil a0) fun v25_1 =>
  C.stepS S_1 (sFieldAddr 91 v25_1 2) fun v26_1 =>
  C.stepS S_1 (sLoad 87 v26_1) fun v27_1 =>
  C.stepS S_1 (sBuiltin .len #[87] 3 [false] [v27_1]) fun v28_1 =>
  C.stepS S_1 (sBin .eql 3 (.tmp 23) (.tmp 28) v23_1 v28_1) fun v29_1 =>
  C.bool v29_1
  (Q (.bool false) w)
  (C.step (sNil a0) w fun v32_1 w =>
  C.step (sFieldAddr 91 v32_1 2) w fun v33_1 w =>
  C.step (sLoad 87 v33_1) w fun v34_1 w =>
  C.step (sBuiltin .len #[87] 3 [false] [v34_1]) w fun v35_1 w =>
  C.loop [(.int .i64 0), (.slice none 0 0), (.int .i64 0)] w fun dv_2 vs_2 w again_2 =>
  C.step (sBin .lss 3 (.tmp 36) (.tmp 35) (vs_2.getD 2 undef) v35_1) w fun v37_1 w =>
  C.bool v37_1
  (C.step (sIndexAddr 87 v34_1 (vs_2.getD 2 undef)) w fun v39_1 w =>
  C.step (sLoad 95 v39_1) w fun v40_1 w =>
  C.step (sAlloc 95) w fun v6_1 w =>
  C.step (sStore 95 v6_1 v40_1) w fun vx_4 w =>
  C.step (sNil a0) w fun v43_1 w =>
  C.step (sFieldAddr 91 v43_1 4) w fun v44_1 w =>
  C.step (sLoad 3 v44_1) w fun v45_1 w =>
  C.step (sBin .lss 3 (.tmp 41) (.tmp 45) (vs_2.getD 2 undef) v45_1) w fun v46_1 w =>
  C.bool v46_1
  (C.step (sFieldAddr 95 v6_1 1) w fun v48_1 w =>
  C.step (sLoad 51 v48_1) w fun v49_1 w =>
  C.step (sBuiltin .len #[51] 3 [false] [v49_1]) w fun v50_1 w =>
  C.step (sBin .add 3 (.tmp 47) (.tmp 50) (vs_2.getD 0 undef) v50_1) w fun v51_1 w =>
  wal_Log_Force_k4 C vs_2 again_2 v6_1 v51_1 w Q)
  (wal_Log_Force_k4 C vs_2 again_2 v6_1 (vs_2.getD 0 undef) w Q))
  (wal_Log_Force_k2 C a0 (vs_2.getD 0 undef) (vs_2.getD 1 undef) w Q))))
theorem wal_Log_Force_eq (C : Comb) (a0 : Value) (w : World) (Q : Value → World → Prop) : wal_Log_Force_x C a0 w Q = FunY Try.prog C 2 [] Try.f13 [a0] w Q := by kernel_rfl
theorem wal_Log_Force_sound (a0 : Value) {w : World} {Q : Value → World → Prop} (h : wal_Log_Force_x (std Try.prog) a0 w Q) : CallsR Try.prog 13 #[a0] w Q :=
  calls_of_funY mixed Try.func13 (Eq.mp (wal_Log_Force_eq _ a0 w Q) h)

end Go.Proofs.Ytplpjikcgheiiaa
