/- Functions of the program, read as statements without slots. Written by a program of this work. -/
import Derived.Test.YtconmaojfkmlnaaXf
import Derived.Test.YtconmaojfkmlnaaProg
import Derived.KernelRfl
namespace Go.Proofs.Ytconmaojfkmlnaa
open Go Xf
set_option maxRecDepth 100000
set_option linter.unusedVariables false

theorem mixed : Try.prog.follows .mixedOrders = true := by kernel_rfl

def flotillalaw05_RecReads_k1 (C : Comb) (w : World) (Q : Value → World → Prop) : Prop :=
  Q (.bool false) w
def flotillalaw05_RecReads_x (C : Comb) (a0 : Value) (w : World) (Q : Value → World → Prop) : Prop :=
  C.step (sBuiltin .len #[22] 3 [false] [a0]) w fun v15_1 w =>
  C.step (sBin .gtr 3 (.tmp 15) (.const (.int .i64 20000)) v15_1 (.int .i64 20000)) w fun v16_1 w =>
  C.bool v16_1
  (C.calls 9 #[] w fun v17_1 w =>
  Q v17_1 w)
  (C.step (sConv 22 9 a0) w fun v19_1 w =>
  C.step (sConv 9 22 v19_1) w fun v22_1 w =>
  C.calls 10 #[v22_1] w fun v23_1 w =>
  C.step (sExtract v23_1 0) w fun v24_1 w =>
  C.step (sExtract v23_1 1) w fun v25_1 w =>
  C.step (sAlloc 33) w fun v4_1 w =>
  C.step (sStore 33 v4_1 v24_1) w fun vx_1 w =>
  C.calls 11 #[v19_1] w fun v28_1 w =>
  C.step (sExtract v28_1 0) w fun v29_1 w =>
  C.step (sExtract v28_1 1) w fun v30_1 w =>
  C.step (sAlloc 33) w fun v6_1 w =>
  C.step (sStore 33 v6_1 v29_1) w fun vx_2 w =>
  C.step (sConv 9 22 v19_1) w fun v33_1 w =>
  C.calls 12 #[v33_1] w fun v34_1 w =>
  C.step (sExtract v34_1 0) w fun v35_1 w =>
  C.step (sExtract v34_1 1) w fun v36_1 w =>
  C.step (sExtract v34_1 2) w fun v37_1 w =>
  C.step (sAlloc 33) w fun v8_1 w =>
  C.step (sStore 33 v8_1 v35_1) w fun vx_3 w =>
  C.calls 13 #[v19_1] w fun v40_1 w =>
  C.step (sExtract v40_1 0) w fun v41_1 w =>
  C.step (sExtract v40_1 1) w fun v42_1 w =>
  C.step (sExtract v40_1 2) w fun v43_1 w =>
  C.step (sAlloc 33) w fun v11_1 w =>
  C.step (sStore 33 v11_1 v41_1) w fun vx_4 w =>
  C.step (sBin .eql 34 (.tmp 44) (.tmp 45) v25_1 v30_1) w fun v46_1 w =>
  C.bool v46_1
  (C.step (sLoad 33 v4_1) w fun v48_1 w =>
  C.step (sLoad 33 v6_1) w fun v49_1 w =>
  C.calls 14 #[v48_1, v49_1] w fun v50_1 w =>
  C.bool v50_1
  (C.step (sBin .eql 3 (.tmp 53) (.tmp 54) v36_1 v42_1) w fun v55_1 w =>
  C.bool v55_1
  (C.step (sBin .eql 34 (.tmp 58) (.tmp 59) v37_1 v43_1) w fun v60_1 w =>
  C.bool v60_1
  (C.step (sLoad 33 v8_1) w fun v63_1 w =>
  C.step (sLoad 33 v11_1) w fun v64_1 w =>
  C.calls 14 #[v63_1, v64_1] w fun v65_1 w =>
  C.bool v65_1
  (C.calls 9 #[] w fun v68_1 w =>
  Q v68_1 w)
  (flotillalaw05_RecReads_k1 C w Q))
  (flotillalaw05_RecReads_k1 C w Q))
  (flotillalaw05_RecReads_k1 C w Q))
  (flotillalaw05_RecReads_k1 C w Q))
  (flotillalaw05_RecReads_k1 C w Q))
theorem flotillalaw05_RecReads_eq (C : Comb) (a0 : Value) (w : World) (Q : Value → World → Prop) : flotillalaw05_RecReads_x C a0 w Q = FunY Try.prog C 2 [] Try.f3 [a0] w Q := by kernel_rfl
theorem flotillalaw05_RecReads_sound (a0 : Value) {w : World} {Q : Value → World → Prop} (h : flotillalaw05_RecReads_x (std Try.prog) a0 w Q) : CallsR Try.prog 3 #[a0] w Q :=
  calls_of_funY mixed Try.func3 (Eq.mp (flotillalaw05_RecReads_eq _ a0 w Q) h)

def flotillalaw05_RecCuts_k2 (C : Comb) (w : World) (Q : Value → World → Prop) : Prop :=
  Q (.bool false) w
def flotillalaw05_RecCuts_k1 (C : Comb) (v13_1 : Value) (u1_1 : Value) (w : World) (Q : Value → World → Prop) : Prop :=
  C.step (sBuiltin .len #[22] 3 [false] [v13_1]) w fun v40_1 w =>
  C.step (sBin .rem 3 (.tmp 38) (.tmp 40) u1_1 v40_1) w fun v41_1 w =>
  C.step (sSlice 22 v13_1 none (some v41_1) none) w fun v42_1 w =>
  C.calls 12 #[v42_1] w fun v43_1 w =>
  C.step (sExtract v43_1 0) w fun v44_1 w =>
  C.step (sExtract v43_1 1) w fun v45_1 w =>
  C.step (sExtract v43_1 2) w fun v46_1 w =>
  C.step (sAlloc 33) w fun v7_1 w =>
  C.step (sStore 33 v7_1 v44_1) w fun vx_1 w =>
  C.step (sBin .eql 34 (.tmp 47) (.const (.int .i64 4)) v46_1 (.int .i64 4)) w fun v48_1 w =>
  C.bool v48_1
  (C.step (sBin .eql 3 (.tmp 50) (.const (.int .i64 0)) v45_1 (.int .i64 0)) w fun v51_1 w =>
  C.bool v51_1
  (C.step (sLoad 33 v7_1) w fun v54_1 w =>
  C.step (sBuild 33 []) w fun v55_1 w =>
  C.calls 14 #[v54_1, v55_1] w fun v56_1 w =>
  C.bool v56_1
  (C.calls 9 #[] w fun v59_1 w =>
  Q v59_1 w)
  (flotillalaw05_RecCuts_k2 C w Q))
  (flotillalaw05_RecCuts_k2 C w Q))
  (flotillalaw05_RecCuts_k2 C w Q)
def flotillalaw05_RecCuts_x (C : Comb) (a0 : Value) (a1 : Value) (w : World) (Q : Value → World → Prop) : Prop :=
  C.step (sBox 33 a0) w fun v2_1 w =>
  C.step (sLoad 33 v2_1) w fun v11_1 w =>
  C.calls 15 #[v11_1] w fun v12_1 w =>
  C.step (sExtract v12_1 0) w fun v13_1 w =>
  C.step (sExtract v12_1 1) w fun v14_1 w =>
  C.step (sBin .neq 34 (.tmp 15) (.const (.int .i64 0)) v14_1 (.int .i64 0)) w fun v16_1 w =>
  C.bool v16_1
  (C.step (sBin .eql 34 (.tmp 22) (.const (.int .i64 0)) v14_1 (.int .i64 0)) w fun v23_1 w =>
  C.step (sLoad 33 v2_1) w fun v24_1 w =>
  C.calls 16 #[v24_1] w fun v25_1 w =>
  C.step (sBin .eql 34 (.tmp 25) (.const (.int .i64 0)) v25_1 (.int .i64 0)) w fun v26_1 w =>
  C.step (sBin .eql 4 (.tmp 23) (.tmp 26) v23_1 v26_1) w fun v27_1 w =>
  C.bool v27_1
  (C.calls 9 #[] w fun v29_1 w =>
  Q v29_1 w)
  (Q (.bool false) w))
  (C.step (sBuiltin .len #[22] 3 [false] [v13_1]) w fun v19_1 w =>
  C.step (sBin .eql 3 (.tmp 19) (.const (.int .i64 0)) v19_1 (.int .i64 0)) w fun v20_1 w =>
  C.bool v20_1
  (C.step (sBin .eql 34 (.tmp 22) (.const (.int .i64 0)) v14_1 (.int .i64 0)) w fun v23_2 w =>
  C.step (sLoad 33 v2_1) w fun v24_2 w =>
  C.calls 16 #[v24_2] w fun v25_2 w =>
  C.step (sBin .eql 34 (.tmp 25) (.const (.int .i64 0)) v25_2 (.int .i64 0)) w fun v26_2 w =>
  C.step (sBin .eql 4 (.tmp 23) (.tmp 26) v23_2 v26_2) w fun v27_2 w =>
  C.bool v27_2
  (C.calls 9 #[] w fun v29_2 w =>
  Q v29_2 w)
  (Q (.bool false) w))
  (C.step (sBin .lss 3 (.tmp 31) (.const (.int .i64 0)) a1 (.int .i64 0)) w fun v32_1 w =>
  C.bool v32_1
  (C.step (sBin .add 3 (.tmp 33) (.const (.int .i64 1)) a1 (.int .i64 1)) w fun v34_1 w =>
  C.step (sUn .neg v34_1) w fun v35_1 w =>
  flotillalaw05_RecCuts_k1 C v13_1 v35_1 w Q)
  (flotillalaw05_RecCuts_k1 C v13_1 a1 w Q)))
theorem flotillalaw05_RecCuts_eq (C : Comb) (a0 : Value) (a1 : Value) (w : World) (Q : Value → World → Prop) : flotillalaw05_RecCuts_x C a0 a1 w Q = FunY Try.prog C 10 [] Try.f4 [a0, a1] w Q := by kernel_rfl
theorem flotillalaw05_RecCuts_sound (a0 : Value) (a1 : Value) {w : World} {Q : Value → World → Prop} (h : flotillalaw05_RecCuts_x (std Try.prog) a0 a1 w Q) : CallsR Try.prog 4 #[a0, a1] w Q :=
  calls_of_funY mixed Try.func4 (Eq.mp (flotillalaw05_RecCuts_eq _ a0 a1 w Q) h)

def flotillalaw05_RecOwn_k5 (C : Comb) (w : World) (Q : Value → World → Prop) : Prop :=
  Q (.bool false) w
def flotillalaw05_RecOwn_k4 (C : Comb) (v1_1 : Value) (v29_1 : Value) (v10_1 : Value) (w : World) (Q : Value → World → Prop) : Prop :=
  C.step (sLoad 33 v1_1) w fun v116_1 w =>
  C.calls 19 #[v116_1] w fun v117_1 w =>
  C.step (sExtract v117_1 0) w fun v118_1 w =>
  C.step (sExtract v117_1 1) w fun v119_1 w =>
  C.step (sLoad 33 v10_1) w fun v120_1 w =>
  C.step (sLoad 33 v1_1) w fun v121_1 w =>
  C.calls 14 #[v120_1, v121_1] w fun v122_1 w =>
  C.bool v122_1
  (C.step (sBin .eql 34 (.tmp 124) (.const (.int .i64 0)) v119_1 (.int .i64 0)) w fun v125_1 w =>
  C.bool v125_1
  (C.step (sConv 22 9 v118_1) w fun v129_1 w =>
  C.step (sBin .eql 9 (.tmp 129) (.tmp 130) v129_1 v29_1) w fun v131_1 w =>
  C.bool v131_1
  (C.calls 9 #[] w fun v134_1 w =>
  Q v134_1 w)
  (flotillalaw05_RecOwn_k5 C w Q))
  (flotillalaw05_RecOwn_k5 C w Q))
  (flotillalaw05_RecOwn_k5 C w Q)
def flotillalaw05_RecOwn_k3 (C : Comb) (v1_1 : Value) (v29_1 : Value) (v8_1 : Value) (v10_1 : Value) (w : World) (Q : Value → World → Prop) : Prop :=
  C.loop [(.int .i64 0)] w fun dv_1 vs_1 w again_1 =>
  C.step (sFieldAddr 33 v8_1 8) w fun v104_1 w =>
  C.step (sLoad 31 v104_1) w fun v105_1 w =>
  C.step (sBuiltin .len #[31] 3 [false] [v105_1]) w fun v106_1 w =>
  C.step (sBin .lss 3 (.tmp 103) (.tmp 106) (vs_1.getD 0 undef) v106_1) w fun v107_1 w =>
  C.bool v107_1
  (C.step (sFieldAddr 33 v8_1 8) w fun v110_1 w =>
  C.step (sLoad 31 v110_1) w fun v111_1 w =>
  C.step (sBuild 53 []) w fun v113_1 w =>
  C.step (sIndexAddr 31 v111_1 (vs_1.getD 0 undef)) w fun v114_1 w =>
  C.step (sStore 53 v114_1 v113_1) w fun vx_3 w =>
  C.step (sBin .add 3 (.tmp 108) (.const (.int .i64 1)) (vs_1.getD 0 undef) (.int .i64 1)) w fun v109_1 w =>
  again_1 [v109_1] w)
  (flotillalaw05_RecOwn_k4 C v1_1 v29_1 v10_1 w Q)
def flotillalaw05_RecOwn_k2 (C : Comb) (v1_1 : Value) (v29_1 : Value) (v8_1 : Value) (v10_1 : Value) (w : World) (Q : Value → World → Prop) : Prop :=
  C.loop [(.int .i64 0)] w fun dv_2 vs_2 w again_2 =>
  C.step (sFieldAddr 33 v8_1 7) w fun v92_1 w =>
  C.step (sLoad 30 v92_1) w fun v93_1 w =>
  C.step (sBuiltin .len #[30] 3 [false] [v93_1]) w fun v94_1 w =>
  C.step (sBin .lss 3 (.tmp 91) (.tmp 94) (vs_2.getD 0 undef) v94_1) w fun v95_1 w =>
  C.bool v95_1
  (C.step (sFieldAddr 33 v8_1 7) w fun v98_1 w =>
  C.step (sLoad 30 v98_1) w fun v99_1 w =>
  C.step (sBuild 51 []) w fun v101_1 w =>
  C.step (sIndexAddr 30 v99_1 (vs_2.getD 0 undef)) w fun v102_1 w =>
  C.step (sStore 51 v102_1 v101_1) w fun vx_4 w =>
  C.step (sBin .add 3 (.tmp 96) (.const (.int .i64 1)) (vs_2.getD 0 undef) (.int .i64 1)) w fun v97_1 w =>
  again_2 [v97_1] w)
  (flotillalaw05_RecOwn_k3 C v1_1 v29_1 v8_1 v10_1 w Q)
def flotillalaw05_RecOwn_k1 (C : Comb) (v1_1 : Value) (v29_1 : Value) (v38_1 : Value) (v8_1 : Value) (v10_1 : Value) (w : World) (Q : Value → World → Prop) : Prop :=
  C.loop [(.int .i64 0)] w fun dv_3 vs_3 w again_3 =>
  C.step (sBuiltin .len #[22] 3 [false] [v38_1]) w fun v79_1 w =>
  C.step (sBin .lss 3 (.tmp 77) (.tmp 79) (vs_3.getD 0 undef) v79_1) w fun v80_1 w =>
  C.bool v80_1
  (C.step (sIndexAddr 22 v38_1 (vs_3.getD 0 undef)) w fun v87_1 w =>
  C.step (sLoad 5 v87_1) w fun v88_1 w =>
  C.step (sBin .xor 5 (.tmp 88) (.const (.int .u8 255)) v88_1 (.int .u8 255)) w fun v89_1 w =>
  C.step (sIndexAddr 22 v38_1 (vs_3.getD 0 undef)) w fun v90_1 w =>
  C.step (sStore 5 v90_1 v89_1) w fun vx_5 w =>
  C.step (sBin .add 3 (.tmp 81) (.const (.int .i64 1)) (vs_3.getD 0 undef) (.int .i64 1)) w fun v82_1 w =>
  again_3 [v82_1] w)
  (flotillalaw05_RecOwn_k2 C v1_1 v29_1 v8_1 v10_1 w Q)
def flotillalaw05_RecOwn_x (C : Comb) (a0 : Value) (w : World) (Q : Value → World → Prop) : Prop :=
  C.step (sBox 33 a0) w fun v1_1 w =>
  C.step (sLoad 33 v1_1) w fun v19_1 w =>
  C.calls 17 #[v19_1] w fun v20_1 w =>
  C.step (sUn .not v20_1) w fun v21_1 w =>
  C.bool v21_1
  (C.calls 9 #[] w fun v27_1 w =>
  Q v27_1 w)
  (C.step (sLoad 33 v1_1) w fun v23_1 w =>
  C.calls 16 #[v23_1] w fun v24_1 w =>
  C.step (sBin .neq 34 (.tmp 24) (.const (.int .i64 0)) v24_1 (.int .i64 0)) w fun v25_1 w =>
  C.bool v25_1
  (C.calls 9 #[] w fun v27_2 w =>
  Q v27_2 w)
  (C.step (sLoad 33 v1_1) w fun v28_1 w =>
  C.calls 18 #[v28_1] w fun v29_1 w =>
  C.step (sLoad 33 v1_1) w fun v31_1 w =>
  C.calls 19 #[v31_1] w fun v32_1 w =>
  C.step (sExtract v32_1 0) w fun v33_1 w =>
  C.step (sExtract v32_1 1) w fun v34_1 w =>
  C.step (sLoad 33 v1_1) w fun v36_1 w =>
  C.calls 15 #[v36_1] w fun v37_1 w =>
  C.step (sExtract v37_1 0) w fun v38_1 w =>
  C.step (sExtract v37_1 1) w fun v39_1 w =>
  C.step (sBin .neq 34 (.tmp 40) (.const (.int .i64 0)) v34_1 (.int .i64 0)) w fun v41_1 w =>
  C.bool v41_1
  (Q (.bool false) w)
  (C.step (sBin .neq 34 (.tmp 43) (.const (.int .i64 0)) v39_1 (.int .i64 0)) w fun v44_1 w =>
  C.bool v44_1
  (Q (.bool false) w)
  (C.calls 10 #[v33_1] w fun v48_1 w =>
  C.step (sExtract v48_1 0) w fun v49_1 w =>
  C.step (sExtract v48_1 1) w fun v50_1 w =>
  C.step (sAlloc 33) w fun v8_1 w =>
  C.step (sStore 33 v8_1 v49_1) w fun vx_1 w =>
  C.calls 12 #[v38_1] w fun v53_1 w =>
  C.step (sExtract v53_1 0) w fun v54_1 w =>
  C.step (sExtract v53_1 1) w fun v55_1 w =>
  C.step (sExtract v53_1 2) w fun v56_1 w =>
  C.step (sAlloc 33) w fun v10_1 w =>
  C.step (sStore 33 v10_1 v54_1) w fun vx_2 w =>
  C.step (sBin .neq 34 (.tmp 57) (.const (.int .i64 0)) v50_1 (.int .i64 0)) w fun v58_1 w =>
  C.bool v58_1
  (Q (.bool false) w)
  (C.step (sBin .neq 34 (.tmp 60) (.const (.int .i64 0)) v56_1 (.int .i64 0)) w fun v61_1 w =>
  C.bool v61_1
  (Q (.bool false) w)
  (C.loop [(.int .i64 0)] w fun dv_4 vs_4 w again_4 =>
  C.step (sBuiltin .len #[22] 3 [false] [v33_1]) w fun v65_1 w =>
  C.step (sBin .lss 3 (.tmp 63) (.tmp 65) (vs_4.getD 0 undef) v65_1) w fun v66_1 w =>
  C.bool v66_1
  (C.step (sIndexAddr 22 v33_1 (vs_4.getD 0 undef)) w fun v73_1 w =>
  C.step (sLoad 5 v73_1) w fun v74_1 w =>
  C.step (sBin .xor 5 (.tmp 74) (.const (.int .u8 255)) v74_1 (.int .u8 255)) w fun v75_1 w =>
  C.step (sIndexAddr 22 v33_1 (vs_4.getD 0 undef)) w fun v76_1 w =>
  C.step (sStore 5 v76_1 v75_1) w fun vx_6 w =>
  C.step (sBin .add 3 (.tmp 67) (.const (.int .i64 1)) (vs_4.getD 0 undef) (.int .i64 1)) w fun v68_1 w =>
  again_4 [v68_1] w)
  (flotillalaw05_RecOwn_k1 C v1_1 v29_1 v38_1 v8_1 v10_1 w Q)))))))
theorem flotillalaw05_RecOwn_eq (C : Comb) (a0 : Value) (w : World) (Q : Value → World → Prop) : flotillalaw05_RecOwn_x C a0 w Q = FunY Try.prog C 2 [] Try.f5 [a0] w Q := by kernel_rfl
theorem flotillalaw05_RecOwn_sound (a0 : Value) {w : World} {Q : Value → World → Prop} (h : flotillalaw05_RecOwn_x (std Try.prog) a0 w Q) : CallsR Try.prog 5 #[a0] w Q :=
  calls_of_funY mixed Try.func5 (Eq.mp (flotillalaw05_RecOwn_eq _ a0 w Q) h)

def flotillalaw05_RecSames_k1 (C : Comb) (w : World) (Q : Value → World → Prop) : Prop :=
  Q (.bool false) w
def flotillalaw05_RecSames_x (C : Comb) (a0 : Value) (a1 : Value) (w : World) (Q : Value → World → Prop) : Prop :=
  C.step (sBox 33 a0) w fun v2_1 w =>
  C.step (sBox 33 a1) w fun v3_1 w =>
  C.step (sLoad 33 v2_1) w fun v5_1 w =>
  C.calls 17 #[v5_1] w fun v6_1 w =>
  C.step (sUn .not v6_1) w fun v7_1 w =>
  C.bool v7_1
  (C.calls 9 #[] w fun v13_1 w =>
  Q v13_1 w)
  (C.step (sLoad 33 v3_1) w fun v9_1 w =>
  C.calls 17 #[v9_1] w fun v10_1 w =>
  C.step (sUn .not v10_1) w fun v11_1 w =>
  C.bool v11_1
  (C.calls 9 #[] w fun v13_2 w =>
  Q v13_2 w)
  (C.draw w fun S_1 w =>
  C.stepS S_1 (sLoad 33 v2_1) fun v14_1 =>
  C.stepS S_1 (sLoad 33 v3_1) fun v15_1 =>
  C.stepS S_1 (sLoad 33 v2_1) fun v17_1 =>
  C.stepS S_1 (sLoad 33 v3_1) fun v18_1 =>
  C.calls 20 #[v14_1, v15_1] w fun v16_1 w =>
  C.keepS S_1 w fun S_2 =>
  C.calls 14 #[v17_1, v18_1] w fun v19_1 w =>
  C.keepT w fun S_3 =>
  C.stepS S_3 (sBin .eql 4 (.tmp 16) (.tmp 19) v16_1 v19_1) fun v20_1 =>
  C.bool v20_1
  (C.stepS S_3 (sLoad 33 v3_1) fun v22_1 =>
  C.stepS S_3 (sLoad 33 v2_1) fun v23_1 =>
  C.stepS S_3 (sLoad 33 v2_1) fun v25_1 =>
  C.stepS S_3 (sLoad 33 v3_1) fun v26_1 =>
  C.calls 20 #[v22_1, v23_1] w fun v24_1 w =>
  C.keepS S_3 w fun S_4 =>
  C.calls 20 #[v25_1, v26_1] w fun v27_1 w =>
  C.keepT w fun S_5 =>
  C.stepS S_5 (sBin .eql 4 (.tmp 24) (.tmp 27) v24_1 v27_1) fun v28_1 =>
  C.bool v28_1
  (C.stepS S_5 (sLoad 33 v2_1) fun v31_1 =>
  C.stepS S_5 (sLoad 33 v2_1) fun v32_1 =>
  C.calls 20 #[v31_1, v32_1] w fun v33_1 w =>
  C.keepT w fun S_6 =>
  C.bool v33_1
  (C.stepS S_6 (sLoad 33 v3_1) fun v36_1 =>
  C.stepS S_6 (sLoad 33 v3_1) fun v37_1 =>
  C.calls 20 #[v36_1, v37_1] w fun v38_1 w =>
  C.keepT w fun S_7 =>
  C.bool v38_1
  (C.calls 9 #[] w fun v41_1 w =>
  C.keepT w fun S_8 =>
  Q v41_1 w)
  (flotillalaw05_RecSames_k1 C w Q))
  (flotillalaw05_RecSames_k1 C w Q))
  (flotillalaw05_RecSames_k1 C w Q))
  (flotillalaw05_RecSames_k1 C w Q)))
theorem flotillalaw05_RecSames_eq (C : Comb) (a0 : Value) (a1 : Value) (w : World) (Q : Value → World → Prop) : flotillalaw05_RecSames_x C a0 a1 w Q = FunY Try.prog C 4 [] Try.f6 [a0, a1] w Q := by kernel_rfl
theorem flotillalaw05_RecSames_sound (a0 : Value) (a1 : Value) {w : World} {Q : Value → World → Prop} (h : flotillalaw05_RecSames_x (std Try.prog) a0 a1 w Q) : CallsR Try.prog 6 #[a0, a1] w Q :=
  calls_of_funY mixed Try.func6 (Eq.mp (flotillalaw05_RecSames_eq _ a0 a1 w Q) h)

def flotillalaw05_RecApart_k1 (C : Comb) (w : World) (Q : Value → World → Prop) : Prop :=
  C.calls 9 #[] w fun v32_1 w =>
  Q v32_1 w
def flotillalaw05_RecApart_k2 (C : Comb) (w : World) (Q : Value → World → Prop) : Prop :=
  Q (.bool false) w
def flotillalaw05_RecApart_k3 (C : Comb) (w : World) (Q : Value → World → Prop) : Prop :=
  Q (.bool false) w
def flotillalaw05_RecApart_x (C : Comb) (a0 : Value) (a1 : Value) (w : World) (Q : Value → World → Prop) : Prop :=
  C.step (sBox 33 a0) w fun v2_1 w =>
  C.step (sBox 33 a1) w fun v3_1 w =>
  C.step (sLoad 33 v2_1) w fun v14_1 w =>
  C.calls 17 #[v14_1] w fun v15_1 w =>
  C.step (sUn .not v15_1) w fun v16_1 w =>
  C.bool v16_1
  (flotillalaw05_RecApart_k1 C w Q)
  (C.step (sLoad 33 v3_1) w fun v18_1 w =>
  C.calls 17 #[v18_1] w fun v19_1 w =>
  C.step (sUn .not v19_1) w fun v20_1 w =>
  C.bool v20_1
  (flotillalaw05_RecApart_k1 C w Q)
  (C.step (sLoad 33 v2_1) w fun v23_1 w =>
  C.calls 16 #[v23_1] w fun v24_1 w =>
  C.step (sBin .neq 34 (.tmp 24) (.const (.int .i64 0)) v24_1 (.int .i64 0)) w fun v25_1 w =>
  C.bool v25_1
  (flotillalaw05_RecApart_k1 C w Q)
  (C.step (sLoad 33 v3_1) w fun v28_1 w =>
  C.calls 16 #[v28_1] w fun v29_1 w =>
  C.step (sBin .neq 34 (.tmp 29) (.const (.int .i64 0)) v29_1 (.int .i64 0)) w fun v30_1 w =>
  C.bool v30_1
  (C.calls 9 #[] w fun v32_2 w =>
  Q v32_2 w)
  (C.step (sLoad 33 v2_1) w fun v34_1 w =>
  C.calls 19 #[v34_1] w fun v35_1 w =>
  C.step (sExtract v35_1 0) w fun v36_1 w =>
  C.step (sExtract v35_1 1) w fun v37_1 w =>
  C.step (sLoad 33 v3_1) w fun v39_1 w =>
  C.calls 19 #[v39_1] w fun v40_1 w =>
  C.step (sExtract v40_1 0) w fun v41_1 w =>
  C.step (sExtract v40_1 1) w fun v42_1 w =>
  C.step (sLoad 33 v2_1) w fun v44_1 w =>
  C.calls 15 #[v44_1] w fun v45_1 w =>
  C.step (sExtract v45_1 0) w fun v46_1 w =>
  C.step (sExtract v45_1 1) w fun v47_1 w =>
  C.step (sLoad 33 v3_1) w fun v49_1 w =>
  C.calls 15 #[v49_1] w fun v50_1 w =>
  C.step (sExtract v50_1 0) w fun v51_1 w =>
  C.step (sExtract v50_1 1) w fun v52_1 w =>
  C.step (sBin .neq 34 (.tmp 53) (.const (.int .i64 0)) v37_1 (.int .i64 0)) w fun v54_1 w =>
  C.bool v54_1
  (flotillalaw05_RecApart_k2 C w Q)
  (C.step (sBin .neq 34 (.tmp 56) (.const (.int .i64 0)) v42_1 (.int .i64 0)) w fun v57_1 w =>
  C.bool v57_1
  (flotillalaw05_RecApart_k2 C w Q)
  (C.step (sBin .neq 34 (.tmp 60) (.const (.int .i64 0)) v47_1 (.int .i64 0)) w fun v61_1 w =>
  C.bool v61_1
  (flotillalaw05_RecApart_k2 C w Q)
  (C.step (sBin .neq 34 (.tmp 64) (.const (.int .i64 0)) v52_1 (.int .i64 0)) w fun v65_1 w =>
  C.bool v65_1
  (Q (.bool false) w)
  (C.step (sLoad 33 v2_1) w fun v67_1 w =>
  C.step (sLoad 33 v3_1) w fun v68_1 w =>
  C.calls 20 #[v67_1, v68_1] w fun v69_1 w =>
  C.step (sConv 22 9 v36_1) w fun v71_1 w =>
  C.step (sConv 22 9 v41_1) w fun v73_1 w =>
  C.step (sBin .eql 9 (.tmp 71) (.tmp 73) v71_1 v73_1) w fun v74_1 w =>
  C.step (sBin .eql 4 (.tmp 74) (.tmp 75) v74_1 v69_1) w fun v76_1 w =>
  C.bool v76_1
  (C.step (sConv 22 9 v46_1) w fun v79_1 w =>
  C.step (sConv 22 9 v51_1) w fun v81_1 w =>
  C.step (sBin .eql 9 (.tmp 79) (.tmp 81) v79_1 v81_1) w fun v82_1 w =>
  C.step (sBin .eql 4 (.tmp 82) (.tmp 83) v82_1 v69_1) w fun v84_1 w =>
  C.bool v84_1
  (C.calls 9 #[] w fun v87_1 w =>
  Q v87_1 w)
  (flotillalaw05_RecApart_k3 C w Q))
  (flotillalaw05_RecApart_k3 C w Q)))))))))
theorem flotillalaw05_RecApart_eq (C : Comb) (a0 : Value) (a1 : Value) (w : World) (Q : Value → World → Prop) : flotillalaw05_RecApart_x C a0 a1 w Q = FunY Try.prog C 2 [] Try.f7 [a0, a1] w Q := by kernel_rfl
theorem flotillalaw05_RecApart_sound (a0 : Value) (a1 : Value) {w : World} {Q : Value → World → Prop} (h : flotillalaw05_RecApart_x (std Try.prog) a0 a1 w Q) : CallsR Try.prog 7 #[a0, a1] w Q :=
  calls_of_funY mixed Try.func7 (Eq.mp (flotillalaw05_RecApart_eq _ a0 a1 w Q) h)

def flotillalaw05_RecBack_k1 (C : Comb) (w : World) (Q : Value → World → Prop) : Prop :=
  Q (.bool false) w
def flotillalaw05_RecBack_k2 (C : Comb) (w : World) (Q : Value → World → Prop) : Prop :=
  Q (.bool false) w
def flotillalaw05_RecBack_x (C : Comb) (a0 : Value) (a1 : Value) (w : World) (Q : Value → World → Prop) : Prop :=
  C.step (sBox 33 a0) w fun v2_1 w =>
  C.step (sLoad 33 v2_1) w fun v15_1 w =>
  C.calls 17 #[v15_1] w fun v16_1 w =>
  C.step (sUn .not v16_1) w fun v17_1 w =>
  C.bool v17_1
  (C.calls 9 #[] w fun v23_1 w =>
  Q v23_1 w)
  (C.step (sBuiltin .len #[22] 3 [false] [a1]) w fun v20_1 w =>
  C.step (sBin .gtr 3 (.tmp 20) (.const (.int .i64 10000)) v20_1 (.int .i64 10000)) w fun v21_1 w =>
  C.bool v21_1
  (C.calls 9 #[] w fun v23_2 w =>
  Q v23_2 w)
  (C.step (sLoad 33 v2_1) w fun v24_1 w =>
  C.calls 16 #[v24_1] w fun v25_1 w =>
  C.step (sBin .neq 34 (.tmp 25) (.const (.int .i64 0)) v25_1 (.int .i64 0)) w fun v26_1 w =>
  C.bool v26_1
  (C.step (sLoad 33 v2_1) w fun v27_1 w =>
  C.calls 21 #[v27_1] w fun v28_1 w =>
  C.step (sBin .eql 3 (.tmp 28) (.const (.int .i64 0)) v28_1 (.int .i64 0)) w fun v29_1 w =>
  C.bool v29_1
  (C.calls 9 #[] w fun v31_1 w =>
  Q v31_1 w)
  (Q (.bool false) w))
  (C.step (sLoad 33 v2_1) w fun v34_1 w =>
  C.calls 19 #[v34_1] w fun v35_1 w =>
  C.step (sExtract v35_1 0) w fun v36_1 w =>
  C.step (sExtract v35_1 1) w fun v37_1 w =>
  C.step (sLoad 33 v2_1) w fun v39_1 w =>
  C.calls 15 #[v39_1] w fun v40_1 w =>
  C.step (sExtract v40_1 0) w fun v41_1 w =>
  C.step (sExtract v40_1 1) w fun v42_1 w =>
  C.step (sBin .neq 34 (.tmp 43) (.const (.int .i64 0)) v37_1 (.int .i64 0)) w fun v44_1 w =>
  C.bool v44_1
  (Q (.bool false) w)
  (C.step (sBin .neq 34 (.tmp 46) (.const (.int .i64 0)) v42_1 (.int .i64 0)) w fun v47_1 w =>
  C.bool v47_1
  (Q (.bool false) w)
  (C.calls 10 #[v36_1] w fun v51_1 w =>
  C.step (sExtract v51_1 0) w fun v52_1 w =>
  C.step (sExtract v51_1 1) w fun v53_1 w =>
  C.step (sAlloc 33) w fun v9_1 w =>
  C.step (sStore 33 v9_1 v52_1) w fun vx_1 w =>
  C.step (sBin .neq 34 (.tmp 54) (.const (.int .i64 0)) v53_1 (.int .i64 0)) w fun v55_1 w =>
  C.bool v55_1
  (flotillalaw05_RecBack_k1 C w Q)
  (C.step (sLoad 33 v9_1) w fun v57_1 w =>
  C.step (sLoad 33 v2_1) w fun v58_1 w =>
  C.calls 20 #[v57_1, v58_1] w fun v59_1 w =>
  C.step (sUn .not v59_1) w fun v60_1 w =>
  C.bool v60_1
  (flotillalaw05_RecBack_k1 C w Q)
  (C.step (sLoad 33 v9_1) w fun v63_1 w =>
  C.step (sLoad 33 v2_1) w fun v64_1 w =>
  C.calls 14 #[v63_1, v64_1] w fun v65_1 w =>
  C.step (sUn .not v65_1) w fun v66_1 w =>
  C.bool v66_1
  (Q (.bool false) w)
  (C.step (sBuildSlice 22 0 []) w fun v68_1 w =>
  C.step (sBuiltin .append #[22, 22] 22 [false, false] [v68_1, v41_1]) w fun v71_1 w =>
  C.step (sBuiltin .append #[22, 22] 22 [false, false] [v71_1, a1]) w fun v74_1 w =>
  C.calls 12 #[v74_1] w fun v77_1 w =>
  C.step (sExtract v77_1 0) w fun v78_1 w =>
  C.step (sExtract v77_1 1) w fun v79_1 w =>
  C.step (sExtract v77_1 2) w fun v80_1 w =>
  C.step (sAlloc 33) w fun v12_1 w =>
  C.step (sStore 33 v12_1 v78_1) w fun vx_2 w =>
  C.step (sBin .eql 34 (.tmp 81) (.const (.int .i64 0)) v80_1 (.int .i64 0)) w fun v82_1 w =>
  C.bool v82_1
  (C.step (sBuiltin .len #[22] 3 [false] [v41_1]) w fun v86_1 w =>
  C.step (sBin .eql 3 (.tmp 84) (.tmp 86) v79_1 v86_1) w fun v87_1 w =>
  C.bool v87_1
  (C.step (sBuiltin .len #[22] 3 [false] [v36_1]) w fun v92_1 w =>
  C.step (sBin .add 3 (.tmp 92) (.const (.int .i64 6)) v92_1 (.int .i64 6)) w fun v93_1 w =>
  C.step (sBin .eql 3 (.tmp 90) (.tmp 93) v79_1 v93_1) w fun v94_1 w =>
  C.bool v94_1
  (C.step (sLoad 33 v12_1) w fun v97_1 w =>
  C.step (sLoad 33 v2_1) w fun v98_1 w =>
  C.calls 14 #[v97_1, v98_1] w fun v99_1 w =>
  C.bool v99_1
  (C.calls 9 #[] w fun v102_1 w =>
  Q v102_1 w)
  (flotillalaw05_RecBack_k2 C w Q))
  (flotillalaw05_RecBack_k2 C w Q))
  (flotillalaw05_RecBack_k2 C w Q))
  (flotillalaw05_RecBack_k2 C w Q)))))))))
theorem flotillalaw05_RecBack_eq (C : Comb) (a0 : Value) (a1 : Value) (w : World) (Q : Value → World → Prop) : flotillalaw05_RecBack_x C a0 a1 w Q = FunY Try.prog C 2 [] Try.f8 [a0, a1] w Q := by kernel_rfl
theorem flotillalaw05_RecBack_sound (a0 : Value) (a1 : Value) {w : World} {Q : Value → World → Prop} (h : flotillalaw05_RecBack_x (std Try.prog) a0 a1 w Q) : CallsR Try.prog 8 #[a0, a1] w Q :=
  calls_of_funY mixed Try.func8 (Eq.mp (flotillalaw05_RecBack_eq _ a0 a1 w Q) h)

def flotillalaw05_lives_k1 (C : Comb) (w : World) (Q : Value → World → Prop) : Prop :=
  Q (.bool false) w
def flotillalaw05_lives_x (C : Comb) (w : World) (Q : Value → World → Prop) : Prop :=
  C.step (sBuild 33 [(0, (.int .i64 3)), (1, (.int .u64 33)), (2, (.int .i64 7)), (3, (.int .u64 17))]) w fun v7_1 w =>
  C.step (sAlloc 33) w fun v1_1 w =>
  C.step (sStore 33 v1_1 v7_1) w fun vx_1 w =>
  C.step (sLoad 33 v1_1) w fun v9_1 w =>
  C.calls 19 #[v9_1] w fun v10_1 w =>
  C.step (sExtract v10_1 0) w fun v11_1 w =>
  C.step (sExtract v10_1 1) w fun v12_1 w =>
  C.step (sLoad 33 v1_1) w fun v14_1 w =>
  C.calls 22 #[v14_1] w fun v15_1 w =>
  C.step (sConv 9 22 v15_1) w fun v16_1 w =>
  C.calls 12 #[v16_1] w fun v17_1 w =>
  C.step (sExtract v17_1 0) w fun v18_1 w =>
  C.step (sExtract v17_1 1) w fun v19_1 w =>
  C.step (sExtract v17_1 2) w fun v20_1 w =>
  C.step (sAlloc 33) w fun v4_1 w =>
  C.step (sStore 33 v4_1 v18_1) w fun vx_2 w =>
  C.step (sBin .eql 34 (.tmp 21) (.const (.int .i64 0)) v12_1 (.int .i64 0)) w fun v22_1 w =>
  C.bool v22_1
  (C.step (sBuiltin .len #[22] 3 [false] [v11_1]) w fun v25_1 w =>
  C.step (sBin .eql 3 (.tmp 25) (.const (.int .i64 21)) v25_1 (.int .i64 21)) w fun v26_1 w =>
  C.bool v26_1
  (C.step (sIndexAddr 22 v11_1 (.int .i64 0)) w fun v30_1 w =>
  C.step (sLoad 5 v30_1) w fun v31_1 w =>
  C.step (sBin .eql 5 (.tmp 31) (.const (.int .u8 3)) v31_1 (.int .u8 3)) w fun v32_1 w =>
  C.bool v32_1
  (C.step (sBin .eql 34 (.tmp 35) (.const (.int .i64 0)) v20_1 (.int .i64 0)) w fun v36_1 w =>
  C.bool v36_1
  (C.step (sBin .eql 3 (.tmp 39) (.const (.int .i64 27)) v19_1 (.int .i64 27)) w fun v40_1 w =>
  C.bool v40_1
  (C.step (sFieldAddr 33 v4_1 2) w fun v43_1 w =>
  C.step (sLoad 3 v43_1) w fun v44_1 w =>
  C.step (sBin .eql 3 (.tmp 44) (.const (.int .i64 7)) v44_1 (.int .i64 7)) w fun v45_1 w =>
  Q v45_1 w)
  (flotillalaw05_lives_k1 C w Q))
  (flotillalaw05_lives_k1 C w Q))
  (flotillalaw05_lives_k1 C w Q))
  (flotillalaw05_lives_k1 C w Q))
  (flotillalaw05_lives_k1 C w Q)
theorem flotillalaw05_lives_eq (C : Comb) (w : World) (Q : Value → World → Prop) : flotillalaw05_lives_x C w Q = FunY Try.prog C 7 [] Try.f9 [] w Q := by kernel_rfl
theorem flotillalaw05_lives_sound {w : World} {Q : Value → World → Prop} (h : flotillalaw05_lives_x (std Try.prog) w Q) : CallsR Try.prog 9 #[] w Q :=
  calls_of_funY mixed Try.func9 (Eq.mp (flotillalaw05_lives_eq _ w Q) h)

def flotillaref05_Decode_j1 (C : Comb) (v2_1 : Value) (v4_1 : Value) (v5_1 : Value) (dv_3 : Nat → Value) (vs_3 : List Value) (w : World) (Q : Value → World → Prop) : Prop :=
  C.step (sLoad 63 v5_1) w fun v68_1 w =>
  C.calls 30 #[v68_1] w fun v69_1 w =>
  C.step (sBin .neq 34 (.tmp 69) (.const (.int .i64 0)) v69_1 (.int .i64 0)) w fun v70_1 w =>
  C.bool v70_1
  (C.step (sBuild 33 []) w fun v76_1 w =>
  C.step (sStore 33 v2_1 v76_1) w fun vx_11 w =>
  C.loadR 33 v2_1 w fun r_1 =>
  Q (.tuple #[r_1, (.int .i64 5)]) w)
  (C.step (sLoad 33 v4_1) w fun v72_1 w =>
  C.calls 31 #[v72_1] w fun v73_1 w =>
  C.step (sUn .not v73_1) w fun v74_1 w =>
  C.bool v74_1
  (C.step (sBuild 33 []) w fun v76_2 w =>
  C.step (sStore 33 v2_1 v76_2) w fun vx_12 w =>
  C.loadR 33 v2_1 w fun r_2 =>
  Q (.tuple #[r_2, (.int .i64 5)]) w)
  (C.step (sLoad 33 v4_1) w fun v77_1 w =>
  C.step (sStore 33 v2_1 v77_1) w fun vx_13 w =>
  C.loadR 33 v2_1 w fun r_3 =>
  Q (.tuple #[r_3, (.int .i64 0)]) w))
def flotillaref05_Decode_j2 (C : Comb) (v2_1 : Value) (v4_1 : Value) (v5_1 : Value) (dv_2 : Nat → Value) (vs_2 : List Value) (w : World) (Q : Value → World → Prop) : Prop :=
  C.join (fun dv_3 vs_3 w => flotillaref05_Decode_j1 C v2_1 v4_1 v5_1 dv_3 vs_3 w Q) (fun j_3 =>
  C.step (sFieldAddr 33 v4_1 0) w fun v59_1 w =>
  C.step (sLoad 24 v59_1) w fun v60_1 w =>
  C.step (sBin .eql 24 (.tmp 60) (.const (.int .i64 8)) v60_1 (.int .i64 8)) w fun v61_1 w =>
  C.bool v61_1
  (C.step (sLoad 63 v5_1) w fun v63_1 w =>
  C.step (sLoad 33 v4_1) w fun v64_1 w =>
  C.calls 29 #[v63_1, v64_1] w fun v65_1 w =>
  C.step (sExtract v65_1 0) w fun v66_1 w =>
  C.step (sExtract v65_1 1) w fun v67_1 w =>
  C.step (sStore 63 v5_1 v66_1) w fun vx_14 w =>
  C.step (sStore 33 v4_1 v67_1) w fun vx_15 w =>
  j_3 [] w)
  (j_3 [] w))
def flotillaref05_Decode_j3 (C : Comb) (v2_1 : Value) (v4_1 : Value) (v5_1 : Value) (dv_1 : Nat → Value) (vs_1 : List Value) (w : World) (Q : Value → World → Prop) : Prop :=
  C.join (fun dv_2 vs_2 w => flotillaref05_Decode_j2 C v2_1 v4_1 v5_1 dv_2 vs_2 w Q) (fun j_2 =>
  C.step (sFieldAddr 33 v4_1 0) w fun v49_1 w =>
  C.step (sLoad 24 v49_1) w fun v50_1 w =>
  C.step (sBin .eql 24 (.tmp 50) (.const (.int .i64 2)) v50_1 (.int .i64 2)) w fun v51_1 w =>
  C.bool v51_1
  (C.step (sLoad 63 v5_1) w fun v53_1 w =>
  C.calls 26 #[v53_1, (.int .i64 8)] w fun v54_1 w =>
  C.step (sExtract v54_1 0) w fun v55_1 w =>
  C.step (sExtract v54_1 1) w fun v56_1 w =>
  C.step (sStore 63 v5_1 v55_1) w fun vx_16 w =>
  C.step (sFieldAddr 33 v4_1 4) w fun v58_1 w =>
  C.step (sStore 26 v58_1 v56_1) w fun vx_17 w =>
  j_2 [] w)
  (j_2 [] w))
def flotillaref05_Decode_x (C : Comb) (a0 : Value) (w : World) (Q : Value → World → Prop) : Prop :=
  C.step (sAlloc 33) w fun v2_1 w =>
  C.step (sBuild 33 []) w fun v7_1 w =>
  C.step (sAlloc 33) w fun v4_1 w =>
  C.step (sStore 33 v4_1 v7_1) w fun vx_1 w =>
  C.step (sBuild 63 [(0, a0)]) w fun v9_1 w =>
  C.step (sAlloc 63) w fun v5_1 w =>
  C.step (sStore 63 v5_1 v9_1) w fun vx_2 w =>
  C.step (sLoad 63 v5_1) w fun v11_1 w =>
  C.calls 26 #[v11_1, (.int .i64 1)] w fun v12_1 w =>
  C.step (sExtract v12_1 0) w fun v13_1 w =>
  C.step (sExtract v12_1 1) w fun v14_1 w =>
  C.step (sStore 63 v5_1 v13_1) w fun vx_3 w =>
  C.step (sConv 25 24 v14_1) w fun v16_1 w =>
  C.step (sFieldAddr 33 v4_1 0) w fun v17_1 w =>
  C.step (sStore 24 v17_1 v16_1) w fun vx_4 w =>
  C.step (sLoad 63 v5_1) w fun v19_1 w =>
  C.calls 26 #[v19_1, (.int .i64 8)] w fun v20_1 w =>
  C.step (sExtract v20_1 0) w fun v21_1 w =>
  C.step (sExtract v20_1 1) w fun v22_1 w =>
  C.step (sStore 63 v5_1 v21_1) w fun vx_5 w =>
  C.step (sFieldAddr 33 v4_1 1) w fun v24_1 w =>
  C.step (sStore 26 v24_1 v22_1) w fun vx_6 w =>
  C.step (sLoad 63 v5_1) w fun v26_1 w =>
  C.calls 26 #[v26_1, (.int .i64 4)] w fun v27_1 w =>
  C.step (sExtract v27_1 0) w fun v28_1 w =>
  C.step (sExtract v27_1 1) w fun v29_1 w =>
  C.step (sStore 63 v5_1 v28_1) w fun vx_7 w =>
  C.step (sConv 25 3 v29_1) w fun v31_1 w =>
  C.step (sFieldAddr 33 v4_1 2) w fun v32_1 w =>
  C.step (sStore 3 v32_1 v31_1) w fun vx_8 w =>
  C.step (sLoad 63 v5_1) w fun v34_1 w =>
  C.calls 26 #[v34_1, (.int .i64 8)] w fun v35_1 w =>
  C.step (sExtract v35_1 0) w fun v36_1 w =>
  C.step (sExtract v35_1 1) w fun v37_1 w =>
  C.step (sStore 63 v5_1 v36_1) w fun vx_9 w =>
  C.step (sFieldAddr 33 v4_1 3) w fun v39_1 w =>
  C.step (sStore 26 v39_1 v37_1) w fun vx_10 w =>
  C.join (fun dv_1 vs_1 w => flotillaref05_Decode_j3 C v2_1 v4_1 v5_1 dv_1 vs_1 w Q) (fun j_1 =>
  C.step (sFieldAddr 33 v4_1 0) w fun v40_1 w =>
  C.step (sLoad 24 v40_1) w fun v41_1 w =>
  C.calls 27 #[v41_1] w fun v42_1 w =>
  C.bool v42_1
  (C.step (sLoad 63 v5_1) w fun v44_1 w =>
  C.step (sLoad 33 v4_1) w fun v45_1 w =>
  C.calls 28 #[v44_1, v45_1] w fun v46_1 w =>
  C.step (sExtract v46_1 0) w fun v47_1 w =>
  C.step (sExtract v46_1 1) w fun v48_1 w =>
  C.step (sStore 63 v5_1 v47_1) w fun vx_18 w =>
  C.step (sStore 33 v4_1 v48_1) w fun vx_19 w =>
  j_1 [] w)
  (j_1 [] w))
theorem flotillaref05_Decode_eq (C : Comb) (a0 : Value) (w : World) (Q : Value → World → Prop) : flotillaref05_Decode_x C a0 w Q = FunY Try.prog C 2 [14, 17, 19] Try.f11 [a0] w Q := by kernel_rfl
theorem flotillaref05_Decode_sound (a0 : Value) {w : World} {Q : Value → World → Prop} (h : flotillaref05_Decode_x (std Try.prog) a0 w Q) : CallsR Try.prog 11 #[a0] w Q :=
  calls_of_funY mixed Try.func11 (Eq.mp (flotillaref05_Decode_eq _ a0 w Q) h)

def rec_Unframe_x (C : Comb) (a0 : Value) (w : World) (Q : Value → World → Prop) : Prop :=
  C.step (sAlloc 33) w fun v2_1 w =>
  C.calls 25 #[a0] w fun v11_1 w =>
  C.calls 32 #[v11_1] w fun v13_1 w =>
  C.step (sConv 70 3 v13_1) w fun v14_1 w =>
  C.step (sBin .add 3 (.tmp 14) (.const (.int .i64 6)) v14_1 (.int .i64 6)) w fun v15_1 w =>
  C.calls 33 #[v11_1] w fun v17_1 w =>
  C.step (sBin .neq 34 (.tmp 17) (.const (.int .i64 0)) v17_1 (.int .i64 0)) w fun v18_1 w =>
  C.bool v18_1
  (C.step (sBuild 33 []) w fun v25_1 w =>
  C.step (sStore 33 v2_1 v25_1) w fun vx_1 w =>
  C.loadR 33 v2_1 w fun r_1 =>
  Q (.tuple #[r_1, (.int .i64 0), (.int .i64 4)]) w)
  (C.step (sBuiltin .len #[22] 3 [false] [a0]) w fun v21_1 w =>
  C.step (sBin .lss 3 (.tmp 21) (.tmp 22) v21_1 v15_1) w fun v23_1 w =>
  C.bool v23_1
  (C.step (sBuild 33 []) w fun v25_2 w =>
  C.step (sStore 33 v2_1 v25_2) w fun vx_2 w =>
  C.loadR 33 v2_1 w fun r_2 =>
  Q (.tuple #[r_2, (.int .i64 0), (.int .i64 4)]) w)
  (C.step (sSlice 22 a0 none (some v15_1) none) w fun v29_1 w =>
  C.calls 34 #[v29_1] w fun v30_1 w =>
  C.step (sExtract v30_1 0) w fun v31_1 w =>
  C.step (sExtract v30_1 1) w fun v32_1 w =>
  C.step (sBin .neq 34 (.tmp 33) (.const (.int .i64 0)) v32_1 (.int .i64 0)) w fun v34_1 w =>
  C.bool v34_1
  (C.step (sBuild 33 []) w fun v35_1 w =>
  C.step (sStore 33 v2_1 v35_1) w fun vx_3 w =>
  C.loadR 33 v2_1 w fun r_3 =>
  Q (.tuple #[r_3, (.int .i64 0), v32_1]) w)
  (C.step (sSlice 22 v31_1 (some (.int .i64 2)) none none) w fun v39_1 w =>
  C.calls 10 #[v39_1] w fun v40_1 w =>
  C.step (sExtract v40_1 0) w fun v41_1 w =>
  C.step (sExtract v40_1 1) w fun v42_1 w =>
  C.step (sAlloc 33) w fun v9_1 w =>
  C.step (sStore 33 v9_1 v41_1) w fun vx_4 w =>
  C.step (sBin .neq 34 (.tmp 43) (.const (.int .i64 0)) v42_1 (.int .i64 0)) w fun v44_1 w =>
  C.bool v44_1
  (C.step (sBuild 33 []) w fun v45_1 w =>
  C.step (sStore 33 v2_1 v45_1) w fun vx_5 w =>
  C.loadR 33 v2_1 w fun r_4 =>
  Q (.tuple #[r_4, (.int .i64 0), v42_1]) w)
  (C.step (sLoad 33 v9_1) w fun v47_1 w =>
  C.step (sStore 33 v2_1 v47_1) w fun vx_6 w =>
  C.loadR 33 v2_1 w fun r_5 =>
  Q (.tuple #[r_5, v15_1, (.int .i64 0)]) w))))
theorem rec_Unframe_eq (C : Comb) (a0 : Value) (w : World) (Q : Value → World → Prop) : rec_Unframe_x C a0 w Q = FunY Try.prog C 10 [] Try.f12 [a0] w Q := by kernel_rfl
theorem rec_Unframe_sound (a0 : Value) {w : World} {Q : Value → World → Prop} (h : rec_Unframe_x (std Try.prog) a0 w Q) : CallsR Try.prog 12 #[a0] w Q :=
  calls_of_funY mixed Try.func12 (Eq.mp (rec_Unframe_eq _ a0 w Q) h)

def flotillaref05_Unframe_x (C : Comb) (a0 : Value) (w : World) (Q : Value → World → Prop) : Prop :=
  C.step (sAlloc 33) w fun v2_1 w =>
  C.step (sBuiltin .len #[9] 3 [false] [a0]) w fun v11_1 w =>
  C.step (sBin .lss 3 (.tmp 11) (.const (.int .i64 2)) v11_1 (.int .i64 2)) w fun v12_1 w =>
  C.bool v12_1
  (C.step (sBuild 33 []) w fun v13_1 w =>
  C.step (sStore 33 v2_1 v13_1) w fun vx_1 w =>
  C.loadR 33 v2_1 w fun r_1 =>
  Q (.tuple #[r_1, (.int .i64 0), (.int .i64 4)]) w)
  (C.draw w fun S_1 w =>
  C.stepS S_1 (sIndex 9 a0 (.int .i64 0)) fun v15_1 =>
  C.stepS S_1 (sConv 5 3 v15_1) fun v16_1 =>
  C.stepS S_1 (sIndex 9 a0 (.int .i64 1)) fun v18_1 =>
  C.stepS S_1 (sConv 5 3 v18_1) fun v19_1 =>
  C.stepS S_1 (sBin .mul 3 (.const (.int .i64 256)) (.tmp 19) (.int .i64 256) v19_1) fun v20_1 =>
  C.stepS S_1 (sBin .add 3 (.tmp 16) (.tmp 20) v16_1 v20_1) fun v21_1 =>
  C.stepS S_1 (sBin .add 3 (.tmp 21) (.const (.int .i64 6)) v21_1 (.int .i64 6)) fun v22_1 =>
  C.step (sBuiltin .len #[9] 3 [false] [a0]) w fun v24_1 w =>
  C.step (sBin .lss 3 (.tmp 24) (.tmp 25) v24_1 v22_1) w fun v26_1 w =>
  C.bool v26_1
  (C.step (sBuild 33 []) w fun v27_1 w =>
  C.step (sStore 33 v2_1 v27_1) w fun vx_2 w =>
  C.loadR 33 v2_1 w fun r_2 =>
  Q (.tuple #[r_2, (.int .i64 0), (.int .i64 4)]) w)
  (C.step (sSlice 9 a0 none (some v22_1) none) w fun v31_1 w =>
  C.calls 35 #[v31_1] w fun v32_1 w =>
  C.step (sExtract v32_1 0) w fun v33_1 w =>
  C.step (sExtract v32_1 1) w fun v34_1 w =>
  C.step (sBin .neq 34 (.tmp 35) (.const (.int .i64 0)) v34_1 (.int .i64 0)) w fun v36_1 w =>
  C.bool v36_1
  (C.step (sBuild 33 []) w fun v37_1 w =>
  C.step (sStore 33 v2_1 v37_1) w fun vx_3 w =>
  C.loadR 33 v2_1 w fun r_3 =>
  Q (.tuple #[r_3, (.int .i64 0), (.int .i64 6)]) w)
  (C.step (sSlice 9 v33_1 (some (.int .i64 2)) none none) w fun v40_1 w =>
  C.calls 11 #[v40_1] w fun v41_1 w =>
  C.step (sExtract v41_1 0) w fun v42_1 w =>
  C.step (sExtract v41_1 1) w fun v43_1 w =>
  C.step (sAlloc 33) w fun v8_1 w =>
  C.step (sStore 33 v8_1 v42_1) w fun vx_4 w =>
  C.step (sBin .neq 34 (.tmp 44) (.const (.int .i64 0)) v43_1 (.int .i64 0)) w fun v45_1 w =>
  C.bool v45_1
  (C.step (sBuild 33 []) w fun v46_1 w =>
  C.step (sStore 33 v2_1 v46_1) w fun vx_5 w =>
  C.loadR 33 v2_1 w fun r_4 =>
  Q (.tuple #[r_4, (.int .i64 0), v43_1]) w)
  (C.step (sLoad 33 v8_1) w fun v48_1 w =>
  C.step (sStore 33 v2_1 v48_1) w fun vx_6 w =>
  C.loadR 33 v2_1 w fun r_5 =>
  Q (.tuple #[r_5, v22_1, (.int .i64 0)]) w))))
theorem flotillaref05_Unframe_eq (C : Comb) (a0 : Value) (w : World) (Q : Value → World → Prop) : flotillaref05_Unframe_x C a0 w Q = FunY Try.prog C 10 [] Try.f13 [a0] w Q := by kernel_rfl
theorem flotillaref05_Unframe_sound (a0 : Value) {w : World} {Q : Value → World → Prop} (h : flotillaref05_Unframe_x (std Try.prog) a0 w Q) : CallsR Try.prog 13 #[a0] w Q :=
  calls_of_funY mixed Try.func13 (Eq.mp (flotillaref05_Unframe_eq _ a0 w Q) h)

def flotillaref05_Same_k1 (C : Comb) (w : World) (Q : Value → World → Prop) : Prop :=
  Q (.bool false) w
def flotillaref05_Same_k3 (C : Comb) (w : World) (Q : Value → World → Prop) : Prop :=
  Q (.bool true) w
def flotillaref05_Same_k2 (C : Comb) (v2_1 : Value) (v3_1 : Value) (w : World) (Q : Value → World → Prop) : Prop :=
  C.loop [(.int .i64 0)] w fun dv_1 vs_1 w again_1 =>
  C.step (sFieldAddr 33 v2_1 8) w fun v89_1 w =>
  C.step (sLoad 31 v89_1) w fun v90_1 w =>
  C.step (sBuiltin .len #[31] 3 [false] [v90_1]) w fun v91_1 w =>
  C.step (sBin .lss 3 (.tmp 88) (.tmp 91) (vs_1.getD 0 undef) v91_1) w fun v92_1 w =>
  C.bool v92_1
  (C.draw w fun S_1 w =>
  C.stepS S_1 (sFieldAddr 33 v2_1 8) fun v95_1 =>
  C.stepS S_1 (sLoad 31 v95_1) fun v96_1 =>
  C.stepS S_1 (sIndexAddr 31 v96_1 (vs_1.getD 0 undef)) fun v98_1 =>
  C.stepS S_1 (sLoad 53 v98_1) fun v99_1 =>
  C.stepS S_1 (sFieldAddr 33 v3_1 8) fun v100_1 =>
  C.stepS S_1 (sLoad 31 v100_1) fun v101_1 =>
  C.stepS S_1 (sIndexAddr 31 v101_1 (vs_1.getD 0 undef)) fun v103_1 =>
  C.stepS S_1 (sLoad 53 v103_1) fun v104_1 =>
  C.stepS S_1 (sBin .neq 53 (.tmp 99) (.tmp 104) v99_1 v104_1) fun v105_1 =>
  C.bool v105_1
  (Q (.bool false) w)
  (C.step (sBin .add 3 (.tmp 93) (.const (.int .i64 1)) (vs_1.getD 0 undef) (.int .i64 1)) w fun v94_1 w =>
  again_1 [v94_1] w))
  (flotillaref05_Same_k3 C w Q)
def flotillaref05_Same_x (C : Comb) (a0 : Value) (a1 : Value) (w : World) (Q : Value → World → Prop) : Prop :=
  C.step (sBox 33 a0) w fun v2_1 w =>
  C.step (sBox 33 a1) w fun v3_1 w =>
  C.step (sFieldAddr 33 v2_1 0) w fun v7_1 w =>
  C.step (sLoad 24 v7_1) w fun v8_1 w =>
  C.step (sFieldAddr 33 v3_1 0) w fun v9_1 w =>
  C.step (sLoad 24 v9_1) w fun v10_1 w =>
  C.step (sBin .neq 24 (.tmp 8) (.tmp 10) v8_1 v10_1) w fun v11_1 w =>
  C.bool v11_1
  (flotillaref05_Same_k1 C w Q)
  (C.step (sFieldAddr 33 v2_1 1) w fun v13_1 w =>
  C.step (sLoad 26 v13_1) w fun v14_1 w =>
  C.step (sFieldAddr 33 v3_1 1) w fun v15_1 w =>
  C.step (sLoad 26 v15_1) w fun v16_1 w =>
  C.step (sBin .neq 26 (.tmp 14) (.tmp 16) v14_1 v16_1) w fun v17_1 w =>
  C.bool v17_1
  (flotillaref05_Same_k1 C w Q)
  (C.step (sFieldAddr 33 v2_1 2) w fun v20_1 w =>
  C.step (sLoad 3 v20_1) w fun v21_1 w =>
  C.step (sFieldAddr 33 v3_1 2) w fun v22_1 w =>
  C.step (sLoad 3 v22_1) w fun v23_1 w =>
  C.step (sBin .neq 3 (.tmp 21) (.tmp 23) v21_1 v23_1) w fun v24_1 w =>
  C.bool v24_1
  (flotillaref05_Same_k1 C w Q)
  (C.step (sFieldAddr 33 v2_1 3) w fun v27_1 w =>
  C.step (sLoad 26 v27_1) w fun v28_1 w =>
  C.step (sFieldAddr 33 v3_1 3) w fun v29_1 w =>
  C.step (sLoad 26 v29_1) w fun v30_1 w =>
  C.step (sBin .neq 26 (.tmp 28) (.tmp 30) v28_1 v30_1) w fun v31_1 w =>
  C.bool v31_1
  (flotillaref05_Same_k1 C w Q)
  (C.step (sFieldAddr 33 v2_1 4) w fun v34_1 w =>
  C.step (sLoad 26 v34_1) w fun v35_1 w =>
  C.step (sFieldAddr 33 v3_1 4) w fun v36_1 w =>
  C.step (sLoad 26 v36_1) w fun v37_1 w =>
  C.step (sBin .neq 26 (.tmp 35) (.tmp 37) v35_1 v37_1) w fun v38_1 w =>
  C.bool v38_1
  (flotillaref05_Same_k1 C w Q)
  (C.step (sFieldAddr 33 v2_1 5) w fun v41_1 w =>
  C.step (sLoad 3 v41_1) w fun v42_1 w =>
  C.step (sFieldAddr 33 v3_1 5) w fun v43_1 w =>
  C.step (sLoad 3 v43_1) w fun v44_1 w =>
  C.step (sBin .neq 3 (.tmp 42) (.tmp 44) v42_1 v44_1) w fun v45_1 w =>
  C.bool v45_1
  (flotillaref05_Same_k1 C w Q)
  (C.step (sFieldAddr 33 v2_1 6) w fun v48_1 w =>
  C.step (sLoad 29 v48_1) w fun v49_1 w =>
  C.step (sFieldAddr 33 v3_1 6) w fun v50_1 w =>
  C.step (sLoad 29 v50_1) w fun v51_1 w =>
  C.step (sBin .neq 29 (.tmp 49) (.tmp 51) v49_1 v51_1) w fun v52_1 w =>
  C.bool v52_1
  (Q (.bool false) w)
  (C.step (sFieldAddr 33 v2_1 7) w fun v54_1 w =>
  C.step (sLoad 30 v54_1) w fun v55_1 w =>
  C.step (sBuiltin .len #[30] 3 [false] [v55_1]) w fun v56_1 w =>
  C.step (sFieldAddr 33 v3_1 7) w fun v57_1 w =>
  C.step (sLoad 30 v57_1) w fun v58_1 w =>
  C.step (sBuiltin .len #[30] 3 [false] [v58_1]) w fun v59_1 w =>
  C.step (sBin .neq 3 (.tmp 56) (.tmp 59) v56_1 v59_1) w fun v60_1 w =>
  C.bool v60_1
  (Q (.bool false) w)
  (C.step (sFieldAddr 33 v2_1 8) w fun v62_1 w =>
  C.step (sLoad 31 v62_1) w fun v63_1 w =>
  C.step (sBuiltin .len #[31] 3 [false] [v63_1]) w fun v64_1 w =>
  C.step (sFieldAddr 33 v3_1 8) w fun v65_1 w =>
  C.step (sLoad 31 v65_1) w fun v66_1 w =>
  C.step (sBuiltin .len #[31] 3 [false] [v66_1]) w fun v67_1 w =>
  C.step (sBin .neq 3 (.tmp 64) (.tmp 67) v64_1 v67_1) w fun v68_1 w =>
  C.bool v68_1
  (Q (.bool false) w)
  (C.loop [(.int .i64 0)] w fun dv_2 vs_2 w again_2 =>
  C.step (sFieldAddr 33 v2_1 7) w fun v71_1 w =>
  C.step (sLoad 30 v71_1) w fun v72_1 w =>
  C.step (sBuiltin .len #[30] 3 [false] [v72_1]) w fun v73_1 w =>
  C.step (sBin .lss 3 (.tmp 70) (.tmp 73) (vs_2.getD 0 undef) v73_1) w fun v74_1 w =>
  C.bool v74_1
  (C.draw w fun S_2 w =>
  C.stepS S_2 (sFieldAddr 33 v2_1 7) fun v77_1 =>
  C.stepS S_2 (sLoad 30 v77_1) fun v78_1 =>
  C.stepS S_2 (sIndexAddr 30 v78_1 (vs_2.getD 0 undef)) fun v80_1 =>
  C.stepS S_2 (sLoad 51 v80_1) fun v81_1 =>
  C.stepS S_2 (sFieldAddr 33 v3_1 7) fun v82_1 =>
  C.stepS S_2 (sLoad 30 v82_1) fun v83_1 =>
  C.stepS S_2 (sIndexAddr 30 v83_1 (vs_2.getD 0 undef)) fun v85_1 =>
  C.stepS S_2 (sLoad 51 v85_1) fun v86_1 =>
  C.stepS S_2 (sBin .neq 51 (.tmp 81) (.tmp 86) v81_1 v86_1) fun v87_1 =>
  C.bool v87_1
  (Q (.bool false) w)
  (C.step (sBin .add 3 (.tmp 75) (.const (.int .i64 1)) (vs_2.getD 0 undef) (.int .i64 1)) w fun v76_1 w =>
  again_2 [v76_1] w))
  (flotillaref05_Same_k2 C v2_1 v3_1 w Q))))))))))
theorem flotillaref05_Same_eq (C : Comb) (a0 : Value) (a1 : Value) (w : World) (Q : Value → World → Prop) : flotillaref05_Same_x C a0 a1 w Q = FunY Try.prog C 2 [] Try.f14 [a0, a1] w Q := by kernel_rfl
theorem flotillaref05_Same_sound (a0 : Value) (a1 : Value) {w : World} {Q : Value → World → Prop} (h : flotillaref05_Same_x (std Try.prog) a0 a1 w Q) : CallsR Try.prog 14 #[a0, a1] w Q :=
  calls_of_funY mixed Try.func14 (Eq.mp (flotillaref05_Same_eq _ a0 a1 w Q) h)

def rec_Frame_x (C : Comb) (a0 : Value) (w : World) (Q : Value → World → Prop) : Prop :=
  C.step (sBox 33 a0) w fun v1_1 w =>
  C.step (sLoad 33 v1_1) w fun v8_1 w =>
  C.calls 19 #[v8_1] w fun v9_1 w =>
  C.step (sExtract v9_1 0) w fun v10_1 w =>
  C.step (sExtract v9_1 1) w fun v11_1 w =>
  C.step (sBin .neq 34 (.tmp 12) (.const (.int .i64 0)) v11_1 (.int .i64 0)) w fun v13_1 w =>
  C.bool v13_1
  (Q (.tuple #[(.slice none 0 0), v11_1]) w)
  (C.calls 36 #[] w fun v15_1 w =>
  C.step (sBuiltin .len #[22] 3 [false] [v10_1]) w fun v18_1 w =>
  C.step (sConv 3 70 v18_1) w fun v19_1 w =>
  C.calls 37 #[v15_1, v19_1] w fun v20_1 w =>
  C.calls 39 #[v15_1] w fun v22_1 w =>
  C.step (sBuiltin .append #[22, 22] 22 [false, false] [v22_1, v10_1]) w fun v24_1 w =>
  C.calls 38 #[v24_1] w fun v25_1 w =>
  Q (.tuple #[v25_1, (.int .i64 0)]) w)
theorem rec_Frame_eq (C : Comb) (a0 : Value) (w : World) (Q : Value → World → Prop) : rec_Frame_x C a0 w Q = FunY Try.prog C 7 [] Try.f15 [a0] w Q := by kernel_rfl
theorem rec_Frame_sound (a0 : Value) {w : World} {Q : Value → World → Prop} (h : rec_Frame_x (std Try.prog) a0 w Q) : CallsR Try.prog 15 #[a0] w Q :=
  calls_of_funY mixed Try.func15 (Eq.mp (rec_Frame_eq _ a0 w Q) h)

def rec_Check_k1 (C : Comb) (w : World) (Q : Value → World → Prop) : Prop :=
  Q (.int .i64 1) w
def rec_Check_k2 (C : Comb) (u109_2 : Value) (w : World) (Q : Value → World → Prop) : Prop :=
  C.bool u109_2
  (Q (.int .i64 1) w)
  (Q (.int .i64 0) w)
def rec_Check_j3 (C : Comb) (v1_1 : Value) (dv_4 : Nat → Value) (vs_4 : List Value) (w : World) (Q : Value → World → Prop) : Prop :=
  C.step (sUn .not (vs_4.getD 0 undef)) w fun v94_1 w =>
  C.bool v94_1
  (rec_Check_k1 C w Q)
  (C.step (sFieldAddr 33 v1_1 0) w fun v96_1 w =>
  C.step (sLoad 24 v96_1) w fun v97_1 w =>
  C.step (sBin .neq 24 (.tmp 97) (.const (.int .i64 2)) v97_1 (.int .i64 2)) w fun v98_1 w =>
  C.bool v98_1
  (C.step (sFieldAddr 33 v1_1 4) w fun v100_1 w =>
  C.step (sLoad 26 v100_1) w fun v101_1 w =>
  C.step (sBin .neq 26 (.tmp 101) (.const (.int .u64 0)) v101_1 (.int .u64 0)) w fun v102_1 w =>
  C.bool v102_1
  (rec_Check_k1 C w Q)
  (C.step (sLoad 33 v1_1) w fun v106_1 w =>
  C.calls 46 #[v106_1] w fun v107_1 w =>
  C.step (sUn .not v107_1) w fun v108_1 w =>
  rec_Check_k2 C v108_1 w Q))
  (C.step (sLoad 33 v1_1) w fun v106_2 w =>
  C.calls 46 #[v106_2] w fun v107_2 w =>
  C.step (sUn .not v107_2) w fun v108_2 w =>
  rec_Check_k2 C v108_2 w Q))
def rec_Check_j4 (C : Comb) (v1_1 : Value) (dv_3 : Nat → Value) (vs_3 : List Value) (w : World) (Q : Value → World → Prop) : Prop :=
  C.join (fun dv_4 vs_4 w => rec_Check_j3 C v1_1 dv_4 vs_4 w Q) (fun j_4 =>
  C.step (sFieldAddr 33 v1_1 0) w fun v77_1 w =>
  C.step (sLoad 24 v77_1) w fun v78_1 w =>
  C.step (sBin .neq 24 (.tmp 78) (.const (.int .i64 8)) v78_1 (.int .i64 8)) w fun v79_1 w =>
  C.bool v79_1
  (C.bool (vs_3.getD 0 undef)
  (C.step (sFieldAddr 33 v1_1 7) w fun v82_1 w =>
  C.step (sLoad 30 v82_1) w fun v83_1 w =>
  C.step (sBuiltin .len #[30] 3 [false] [v83_1]) w fun v84_1 w =>
  C.step (sBin .eql 3 (.tmp 84) (.const (.int .i64 0)) v84_1 (.int .i64 0)) w fun v85_1 w =>
  C.bool v85_1
  (C.step (sFieldAddr 33 v1_1 8) w fun v88_1 w =>
  C.step (sLoad 31 v88_1) w fun v89_1 w =>
  C.step (sBuiltin .len #[31] 3 [false] [v89_1]) w fun v90_1 w =>
  C.step (sBin .eql 3 (.tmp 90) (.const (.int .i64 0)) v90_1 (.int .i64 0)) w fun v91_1 w =>
  j_4 [v91_1] w)
  (j_4 [(.bool false)] w))
  (j_4 [(.bool false)] w))
  (j_4 [(vs_3.getD 0 undef)] w))
def rec_Check_j5 (C : Comb) (v1_1 : Value) (dv_2 : Nat → Value) (vs_2 : List Value) (w : World) (Q : Value → World → Prop) : Prop :=
  C.join (fun dv_3 vs_3 w => rec_Check_j4 C v1_1 dv_3 vs_3 w Q) (fun j_3 =>
  C.step (sFieldAddr 33 v1_1 0) w fun v57_1 w =>
  C.step (sLoad 24 v57_1) w fun v58_1 w =>
  C.calls 44 #[v58_1] w fun v59_1 w =>
  C.bool v59_1
  (C.bool (vs_2.getD 0 undef)
  (C.step (sFieldAddr 33 v1_1 2) w fun v62_1 w =>
  C.step (sLoad 3 v62_1) w fun v63_1 w =>
  C.step (sBin .eql 3 (.tmp 63) (.const (.int .i64 0)) v63_1 (.int .i64 0)) w fun v64_1 w =>
  C.bool v64_1
  (C.step (sFieldAddr 33 v1_1 3) w fun v67_1 w =>
  C.step (sLoad 26 v67_1) w fun v68_1 w =>
  C.step (sBin .eql 26 (.tmp 68) (.const (.int .u64 0)) v68_1 (.int .u64 0)) w fun v69_1 w =>
  j_3 [v69_1] w)
  (j_3 [(.bool false)] w))
  (j_3 [(.bool false)] w))
  (C.bool (vs_2.getD 0 undef)
  (C.step (sFieldAddr 33 v1_1 2) w fun v73_1 w =>
  C.step (sLoad 3 v73_1) w fun v74_1 w =>
  C.calls 45 #[v74_1] w fun v75_1 w =>
  j_3 [v75_1] w)
  (j_3 [(.bool false)] w)))
def rec_Check_j6 (C : Comb) (v1_1 : Value) (dv_1 : Nat → Value) (vs_1 : List Value) (w : World) (Q : Value → World → Prop) : Prop :=
  C.join (fun dv_2 vs_2 w => rec_Check_j5 C v1_1 dv_2 vs_2 w Q) (fun j_2 =>
  C.step (sFieldAddr 33 v1_1 0) w fun v31_1 w =>
  C.step (sLoad 24 v31_1) w fun v32_1 w =>
  C.calls 41 #[v32_1] w fun v33_1 w =>
  C.bool v33_1
  (C.bool (vs_1.getD 0 undef)
  (C.step (sFieldAddr 33 v1_1 5) w fun v36_1 w =>
  C.step (sLoad 3 v36_1) w fun v37_1 w =>
  C.calls 42 #[v37_1] w fun v38_1 w =>
  C.bool v38_1
  (C.step (sFieldAddr 33 v1_1 6) w fun v41_1 w =>
  C.step (sLoad 29 v41_1) w fun v42_1 w =>
  C.calls 43 #[v42_1] w fun v43_1 w =>
  j_2 [v43_1] w)
  (j_2 [(.bool false)] w))
  (j_2 [(.bool false)] w))
  (C.bool (vs_1.getD 0 undef)
  (C.step (sFieldAddr 33 v1_1 5) w fun v47_1 w =>
  C.step (sLoad 3 v47_1) w fun v48_1 w =>
  C.step (sBin .eql 3 (.tmp 48) (.const (.int .i64 0)) v48_1 (.int .i64 0)) w fun v49_1 w =>
  C.bool v49_1
  (C.step (sFieldAddr 33 v1_1 6) w fun v52_1 w =>
  C.step (sLoad 29 v52_1) w fun v53_1 w =>
  C.step (sBuild 29 []) w fun v54_1 w =>
  C.step (sBin .eql 29 (.tmp 53) (.tmp 54) v53_1 v54_1) w fun v55_1 w =>
  j_2 [v55_1] w)
  (j_2 [(.bool false)] w))
  (j_2 [(.bool false)] w)))
def rec_Check_x (C : Comb) (a0 : Value) (w : World) (Q : Value → World → Prop) : Prop :=
  C.step (sBox 33 a0) w fun v1_1 w =>
  C.join (fun dv_1 vs_1 w => rec_Check_j6 C v1_1 dv_1 vs_1 w Q) (fun j_1 =>
  C.step (sFieldAddr 33 v1_1 0) w fun v4_1 w =>
  C.step (sLoad 24 v4_1) w fun v5_1 w =>
  C.step (sBin .gtr 24 (.tmp 5) (.const (.int .i64 0)) v5_1 (.int .i64 0)) w fun v6_1 w =>
  C.bool v6_1
  (C.step (sFieldAddr 33 v1_1 0) w fun v8_1 w =>
  C.step (sLoad 24 v8_1) w fun v9_1 w =>
  C.step (sBin .lss 24 (.tmp 9) (.const (.int .i64 9)) v9_1 (.int .i64 9)) w fun v10_1 w =>
  C.bool v10_1
  (C.step (sFieldAddr 33 v1_1 1) w fun v13_1 w =>
  C.step (sLoad 26 v13_1) w fun v14_1 w =>
  C.calls 40 #[v14_1] w fun v15_1 w =>
  C.bool v15_1
  (C.step (sFieldAddr 33 v1_1 3) w fun v18_1 w =>
  C.step (sLoad 26 v18_1) w fun v19_1 w =>
  C.step (sFieldAddr 33 v1_1 1) w fun v20_1 w =>
  C.step (sLoad 26 v20_1) w fun v21_1 w =>
  C.step (sBin .lss 26 (.tmp 19) (.tmp 21) v19_1 v21_1) w fun v22_1 w =>
  C.bool v22_1
  (C.step (sFieldAddr 33 v1_1 4) w fun v25_1 w =>
  C.step (sLoad 26 v25_1) w fun v26_1 w =>
  C.step (sFieldAddr 33 v1_1 1) w fun v27_1 w =>
  C.step (sLoad 26 v27_1) w fun v28_1 w =>
  C.step (sBin .lss 26 (.tmp 26) (.tmp 28) v26_1 v28_1) w fun v29_1 w =>
  j_1 [v29_1] w)
  (j_1 [(.bool false)] w))
  (j_1 [(.bool false)] w))
  (j_1 [(.bool false)] w))
  (j_1 [(.bool false)] w))
theorem rec_Check_eq (C : Comb) (a0 : Value) (w : World) (Q : Value → World → Prop) : rec_Check_x C a0 w Q = FunY Try.prog C 2 [2, 5, 8, 10] Try.f16 [a0] w Q := by kernel_rfl
theorem rec_Check_sound (a0 : Value) {w : World} {Q : Value → World → Prop} (h : rec_Check_x (std Try.prog) a0 w Q) : CallsR Try.prog 16 #[a0] w Q :=
  calls_of_funY mixed Try.func16 (Eq.mp (rec_Check_eq _ a0 w Q) h)

def flotillalaw05_light_k1 (C : Comb) (w : World) (Q : Value → World → Prop) : Prop :=
  Q (.bool false) w
def flotillalaw05_light_x (C : Comb) (a0 : Value) (w : World) (Q : Value → World → Prop) : Prop :=
  C.step (sBox 33 a0) w fun v1_1 w =>
  C.step (sFieldAddr 33 v1_1 7) w fun v3_1 w =>
  C.step (sLoad 30 v3_1) w fun v4_1 w =>
  C.step (sBuiltin .len #[30] 3 [false] [v4_1]) w fun v5_1 w =>
  C.step (sBin .leq 3 (.tmp 5) (.const (.int .i64 300)) v5_1 (.int .i64 300)) w fun v6_1 w =>
  C.bool v6_1
  (C.step (sFieldAddr 33 v1_1 8) w fun v8_1 w =>
  C.step (sLoad 31 v8_1) w fun v9_1 w =>
  C.step (sBuiltin .len #[31] 3 [false] [v9_1]) w fun v10_1 w =>
  C.step (sBin .leq 3 (.tmp 10) (.const (.int .i64 300)) v10_1 (.int .i64 300)) w fun v11_1 w =>
  C.bool v11_1
  (C.step (sFieldAddr 33 v1_1 6) w fun v14_1 w =>
  C.step (sFieldAddr 29 v14_1 1) w fun v15_1 w =>
  C.step (sLoad 9 v15_1) w fun v16_1 w =>
  C.step (sBuiltin .len #[9] 3 [false] [v16_1]) w fun v17_1 w =>
  C.step (sFieldAddr 33 v1_1 6) w fun v18_1 w =>
  C.step (sFieldAddr 29 v18_1 2) w fun v19_1 w =>
  C.step (sLoad 9 v19_1) w fun v20_1 w =>
  C.step (sBuiltin .len #[9] 3 [false] [v20_1]) w fun v21_1 w =>
  C.step (sBin .add 3 (.tmp 17) (.tmp 21) v17_1 v21_1) w fun v22_1 w =>
  C.step (sFieldAddr 33 v1_1 6) w fun v23_1 w =>
  C.step (sFieldAddr 29 v23_1 3) w fun v24_1 w =>
  C.step (sLoad 9 v24_1) w fun v25_1 w =>
  C.step (sBuiltin .len #[9] 3 [false] [v25_1]) w fun v26_1 w =>
  C.step (sBin .add 3 (.tmp 22) (.tmp 26) v22_1 v26_1) w fun v27_1 w =>
  C.step (sBin .leq 3 (.tmp 27) (.const (.int .i64 1000)) v27_1 (.int .i64 1000)) w fun v28_1 w =>
  Q v28_1 w)
  (flotillalaw05_light_k1 C w Q))
  (flotillalaw05_light_k1 C w Q)
theorem flotillalaw05_light_eq (C : Comb) (a0 : Value) (w : World) (Q : Value → World → Prop) : flotillalaw05_light_x C a0 w Q = FunY Try.prog C 2 [] Try.f17 [a0] w Q := by kernel_rfl
theorem flotillalaw05_light_sound (a0 : Value) {w : World} {Q : Value → World → Prop} (h : flotillalaw05_light_x (std Try.prog) a0 w Q) : CallsR Try.prog 17 #[a0] w Q :=
  calls_of_funY mixed Try.func17 (Eq.mp (flotillalaw05_light_eq _ a0 w Q) h)

def flotillaref05_Bytes_j1 (C : Comb) (dv_3 : Nat → Value) (vs_3 : List Value) (w : World) (Q : Value → World → Prop) : Prop :=
  Q (vs_3.getD 0 undef) w
def flotillaref05_Bytes_k2 (C : Comb) (v1_1 : Value) (j_3 : List Value → World → Prop) (u3_2 : Value) (w : World) (Q : Value → World → Prop) : Prop :=
  C.step (sFieldAddr 33 v1_1 8) w fun v101_1 w =>
  C.step (sLoad 31 v101_1) w fun v102_1 w =>
  C.step (sBuiltin .len #[31] 3 [false] [v102_1]) w fun v103_1 w =>
  C.step (sConv 3 25 v103_1) w fun v104_1 w =>
  C.calls 47 #[v104_1, (.int .i64 1)] w fun v105_1 w =>
  C.step (sBin .add 9 (.tmp 100) (.tmp 105) u3_2 v105_1) w fun v106_1 w =>
  C.loop [v106_1, (.int .i64 0)] w fun dv_4 vs_4 w again_1 =>
  C.step (sFieldAddr 33 v1_1 8) w fun v108_1 w =>
  C.step (sLoad 31 v108_1) w fun v109_1 w =>
  C.step (sBuiltin .len #[31] 3 [false] [v109_1]) w fun v110_1 w =>
  C.step (sBin .lss 3 (.tmp 107) (.tmp 110) (vs_4.getD 1 undef) v110_1) w fun v111_1 w =>
  C.bool v111_1
  (C.draw w fun S_6 w =>
  C.stepS S_6 (sFieldAddr 33 v1_1 8) fun v115_1 =>
  C.stepS S_6 (sLoad 31 v115_1) fun v116_1 =>
  C.stepS S_6 (sIndexAddr 31 v116_1 (vs_4.getD 1 undef)) fun v118_1 =>
  C.stepS S_6 (sFieldAddr 53 v118_1 0) fun v119_1 =>
  C.stepS S_6 (sLoad 3 v119_1) fun v120_1 =>
  C.stepS S_6 (sConv 3 25 v120_1) fun v121_1 =>
  C.stepS S_6 (sFieldAddr 33 v1_1 8) fun v124_1 =>
  C.stepS S_6 (sLoad 31 v124_1) fun v125_1 =>
  C.stepS S_6 (sIndexAddr 31 v125_1 (vs_4.getD 1 undef)) fun v127_1 =>
  C.stepS S_6 (sFieldAddr 53 v127_1 1) fun v128_1 =>
  C.stepS S_6 (sLoad 26 v128_1) fun v129_1 =>
  C.calls 47 #[v121_1, (.int .i64 2)] w fun v122_1 w =>
  C.keepS S_6 w fun S_7 =>
  C.stepS S_7 (sBin .add 9 (.tmp 114) (.tmp 122) (vs_4.getD 0 undef) v122_1) fun v123_1 =>
  C.calls 47 #[v129_1, (.int .i64 8)] w fun v130_1 w =>
  C.keepS S_7 w fun S_8 =>
  C.stepS S_8 (sBin .add 9 (.tmp 123) (.tmp 130) v123_1 v130_1) fun v131_1 =>
  C.step (sBin .add 3 (.tmp 112) (.const (.int .i64 1)) (vs_4.getD 1 undef) (.int .i64 1)) w fun v113_1 w =>
  again_1 [v131_1, v113_1] w)
  (j_3 [(vs_4.getD 0 undef)] w)
def flotillaref05_Bytes_j3 (C : Comb) (v1_1 : Value) (dv_2 : Nat → Value) (vs_2 : List Value) (w : World) (Q : Value → World → Prop) : Prop :=
  C.join (fun dv_3 vs_3 w => flotillaref05_Bytes_j1 C dv_3 vs_3 w Q) (fun j_3 =>
  C.step (sFieldAddr 33 v1_1 0) w fun v63_1 w =>
  C.step (sLoad 24 v63_1) w fun v64_1 w =>
  C.step (sBin .eql 24 (.tmp 64) (.const (.int .i64 8)) v64_1 (.int .i64 8)) w fun v65_1 w =>
  C.bool v65_1
  (C.step (sFieldAddr 33 v1_1 7) w fun v67_1 w =>
  C.step (sLoad 30 v67_1) w fun v68_1 w =>
  C.step (sBuiltin .len #[30] 3 [false] [v68_1]) w fun v69_1 w =>
  C.step (sConv 3 25 v69_1) w fun v70_1 w =>
  C.calls 47 #[v70_1, (.int .i64 1)] w fun v71_1 w =>
  C.step (sBin .add 9 (.tmp 66) (.tmp 71) (vs_2.getD 0 undef) v71_1) w fun v72_1 w =>
  C.loop [v72_1, (.int .i64 0)] w fun dv_5 vs_5 w again_2 =>
  C.step (sFieldAddr 33 v1_1 7) w fun v74_1 w =>
  C.step (sLoad 30 v74_1) w fun v75_1 w =>
  C.step (sBuiltin .len #[30] 3 [false] [v75_1]) w fun v76_1 w =>
  C.step (sBin .lss 3 (.tmp 73) (.tmp 76) (vs_5.getD 1 undef) v76_1) w fun v77_1 w =>
  C.bool v77_1
  (C.step (sFieldAddr 33 v1_1 7) w fun v80_1 w =>
  C.step (sLoad 30 v80_1) w fun v81_1 w =>
  C.step (sIndexAddr 30 v81_1 (vs_5.getD 1 undef)) w fun v83_1 w =>
  C.step (sLoad 51 v83_1) w fun v84_1 w =>
  C.step (sAlloc 51) w fun v5_1 w =>
  C.step (sStore 51 v5_1 v84_1) w fun vx_1 w =>
  C.draw w fun S_9 w =>
  C.stepS S_9 (sFieldAddr 51 v5_1 0) fun v86_1 =>
  C.stepS S_9 (sLoad 3 v86_1) fun v87_1 =>
  C.stepS S_9 (sConv 3 25 v87_1) fun v88_1 =>
  C.stepS S_9 (sFieldAddr 51 v5_1 1) fun v91_1 =>
  C.stepS S_9 (sLoad 49 v91_1) fun v92_1 =>
  C.stepS S_9 (sConv 49 25 v92_1) fun v93_1 =>
  C.stepS S_9 (sFieldAddr 51 v5_1 2) fun v96_1 =>
  C.stepS S_9 (sLoad 26 v96_1) fun v97_1 =>
  C.calls 47 #[v88_1, (.int .i64 4)] w fun v89_1 w =>
  C.keepS S_9 w fun S_10 =>
  C.stepS S_10 (sBin .add 9 (.tmp 85) (.tmp 89) (vs_5.getD 0 undef) v89_1) fun v90_1 =>
  C.calls 47 #[v93_1, (.int .i64 1)] w fun v94_1 w =>
  C.keepS S_10 w fun S_11 =>
  C.stepS S_11 (sBin .add 9 (.tmp 90) (.tmp 94) v90_1 v94_1) fun v95_1 =>
  C.calls 47 #[v97_1, (.int .i64 8)] w fun v98_1 w =>
  C.keepS S_11 w fun S_12 =>
  C.stepS S_12 (sBin .add 9 (.tmp 95) (.tmp 98) v95_1 v98_1) fun v99_1 =>
  C.step (sBin .add 3 (.tmp 78) (.const (.int .i64 1)) (vs_5.getD 1 undef) (.int .i64 1)) w fun v79_1 w =>
  again_2 [v99_1, v79_1] w)
  (flotillaref05_Bytes_k2 C v1_1 j_3 (vs_5.getD 0 undef) w Q))
  (j_3 [(vs_2.getD 0 undef)] w))
def flotillaref05_Bytes_j4 (C : Comb) (v1_1 : Value) (dv_1 : Nat → Value) (vs_1 : List Value) (w : World) (Q : Value → World → Prop) : Prop :=
  C.join (fun dv_2 vs_2 w => flotillaref05_Bytes_j3 C v1_1 dv_2 vs_2 w Q) (fun j_2 =>
  C.step (sFieldAddr 33 v1_1 0) w fun v55_1 w =>
  C.step (sLoad 24 v55_1) w fun v56_1 w =>
  C.step (sBin .eql 24 (.tmp 56) (.const (.int .i64 2)) v56_1 (.int .i64 2)) w fun v57_1 w =>
  C.bool v57_1
  (C.step (sFieldAddr 33 v1_1 4) w fun v59_1 w =>
  C.step (sLoad 26 v59_1) w fun v60_1 w =>
  C.calls 47 #[v60_1, (.int .i64 8)] w fun v61_1 w =>
  C.step (sBin .add 9 (.tmp 58) (.tmp 61) (vs_1.getD 0 undef) v61_1) w fun v62_1 w =>
  j_2 [v62_1] w)
  (j_2 [(vs_1.getD 0 undef)] w))
def flotillaref05_Bytes_x (C : Comb) (a0 : Value) (w : World) (Q : Value → World → Prop) : Prop :=
  C.step (sBox 33 a0) w fun v1_1 w =>
  C.draw w fun S_1 w =>
  C.stepS S_1 (sFieldAddr 33 v1_1 0) fun v7_1 =>
  C.stepS S_1 (sLoad 24 v7_1) fun v8_1 =>
  C.stepS S_1 (sConv 24 25 v8_1) fun v9_1 =>
  C.stepS S_1 (sFieldAddr 33 v1_1 1) fun v11_1 =>
  C.stepS S_1 (sLoad 26 v11_1) fun v12_1 =>
  C.stepS S_1 (sFieldAddr 33 v1_1 2) fun v15_1 =>
  C.stepS S_1 (sLoad 3 v15_1) fun v16_1 =>
  C.stepS S_1 (sConv 3 25 v16_1) fun v17_1 =>
  C.stepS S_1 (sFieldAddr 33 v1_1 3) fun v20_1 =>
  C.stepS S_1 (sLoad 26 v20_1) fun v21_1 =>
  C.calls 47 #[v9_1, (.int .i64 1)] w fun v10_1 w =>
  C.keepS S_1 w fun S_2 =>
  C.calls 47 #[v12_1, (.int .i64 8)] w fun v13_1 w =>
  C.keepS S_2 w fun S_3 =>
  C.stepS S_3 (sBin .add 9 (.tmp 10) (.tmp 13) v10_1 v13_1) fun v14_1 =>
  C.calls 47 #[v17_1, (.int .i64 4)] w fun v18_1 w =>
  C.keepS S_3 w fun S_4 =>
  C.stepS S_4 (sBin .add 9 (.tmp 14) (.tmp 18) v14_1 v18_1) fun v19_1 =>
  C.calls 47 #[v21_1, (.int .i64 8)] w fun v22_1 w =>
  C.keepS S_4 w fun S_5 =>
  C.stepS S_5 (sBin .add 9 (.tmp 19) (.tmp 22) v19_1 v22_1) fun v23_1 =>
  C.join (fun dv_1 vs_1 w => flotillaref05_Bytes_j4 C v1_1 dv_1 vs_1 w Q) (fun j_1 =>
  C.step (sFieldAddr 33 v1_1 0) w fun v24_1 w =>
  C.step (sLoad 24 v24_1) w fun v25_1 w =>
  C.calls 27 #[v25_1] w fun v26_1 w =>
  C.bool v26_1
  (C.draw w fun S_13 w =>
  C.stepS S_13 (sFieldAddr 33 v1_1 5) fun v28_1 =>
  C.stepS S_13 (sLoad 3 v28_1) fun v29_1 =>
  C.stepS S_13 (sConv 3 25 v29_1) fun v30_1 =>
  C.stepS S_13 (sFieldAddr 33 v1_1 6) fun v33_1 =>
  C.stepS S_13 (sFieldAddr 29 v33_1 0) fun v34_1 =>
  C.stepS S_13 (sLoad 27 v34_1) fun v35_1 =>
  C.stepS S_13 (sConv 27 25 v35_1) fun v36_1 =>
  C.calls 47 #[v30_1, (.int .i64 2)] w fun v31_1 w =>
  C.keepS S_13 w fun S_14 =>
  C.stepS S_14 (sBin .add 9 (.tmp 27) (.tmp 31) v23_1 v31_1) fun v32_1 =>
  C.calls 47 #[v36_1, (.int .i64 1)] w fun v37_1 w =>
  C.keepS S_14 w fun S_15 =>
  C.stepS S_15 (sBin .add 9 (.tmp 32) (.tmp 37) v32_1 v37_1) fun v38_1 =>
  C.draw w fun S_16 w =>
  C.stepS S_16 (sFieldAddr 33 v1_1 6) fun v40_1 =>
  C.stepS S_16 (sFieldAddr 29 v40_1 1) fun v41_1 =>
  C.stepS S_16 (sLoad 9 v41_1) fun v42_1 =>
  C.stepS S_16 (sFieldAddr 33 v1_1 6) fun v45_1 =>
  C.stepS S_16 (sFieldAddr 29 v45_1 2) fun v46_1 =>
  C.stepS S_16 (sLoad 9 v46_1) fun v47_1 =>
  C.stepS S_16 (sFieldAddr 33 v1_1 6) fun v50_1 =>
  C.stepS S_16 (sFieldAddr 29 v50_1 3) fun v51_1 =>
  C.stepS S_16 (sLoad 9 v51_1) fun v52_1 =>
  C.calls 48 #[v42_1] w fun v43_1 w =>
  C.keepS S_16 w fun S_17 =>
  C.stepS S_17 (sBin .add 9 (.tmp 39) (.tmp 43) v38_1 v43_1) fun v44_1 =>
  C.calls 48 #[v47_1] w fun v48_1 w =>
  C.keepS S_17 w fun S_18 =>
  C.stepS S_18 (sBin .add 9 (.tmp 44) (.tmp 48) v44_1 v48_1) fun v49_1 =>
  C.calls 48 #[v52_1] w fun v53_1 w =>
  C.keepS S_18 w fun S_19 =>
  C.stepS S_19 (sBin .add 9 (.tmp 49) (.tmp 53) v49_1 v53_1) fun v54_1 =>
  j_1 [v54_1] w)
  (j_1 [v23_1] w))
theorem flotillaref05_Bytes_eq (C : Comb) (a0 : Value) (w : World) (Q : Value → World → Prop) : flotillaref05_Bytes_x C a0 w Q = FunY Try.prog C 2 [5, 7, 19] Try.f18 [a0] w Q := by kernel_rfl
theorem flotillaref05_Bytes_sound (a0 : Value) {w : World} {Q : Value → World → Prop} (h : flotillaref05_Bytes_x (std Try.prog) a0 w Q) : CallsR Try.prog 18 #[a0] w Q :=
  calls_of_funY mixed Try.func18 (Eq.mp (flotillaref05_Bytes_eq _ a0 w Q) h)

def rec_Encode_j1 (C : Comb) (v12_1 : Value) (dv_3 : Nat → Value) (vs_3 : List Value) (w : World) (Q : Value → World → Prop) : Prop :=
  C.calls 39 #[v12_1] w fun v122_1 w =>
  Q (.tuple #[v122_1, (.int .i64 0)]) w
def rec_Encode_k2 (C : Comb) (v1_1 : Value) (v12_1 : Value) (j_3 : List Value → World → Prop) (w : World) (Q : Value → World → Prop) : Prop :=
  C.step (sFieldAddr 33 v1_1 8) w fun v99_1 w =>
  C.step (sLoad 31 v99_1) w fun v100_1 w =>
  C.step (sBuiltin .len #[31] 3 [false] [v100_1]) w fun v101_1 w =>
  C.step (sConv 3 5 v101_1) w fun v102_1 w =>
  C.calls 49 #[v12_1, v102_1] w fun v103_1 w =>
  C.step (sFieldAddr 33 v1_1 8) w fun v104_1 w =>
  C.step (sLoad 31 v104_1) w fun v105_1 w =>
  C.step (sBuiltin .len #[31] 3 [false] [v105_1]) w fun v106_1 w =>
  C.loop [(.int .i64 0)] w fun dv_4 vs_4 w again_1 =>
  C.step (sBin .lss 3 (.tmp 107) (.tmp 106) (vs_4.getD 0 undef) v106_1) w fun v108_1 w =>
  C.bool v108_1
  (C.step (sIndexAddr 31 v105_1 (vs_4.getD 0 undef)) w fun v109_1 w =>
  C.step (sLoad 53 v109_1) w fun v110_1 w =>
  C.step (sAlloc 53) w fun v8_1 w =>
  C.step (sStore 53 v8_1 v110_1) w fun vx_1 w =>
  C.step (sFieldAddr 53 v8_1 0) w fun v112_1 w =>
  C.step (sLoad 3 v112_1) w fun v113_1 w =>
  C.step (sConv 3 70 v113_1) w fun v114_1 w =>
  C.calls 37 #[v12_1, v114_1] w fun v115_1 w =>
  C.step (sFieldAddr 53 v8_1 1) w fun v117_1 w =>
  C.step (sLoad 26 v117_1) w fun v118_1 w =>
  C.calls 50 #[v12_1, v118_1] w fun v119_1 w =>
  C.step (sBin .add 3 (.tmp 107) (.const (.int .i64 1)) (vs_4.getD 0 undef) (.int .i64 1)) w fun v120_1 w =>
  again_1 [v120_1] w)
  (j_3 [] w)
def rec_Encode_j3 (C : Comb) (v1_1 : Value) (v12_1 : Value) (dv_2 : Nat → Value) (vs_2 : List Value) (w : World) (Q : Value → World → Prop) : Prop :=
  C.join (fun dv_3 vs_3 w => rec_Encode_j1 C v12_1 dv_3 vs_3 w Q) (fun j_3 =>
  C.step (sFieldAddr 33 v1_1 0) w fun v67_1 w =>
  C.step (sLoad 24 v67_1) w fun v68_1 w =>
  C.step (sBin .eql 24 (.tmp 68) (.const (.int .i64 8)) v68_1 (.int .i64 8)) w fun v69_1 w =>
  C.bool v69_1
  (C.step (sFieldAddr 33 v1_1 7) w fun v71_1 w =>
  C.step (sLoad 30 v71_1) w fun v72_1 w =>
  C.step (sBuiltin .len #[30] 3 [false] [v72_1]) w fun v73_1 w =>
  C.step (sConv 3 5 v73_1) w fun v74_1 w =>
  C.calls 49 #[v12_1, v74_1] w fun v75_1 w =>
  C.step (sFieldAddr 33 v1_1 7) w fun v76_1 w =>
  C.step (sLoad 30 v76_1) w fun v77_1 w =>
  C.step (sBuiltin .len #[30] 3 [false] [v77_1]) w fun v78_1 w =>
  C.loop [(.int .i64 0)] w fun dv_5 vs_5 w again_2 =>
  C.step (sBin .lss 3 (.tmp 79) (.tmp 78) (vs_5.getD 0 undef) v78_1) w fun v80_1 w =>
  C.bool v80_1
  (C.step (sIndexAddr 30 v77_1 (vs_5.getD 0 undef)) w fun v81_1 w =>
  C.step (sLoad 51 v81_1) w fun v82_1 w =>
  C.step (sAlloc 51) w fun v6_1 w =>
  C.step (sStore 51 v6_1 v82_1) w fun vx_2 w =>
  C.step (sFieldAddr 51 v6_1 0) w fun v84_1 w =>
  C.step (sLoad 3 v84_1) w fun v85_1 w =>
  C.step (sConv 3 89 v85_1) w fun v86_1 w =>
  C.calls 51 #[v12_1, v86_1] w fun v87_1 w =>
  C.step (sFieldAddr 51 v6_1 1) w fun v89_1 w =>
  C.step (sLoad 49 v89_1) w fun v90_1 w =>
  C.step (sConv 49 5 v90_1) w fun v91_1 w =>
  C.calls 49 #[v12_1, v91_1] w fun v92_1 w =>
  C.step (sFieldAddr 51 v6_1 2) w fun v94_1 w =>
  C.step (sLoad 26 v94_1) w fun v95_1 w =>
  C.calls 50 #[v12_1, v95_1] w fun v96_1 w =>
  C.step (sBin .add 3 (.tmp 79) (.const (.int .i64 1)) (vs_5.getD 0 undef) (.int .i64 1)) w fun v97_1 w =>
  again_2 [v97_1] w)
  (rec_Encode_k2 C v1_1 v12_1 j_3 w Q))
  (j_3 [] w))
def rec_Encode_j4 (C : Comb) (v1_1 : Value) (v12_1 : Value) (dv_1 : Nat → Value) (vs_1 : List Value) (w : World) (Q : Value → World → Prop) : Prop :=
  C.join (fun dv_2 vs_2 w => rec_Encode_j3 C v1_1 v12_1 dv_2 vs_2 w Q) (fun j_2 =>
  C.step (sFieldAddr 33 v1_1 0) w fun v60_1 w =>
  C.step (sLoad 24 v60_1) w fun v61_1 w =>
  C.step (sBin .eql 24 (.tmp 61) (.const (.int .i64 2)) v61_1 (.int .i64 2)) w fun v62_1 w =>
  C.bool v62_1
  (C.step (sFieldAddr 33 v1_1 4) w fun v64_1 w =>
  C.step (sLoad 26 v64_1) w fun v65_1 w =>
  C.calls 50 #[v12_1, v65_1] w fun v66_1 w =>
  j_2 [] w)
  (j_2 [] w))
def rec_Encode_x (C : Comb) (a0 : Value) (w : World) (Q : Value → World → Prop) : Prop :=
  C.step (sBox 33 a0) w fun v1_1 w =>
  C.step (sLoad 33 v1_1) w fun v9_1 w =>
  C.calls 16 #[v9_1] w fun v10_1 w =>
  C.step (sBin .neq 34 (.tmp 10) (.const (.int .i64 0)) v10_1 (.int .i64 0)) w fun v11_1 w =>
  C.bool v11_1
  (Q (.tuple #[(.slice none 0 0), (.int .i64 1)]) w)
  (C.calls 36 #[] w fun v12_1 w =>
  C.step (sFieldAddr 33 v1_1 0) w fun v14_1 w =>
  C.step (sLoad 24 v14_1) w fun v15_1 w =>
  C.step (sConv 24 5 v15_1) w fun v16_1 w =>
  C.calls 49 #[v12_1, v16_1] w fun v17_1 w =>
  C.step (sFieldAddr 33 v1_1 1) w fun v19_1 w =>
  C.step (sLoad 26 v19_1) w fun v20_1 w =>
  C.calls 50 #[v12_1, v20_1] w fun v21_1 w =>
  C.step (sFieldAddr 33 v1_1 2) w fun v23_1 w =>
  C.step (sLoad 3 v23_1) w fun v24_1 w =>
  C.step (sConv 3 89 v24_1) w fun v25_1 w =>
  C.calls 51 #[v12_1, v25_1] w fun v26_1 w =>
  C.step (sFieldAddr 33 v1_1 3) w fun v28_1 w =>
  C.step (sLoad 26 v28_1) w fun v29_1 w =>
  C.calls 50 #[v12_1, v29_1] w fun v30_1 w =>
  C.join (fun dv_1 vs_1 w => rec_Encode_j4 C v1_1 v12_1 dv_1 vs_1 w Q) (fun j_1 =>
  C.step (sFieldAddr 33 v1_1 0) w fun v31_1 w =>
  C.step (sLoad 24 v31_1) w fun v32_1 w =>
  C.calls 41 #[v32_1] w fun v33_1 w =>
  C.bool v33_1
  (C.step (sFieldAddr 33 v1_1 5) w fun v35_1 w =>
  C.step (sLoad 3 v35_1) w fun v36_1 w =>
  C.step (sConv 3 70 v36_1) w fun v37_1 w =>
  C.calls 37 #[v12_1, v37_1] w fun v38_1 w =>
  C.step (sFieldAddr 33 v1_1 6) w fun v40_1 w =>
  C.step (sFieldAddr 29 v40_1 0) w fun v41_1 w =>
  C.step (sLoad 27 v41_1) w fun v42_1 w =>
  C.step (sConv 27 5 v42_1) w fun v43_1 w =>
  C.calls 49 #[v12_1, v43_1] w fun v44_1 w =>
  C.step (sFieldAddr 33 v1_1 6) w fun v46_1 w =>
  C.step (sFieldAddr 29 v46_1 1) w fun v47_1 w =>
  C.step (sLoad 9 v47_1) w fun v48_1 w =>
  C.calls 52 #[v12_1, v48_1] w fun v49_1 w =>
  C.step (sFieldAddr 33 v1_1 6) w fun v51_1 w =>
  C.step (sFieldAddr 29 v51_1 2) w fun v52_1 w =>
  C.step (sLoad 9 v52_1) w fun v53_1 w =>
  C.calls 52 #[v12_1, v53_1] w fun v54_1 w =>
  C.step (sFieldAddr 33 v1_1 6) w fun v56_1 w =>
  C.step (sFieldAddr 29 v56_1 3) w fun v57_1 w =>
  C.step (sLoad 9 v57_1) w fun v58_1 w =>
  C.calls 52 #[v12_1, v58_1] w fun v59_1 w =>
  j_1 [] w)
  (j_1 [] w)))
theorem rec_Encode_eq (C : Comb) (a0 : Value) (w : World) (Q : Value → World → Prop) : rec_Encode_x C a0 w Q = FunY Try.prog C 2 [14, 16, 32] Try.f19 [a0] w Q := by kernel_rfl
theorem rec_Encode_sound (a0 : Value) {w : World} {Q : Value → World → Prop} (h : rec_Encode_x (std Try.prog) a0 w Q) : CallsR Try.prog 19 #[a0] w Q :=
  calls_of_funY mixed Try.func19 (Eq.mp (rec_Encode_eq _ a0 w Q) h)

def rec_Same_k1 (C : Comb) (w : World) (Q : Value → World → Prop) : Prop :=
  Q (.bool false) w
def rec_Same_k3 (C : Comb) (w : World) (Q : Value → World → Prop) : Prop :=
  Q (.bool true) w
def rec_Same_k2 (C : Comb) (v2_1 : Value) (v3_1 : Value) (w : World) (Q : Value → World → Prop) : Prop :=
  C.step (sFieldAddr 33 v2_1 8) w fun v88_1 w =>
  C.step (sLoad 31 v88_1) w fun v89_1 w =>
  C.step (sBuiltin .len #[31] 3 [false] [v89_1]) w fun v90_1 w =>
  C.loop [(.int .i64 0)] w fun dv_1 vs_1 w again_1 =>
  C.step (sBin .lss 3 (.tmp 91) (.tmp 90) (vs_1.getD 0 undef) v90_1) w fun v92_1 w =>
  C.bool v92_1
  (C.draw w fun S_1 w =>
  C.stepS S_1 (sFieldAddr 33 v2_1 8) fun v94_1 =>
  C.stepS S_1 (sLoad 31 v94_1) fun v95_1 =>
  C.stepS S_1 (sIndexAddr 31 v95_1 (vs_1.getD 0 undef)) fun v97_1 =>
  C.stepS S_1 (sLoad 53 v97_1) fun v98_1 =>
  C.stepS S_1 (sFieldAddr 33 v3_1 8) fun v99_1 =>
  C.stepS S_1 (sLoad 31 v99_1) fun v100_1 =>
  C.stepS S_1 (sIndexAddr 31 v100_1 (vs_1.getD 0 undef)) fun v102_1 =>
  C.stepS S_1 (sLoad 53 v102_1) fun v103_1 =>
  C.stepS S_1 (sBin .neq 53 (.tmp 98) (.tmp 103) v98_1 v103_1) fun v104_1 =>
  C.bool v104_1
  (Q (.bool false) w)
  (C.step (sBin .add 3 (.tmp 91) (.const (.int .i64 1)) (vs_1.getD 0 undef) (.int .i64 1)) w fun v105_1 w =>
  again_1 [v105_1] w))
  (rec_Same_k3 C w Q)
def rec_Same_x (C : Comb) (a0 : Value) (a1 : Value) (w : World) (Q : Value → World → Prop) : Prop :=
  C.step (sBox 33 a0) w fun v2_1 w =>
  C.step (sBox 33 a1) w fun v3_1 w =>
  C.step (sFieldAddr 33 v2_1 0) w fun v7_1 w =>
  C.step (sLoad 24 v7_1) w fun v8_1 w =>
  C.step (sFieldAddr 33 v3_1 0) w fun v9_1 w =>
  C.step (sLoad 24 v9_1) w fun v10_1 w =>
  C.step (sBin .neq 24 (.tmp 8) (.tmp 10) v8_1 v10_1) w fun v11_1 w =>
  C.bool v11_1
  (rec_Same_k1 C w Q)
  (C.step (sFieldAddr 33 v2_1 1) w fun v13_1 w =>
  C.step (sLoad 26 v13_1) w fun v14_1 w =>
  C.step (sFieldAddr 33 v3_1 1) w fun v15_1 w =>
  C.step (sLoad 26 v15_1) w fun v16_1 w =>
  C.step (sBin .neq 26 (.tmp 14) (.tmp 16) v14_1 v16_1) w fun v17_1 w =>
  C.bool v17_1
  (rec_Same_k1 C w Q)
  (C.step (sFieldAddr 33 v2_1 2) w fun v20_1 w =>
  C.step (sLoad 3 v20_1) w fun v21_1 w =>
  C.step (sFieldAddr 33 v3_1 2) w fun v22_1 w =>
  C.step (sLoad 3 v22_1) w fun v23_1 w =>
  C.step (sBin .neq 3 (.tmp 21) (.tmp 23) v21_1 v23_1) w fun v24_1 w =>
  C.bool v24_1
  (rec_Same_k1 C w Q)
  (C.step (sFieldAddr 33 v2_1 3) w fun v27_1 w =>
  C.step (sLoad 26 v27_1) w fun v28_1 w =>
  C.step (sFieldAddr 33 v3_1 3) w fun v29_1 w =>
  C.step (sLoad 26 v29_1) w fun v30_1 w =>
  C.step (sBin .neq 26 (.tmp 28) (.tmp 30) v28_1 v30_1) w fun v31_1 w =>
  C.bool v31_1
  (rec_Same_k1 C w Q)
  (C.step (sFieldAddr 33 v2_1 4) w fun v34_1 w =>
  C.step (sLoad 26 v34_1) w fun v35_1 w =>
  C.step (sFieldAddr 33 v3_1 4) w fun v36_1 w =>
  C.step (sLoad 26 v36_1) w fun v37_1 w =>
  C.step (sBin .neq 26 (.tmp 35) (.tmp 37) v35_1 v37_1) w fun v38_1 w =>
  C.bool v38_1
  (rec_Same_k1 C w Q)
  (C.step (sFieldAddr 33 v2_1 5) w fun v41_1 w =>
  C.step (sLoad 3 v41_1) w fun v42_1 w =>
  C.step (sFieldAddr 33 v3_1 5) w fun v43_1 w =>
  C.step (sLoad 3 v43_1) w fun v44_1 w =>
  C.step (sBin .neq 3 (.tmp 42) (.tmp 44) v42_1 v44_1) w fun v45_1 w =>
  C.bool v45_1
  (rec_Same_k1 C w Q)
  (C.step (sFieldAddr 33 v2_1 6) w fun v48_1 w =>
  C.step (sLoad 29 v48_1) w fun v49_1 w =>
  C.step (sFieldAddr 33 v3_1 6) w fun v50_1 w =>
  C.step (sLoad 29 v50_1) w fun v51_1 w =>
  C.step (sBin .neq 29 (.tmp 49) (.tmp 51) v49_1 v51_1) w fun v52_1 w =>
  C.bool v52_1
  (Q (.bool false) w)
  (C.step (sFieldAddr 33 v2_1 7) w fun v54_1 w =>
  C.step (sLoad 30 v54_1) w fun v55_1 w =>
  C.step (sBuiltin .len #[30] 3 [false] [v55_1]) w fun v56_1 w =>
  C.step (sFieldAddr 33 v3_1 7) w fun v57_1 w =>
  C.step (sLoad 30 v57_1) w fun v58_1 w =>
  C.step (sBuiltin .len #[30] 3 [false] [v58_1]) w fun v59_1 w =>
  C.step (sBin .neq 3 (.tmp 56) (.tmp 59) v56_1 v59_1) w fun v60_1 w =>
  C.bool v60_1
  (Q (.bool false) w)
  (C.step (sFieldAddr 33 v2_1 8) w fun v62_1 w =>
  C.step (sLoad 31 v62_1) w fun v63_1 w =>
  C.step (sBuiltin .len #[31] 3 [false] [v63_1]) w fun v64_1 w =>
  C.step (sFieldAddr 33 v3_1 8) w fun v65_1 w =>
  C.step (sLoad 31 v65_1) w fun v66_1 w =>
  C.step (sBuiltin .len #[31] 3 [false] [v66_1]) w fun v67_1 w =>
  C.step (sBin .neq 3 (.tmp 64) (.tmp 67) v64_1 v67_1) w fun v68_1 w =>
  C.bool v68_1
  (Q (.bool false) w)
  (C.step (sFieldAddr 33 v2_1 7) w fun v70_1 w =>
  C.step (sLoad 30 v70_1) w fun v71_1 w =>
  C.step (sBuiltin .len #[30] 3 [false] [v71_1]) w fun v72_1 w =>
  C.loop [(.int .i64 0)] w fun dv_2 vs_2 w again_2 =>
  C.step (sBin .lss 3 (.tmp 73) (.tmp 72) (vs_2.getD 0 undef) v72_1) w fun v74_1 w =>
  C.bool v74_1
  (C.draw w fun S_2 w =>
  C.stepS S_2 (sFieldAddr 33 v2_1 7) fun v76_1 =>
  C.stepS S_2 (sLoad 30 v76_1) fun v77_1 =>
  C.stepS S_2 (sIndexAddr 30 v77_1 (vs_2.getD 0 undef)) fun v79_1 =>
  C.stepS S_2 (sLoad 51 v79_1) fun v80_1 =>
  C.stepS S_2 (sFieldAddr 33 v3_1 7) fun v81_1 =>
  C.stepS S_2 (sLoad 30 v81_1) fun v82_1 =>
  C.stepS S_2 (sIndexAddr 30 v82_1 (vs_2.getD 0 undef)) fun v84_1 =>
  C.stepS S_2 (sLoad 51 v84_1) fun v85_1 =>
  C.stepS S_2 (sBin .neq 51 (.tmp 80) (.tmp 85) v80_1 v85_1) fun v86_1 =>
  C.bool v86_1
  (Q (.bool false) w)
  (C.step (sBin .add 3 (.tmp 73) (.const (.int .i64 1)) (vs_2.getD 0 undef) (.int .i64 1)) w fun v87_1 w =>
  again_2 [v87_1] w))
  (rec_Same_k2 C v2_1 v3_1 w Q))))))))))
theorem rec_Same_eq (C : Comb) (a0 : Value) (a1 : Value) (w : World) (Q : Value → World → Prop) : rec_Same_x C a0 a1 w Q = FunY Try.prog C 2 [] Try.f20 [a0, a1] w Q := by kernel_rfl
theorem rec_Same_sound (a0 : Value) (a1 : Value) {w : World} {Q : Value → World → Prop} (h : rec_Same_x (std Try.prog) a0 a1 w Q) : CallsR Try.prog 20 #[a0, a1] w Q :=
  calls_of_funY mixed Try.func20 (Eq.mp (rec_Same_eq _ a0 a1 w Q) h)

def rec_Size_x (C : Comb) (a0 : Value) (w : World) (Q : Value → World → Prop) : Prop :=
  C.step (sBox 33 a0) w fun v1_1 w =>
  C.step (sLoad 33 v1_1) w fun v6_1 w =>
  C.calls 19 #[v6_1] w fun v7_1 w =>
  C.step (sExtract v7_1 0) w fun v8_1 w =>
  C.step (sExtract v7_1 1) w fun v9_1 w =>
  C.step (sBin .neq 34 (.tmp 10) (.const (.int .i64 0)) v9_1 (.int .i64 0)) w fun v11_1 w =>
  C.bool v11_1
  (Q (.int .i64 0) w)
  (C.step (sBuiltin .len #[22] 3 [false] [v8_1]) w fun v13_1 w =>
  C.step (sBin .add 3 (.tmp 13) (.const (.int .i64 6)) v13_1 (.int .i64 6)) w fun v14_1 w =>
  Q v14_1 w)
theorem rec_Size_eq (C : Comb) (a0 : Value) (w : World) (Q : Value → World → Prop) : rec_Size_x C a0 w Q = FunY Try.prog C 5 [] Try.f21 [a0] w Q := by kernel_rfl
theorem rec_Size_sound (a0 : Value) {w : World} {Q : Value → World → Prop} (h : rec_Size_x (std Try.prog) a0 w Q) : CallsR Try.prog 21 #[a0] w Q :=
  calls_of_funY mixed Try.func21 (Eq.mp (rec_Size_eq _ a0 w Q) h)

def flotillaref05_Frame_x (C : Comb) (a0 : Value) (w : World) (Q : Value → World → Prop) : Prop :=
  C.step (sBox 33 a0) w fun v1_1 w =>
  C.step (sLoad 33 v1_1) w fun v4_1 w =>
  C.calls 18 #[v4_1] w fun v5_1 w =>
  C.step (sBuiltin .len #[9] 3 [false] [v5_1]) w fun v7_1 w =>
  C.step (sConv 3 25 v7_1) w fun v8_1 w =>
  C.calls 47 #[v8_1, (.int .i64 2)] w fun v9_1 w =>
  C.step (sBin .add 9 (.tmp 9) (.tmp 10) v9_1 v5_1) w fun v11_1 w =>
  C.calls 53 #[v11_1] w fun v12_1 w =>
  Q v12_1 w
theorem flotillaref05_Frame_eq (C : Comb) (a0 : Value) (w : World) (Q : Value → World → Prop) : flotillaref05_Frame_x C a0 w Q = FunY Try.prog C 4 [] Try.f22 [a0] w Q := by kernel_rfl
theorem flotillaref05_Frame_sound (a0 : Value) {w : World} {Q : Value → World → Prop} (h : flotillaref05_Frame_x (std Try.prog) a0 w Q) : CallsR Try.prog 22 #[a0] w Q :=
  calls_of_funY mixed Try.func22 (Eq.mp (flotillaref05_Frame_eq _ a0 w Q) h)

def enc_Read_x (C : Comb) (a0 : Value) (w : World) (Q : Value → World → Prop) : Prop :=
  C.step (sBuildSlice 22 0 []) w fun v3_1 w =>
  C.step (sBuiltin .append #[22, 22] 22 [false, false] [v3_1, a0]) w fun v5_1 w =>
  C.step (sBuild 97 [(0, v5_1)]) w fun v6_1 w =>
  C.step (sBuild 99 [(0, v6_1)]) w fun v7_1 w =>
  C.step (sBox 99 v7_1) w fun v8_1 w =>
  Q v8_1 w
theorem enc_Read_eq (C : Comb) (a0 : Value) (w : World) (Q : Value → World → Prop) : enc_Read_x C a0 w Q = FunY Try.prog C 2 [] Try.f25 [a0] w Q := by kernel_rfl
theorem enc_Read_sound (a0 : Value) {w : World} {Q : Value → World → Prop} (h : enc_Read_x (std Try.prog) a0 w Q) : CallsR Try.prog 25 #[a0] w Q :=
  calls_of_funY mixed Try.func25 (Eq.mp (enc_Read_eq _ a0 w Q) h)

def flotillaref01_Take_k1 (C : Comb) (a1 : Value) (v2_1 : Value) (v4_1 : Value) (u6_1 : Value) (w : World) (Q : Value → World → Prop) : Prop :=
  C.step (sFieldAddr 63 v2_1 1) w fun v35_1 w =>
  C.step (sLoad 3 v35_1) w fun v36_1 w =>
  C.step (sBin .add 3 (.tmp 36) (.tmp 37) v36_1 a1) w fun v38_1 w =>
  C.step (sFieldAddr 63 v2_1 1) w fun v39_1 w =>
  C.step (sStore 3 v39_1 v38_1) w fun vx_4 w =>
  C.step (sLoad 63 v2_1) w fun v40_1 w =>
  C.step (sStore 63 v4_1 v40_1) w fun vx_5 w =>
  C.loadR 63 v4_1 w fun r_3 =>
  Q (.tuple #[r_3, u6_1]) w
def flotillaref01_Take_x (C : Comb) (a0 : Value) (a1 : Value) (w : World) (Q : Value → World → Prop) : Prop :=
  C.step (sBox 63 a0) w fun v2_1 w =>
  C.step (sAlloc 63) w fun v4_1 w =>
  C.step (sFieldAddr 63 v2_1 2) w fun v8_1 w =>
  C.step (sLoad 34 v8_1) w fun v9_1 w =>
  C.step (sBin .neq 34 (.tmp 9) (.const (.int .i64 0)) v9_1 (.int .i64 0)) w fun v10_1 w =>
  C.bool v10_1
  (C.step (sLoad 63 v2_1) w fun v11_1 w =>
  C.step (sStore 63 v4_1 v11_1) w fun vx_1 w =>
  C.loadR 63 v4_1 w fun r_1 =>
  Q (.tuple #[r_1, (.int .u64 0)]) w)
  (C.step (sLoad 63 v2_1) w fun v12_1 w =>
  C.calls 60 #[v12_1] w fun v13_1 w =>
  C.step (sBin .lss 3 (.tmp 13) (.tmp 14) v13_1 a1) w fun v15_1 w =>
  C.bool v15_1
  (C.step (sFieldAddr 63 v2_1 2) w fun v16_1 w =>
  C.step (sStore 34 v16_1 (.int .i64 4)) w fun vx_2 w =>
  C.step (sLoad 63 v2_1) w fun v17_1 w =>
  C.step (sStore 63 v4_1 v17_1) w fun vx_3 w =>
  C.loadR 63 v4_1 w fun r_2 =>
  Q (.tuple #[r_2, (.int .u64 0)]) w)
  (C.step (sBin .sub 3 (.tmp 18) (.const (.int .i64 1)) a1 (.int .i64 1)) w fun v19_1 w =>
  C.loop [(.int .u64 0), v19_1] w fun dv_1 vs_1 w again_1 =>
  C.step (sBin .geq 3 (.tmp 20) (.const (.int .i64 0)) (vs_1.getD 1 undef) (.int .i64 0)) w fun v21_1 w =>
  C.bool v21_1
  (C.step (sBin .mul 25 (.const (.int .u64 256)) (.tmp 24) (.int .u64 256) (vs_1.getD 0 undef)) w fun v25_1 w =>
  C.step (sFieldAddr 63 v2_1 0) w fun v26_1 w =>
  C.step (sLoad 9 v26_1) w fun v27_1 w =>
  C.step (sFieldAddr 63 v2_1 1) w fun v28_1 w =>
  C.step (sLoad 3 v28_1) w fun v29_1 w =>
  C.step (sBin .add 3 (.tmp 29) (.tmp 30) v29_1 (vs_1.getD 1 undef)) w fun v31_1 w =>
  C.step (sIndex 9 v27_1 v31_1) w fun v32_1 w =>
  C.step (sConv 5 25 v32_1) w fun v33_1 w =>
  C.step (sBin .add 25 (.tmp 25) (.tmp 33) v25_1 v33_1) w fun v34_1 w =>
  C.step (sBin .sub 3 (.tmp 22) (.const (.int .i64 1)) (vs_1.getD 1 undef) (.int .i64 1)) w fun v23_1 w =>
  again_1 [v34_1, v23_1] w)
  (flotillaref01_Take_k1 C a1 v2_1 v4_1 (vs_1.getD 0 undef) w Q)))
theorem flotillaref01_Take_eq (C : Comb) (a0 : Value) (a1 : Value) (w : World) (Q : Value → World → Prop) : flotillaref01_Take_x C a0 a1 w Q = FunY Try.prog C 8 [] Try.f26 [a0, a1] w Q := by kernel_rfl
theorem flotillaref01_Take_sound (a0 : Value) (a1 : Value) {w : World} {Q : Value → World → Prop} (h : flotillaref01_Take_x (std Try.prog) a0 a1 w Q) : CallsR Try.prog 26 #[a0, a1] w Q :=
  calls_of_funY mixed Try.func26 (Eq.mp (flotillaref01_Take_eq _ a0 a1 w Q) h)

def flotillaref05_Changes_x (C : Comb) (a0 : Value) (w : World) (Q : Value → World → Prop) : Prop :=
  C.step (sBin .eql 24 (.tmp 3) (.const (.int .i64 1)) a0 (.int .i64 1)) w fun v4_1 w =>
  C.bool v4_1
  (Q (.bool true) w)
  (C.step (sBin .eql 24 (.tmp 6) (.const (.int .i64 2)) a0 (.int .i64 2)) w fun v7_1 w =>
  Q v7_1 w)
theorem flotillaref05_Changes_eq (C : Comb) (a0 : Value) (w : World) (Q : Value → World → Prop) : flotillaref05_Changes_x C a0 w Q = FunY Try.prog C 2 [] Try.f27 [a0] w Q := by kernel_rfl
theorem flotillaref05_Changes_sound (a0 : Value) {w : World} {Q : Value → World → Prop} (h : flotillaref05_Changes_x (std Try.prog) a0 w Q) : CallsR Try.prog 27 #[a0] w Q :=
  calls_of_funY mixed Try.func27 (Eq.mp (flotillaref05_Changes_eq _ a0 w Q) h)

def flotillaref05_change_x (C : Comb) (a0 : Value) (a1 : Value) (w : World) (Q : Value → World → Prop) : Prop :=
  C.step (sBox 63 a0) w fun v2_1 w =>
  C.step (sBox 33 a1) w fun v3_1 w =>
  C.step (sAlloc 63) w fun v4_1 w =>
  C.step (sAlloc 33) w fun v5_1 w =>
  C.step (sLoad 63 v2_1) w fun v8_1 w =>
  C.calls 26 #[v8_1, (.int .i64 2)] w fun v9_1 w =>
  C.step (sExtract v9_1 0) w fun v10_1 w =>
  C.step (sExtract v9_1 1) w fun v11_1 w =>
  C.step (sStore 63 v2_1 v10_1) w fun vx_1 w =>
  C.step (sConv 25 3 v11_1) w fun v13_1 w =>
  C.step (sFieldAddr 33 v3_1 5) w fun v14_1 w =>
  C.step (sStore 3 v14_1 v13_1) w fun vx_2 w =>
  C.step (sLoad 63 v2_1) w fun v16_1 w =>
  C.calls 26 #[v16_1, (.int .i64 1)] w fun v17_1 w =>
  C.step (sExtract v17_1 0) w fun v18_1 w =>
  C.step (sExtract v17_1 1) w fun v19_1 w =>
  C.step (sStore 63 v2_1 v18_1) w fun vx_3 w =>
  C.step (sConv 25 27 v19_1) w fun v21_1 w =>
  C.step (sFieldAddr 33 v3_1 6) w fun v22_1 w =>
  C.step (sFieldAddr 29 v22_1 0) w fun v23_1 w =>
  C.step (sStore 27 v23_1 v21_1) w fun vx_4 w =>
  C.step (sLoad 63 v2_1) w fun v25_1 w =>
  C.calls 61 #[v25_1, (.int .i64 16)] w fun v26_1 w =>
  C.step (sExtract v26_1 0) w fun v27_1 w =>
  C.step (sExtract v26_1 1) w fun v28_1 w =>
  C.step (sStore 63 v2_1 v27_1) w fun vx_5 w =>
  C.step (sFieldAddr 33 v3_1 6) w fun v29_1 w =>
  C.step (sFieldAddr 29 v29_1 1) w fun v30_1 w =>
  C.step (sStore 9 v30_1 v28_1) w fun vx_6 w =>
  C.step (sLoad 63 v2_1) w fun v32_1 w =>
  C.calls 61 #[v32_1, (.int .i64 32)] w fun v33_1 w =>
  C.step (sExtract v33_1 0) w fun v34_1 w =>
  C.step (sExtract v33_1 1) w fun v35_1 w =>
  C.step (sStore 63 v2_1 v34_1) w fun vx_7 w =>
  C.step (sFieldAddr 33 v3_1 6) w fun v36_1 w =>
  C.step (sFieldAddr 29 v36_1 2) w fun v37_1 w =>
  C.step (sStore 9 v37_1 v35_1) w fun vx_8 w =>
  C.step (sLoad 63 v2_1) w fun v39_1 w =>
  C.calls 61 #[v39_1, (.int .i64 32)] w fun v40_1 w =>
  C.step (sExtract v40_1 0) w fun v41_1 w =>
  C.step (sExtract v40_1 1) w fun v42_1 w =>
  C.step (sStore 63 v2_1 v41_1) w fun vx_9 w =>
  C.step (sFieldAddr 33 v3_1 6) w fun v43_1 w =>
  C.step (sFieldAddr 29 v43_1 3) w fun v44_1 w =>
  C.step (sStore 9 v44_1 v42_1) w fun vx_10 w =>
  C.draw w fun S_1 w =>
  C.stepS S_1 (sLoad 63 v2_1) fun v45_1 =>
  C.stepS S_1 (sLoad 33 v3_1) fun v46_1 =>
  C.step (sStore 63 v4_1 v45_1) w fun vx_11 w =>
  C.keepS S_1 w fun S_2 =>
  C.step (sStore 33 v5_1 v46_1) w fun vx_12 w =>
  C.keepT w fun S_3 =>
  C.loadR 63 v4_1 w fun r_1 =>
  C.loadR 33 v5_1 w fun r_2 =>
  Q (.tuple #[r_1, r_2]) w
theorem flotillaref05_change_eq (C : Comb) (a0 : Value) (a1 : Value) (w : World) (Q : Value → World → Prop) : flotillaref05_change_x C a0 a1 w Q = FunY Try.prog C 7 [] Try.f28 [a0, a1] w Q := by kernel_rfl
theorem flotillaref05_change_sound (a0 : Value) (a1 : Value) {w : World} {Q : Value → World → Prop} (h : flotillaref05_change_x (std Try.prog) a0 a1 w Q) : CallsR Try.prog 28 #[a0, a1] w Q :=
  calls_of_funY mixed Try.func28 (Eq.mp (flotillaref05_change_eq _ a0 a1 w Q) h)

def flotillaref05_tables_k2 (C : Comb) (v2_1 : Value) (v3_1 : Value) (v4_1 : Value) (v5_1 : Value) (w : World) (Q : Value → World → Prop) : Prop :=
  C.draw w fun S_1 w =>
  C.stepS S_1 (sLoad 63 v2_1) fun v77_1 =>
  C.stepS S_1 (sLoad 33 v3_1) fun v78_1 =>
  C.step (sStore 63 v4_1 v77_1) w fun vx_3 w =>
  C.keepS S_1 w fun S_2 =>
  C.step (sStore 33 v5_1 v78_1) w fun vx_4 w =>
  C.keepT w fun S_3 =>
  C.loadR 63 v4_1 w fun r_1 =>
  C.loadR 33 v5_1 w fun r_2 =>
  Q (.tuple #[r_1, r_2]) w
def flotillaref05_tables_k1 (C : Comb) (v2_1 : Value) (v3_1 : Value) (v4_1 : Value) (v5_1 : Value) (w : World) (Q : Value → World → Prop) : Prop :=
  C.step (sLoad 63 v2_1) w fun v49_1 w =>
  C.calls 26 #[v49_1, (.int .i64 1)] w fun v50_1 w =>
  C.step (sExtract v50_1 0) w fun v51_1 w =>
  C.step (sExtract v50_1 1) w fun v52_1 w =>
  C.step (sStore 63 v2_1 v51_1) w fun vx_2 w =>
  C.loop [(.int .u64 0)] w fun dv_1 vs_1 w again_1 =>
  C.step (sBin .lss 25 (.tmp 53) (.tmp 54) (vs_1.getD 0 undef) v52_1) w fun v55_1 w =>
  C.bool v55_1
  (C.step (sLoad 63 v2_1) w fun v59_1 w =>
  C.calls 26 #[v59_1, (.int .i64 2)] w fun v60_1 w =>
  C.step (sExtract v60_1 0) w fun v61_1 w =>
  C.step (sExtract v60_1 1) w fun v62_1 w =>
  C.step (sStore 63 v2_1 v61_1) w fun vx_5 w =>
  C.step (sLoad 63 v2_1) w fun v64_1 w =>
  C.calls 26 #[v64_1, (.int .i64 8)] w fun v65_1 w =>
  C.step (sExtract v65_1 0) w fun v66_1 w =>
  C.step (sExtract v65_1 1) w fun v67_1 w =>
  C.step (sStore 63 v2_1 v66_1) w fun vx_6 w =>
  C.step (sFieldAddr 33 v3_1 8) w fun v68_1 w =>
  C.step (sLoad 31 v68_1) w fun v69_1 w =>
  C.step (sConv 25 3 v62_1) w fun v71_1 w =>
  C.step (sBuild 53 [(0, v71_1), (1, v67_1)]) w fun v73_1 w =>
  C.step (sBuildSlice 31 1 [(0, v73_1)]) w fun v74_1 w =>
  C.step (sBuiltin .append #[31, 31] 31 [false, false] [v69_1, v74_1]) w fun v75_1 w =>
  C.step (sFieldAddr 33 v3_1 8) w fun v76_1 w =>
  C.step (sStore 31 v76_1 v75_1) w fun vx_7 w =>
  C.step (sBin .add 25 (.tmp 56) (.const (.int .u64 1)) (vs_1.getD 0 undef) (.int .u64 1)) w fun v57_1 w =>
  again_1 [v57_1] w)
  (flotillaref05_tables_k2 C v2_1 v3_1 v4_1 v5_1 w Q)
def flotillaref05_tables_x (C : Comb) (a0 : Value) (a1 : Value) (w : World) (Q : Value → World → Prop) : Prop :=
  C.step (sBox 63 a0) w fun v2_1 w =>
  C.step (sBox 33 a1) w fun v3_1 w =>
  C.step (sAlloc 63) w fun v4_1 w =>
  C.step (sAlloc 33) w fun v5_1 w =>
  C.step (sLoad 63 v2_1) w fun v13_1 w =>
  C.calls 26 #[v13_1, (.int .i64 1)] w fun v14_1 w =>
  C.step (sExtract v14_1 0) w fun v15_1 w =>
  C.step (sExtract v14_1 1) w fun v16_1 w =>
  C.step (sStore 63 v2_1 v15_1) w fun vx_1 w =>
  C.loop [(.int .u64 0)] w fun dv_2 vs_2 w again_2 =>
  C.step (sBin .lss 25 (.tmp 17) (.tmp 18) (vs_2.getD 0 undef) v16_1) w fun v19_1 w =>
  C.bool v19_1
  (C.step (sLoad 63 v2_1) w fun v23_1 w =>
  C.calls 26 #[v23_1, (.int .i64 4)] w fun v24_1 w =>
  C.step (sExtract v24_1 0) w fun v25_1 w =>
  C.step (sExtract v24_1 1) w fun v26_1 w =>
  C.step (sStore 63 v2_1 v25_1) w fun vx_8 w =>
  C.step (sLoad 63 v2_1) w fun v28_1 w =>
  C.calls 26 #[v28_1, (.int .i64 1)] w fun v29_1 w =>
  C.step (sExtract v29_1 0) w fun v30_1 w =>
  C.step (sExtract v29_1 1) w fun v31_1 w =>
  C.step (sStore 63 v2_1 v30_1) w fun vx_9 w =>
  C.step (sLoad 63 v2_1) w fun v33_1 w =>
  C.calls 26 #[v33_1, (.int .i64 8)] w fun v34_1 w =>
  C.step (sExtract v34_1 0) w fun v35_1 w =>
  C.step (sExtract v34_1 1) w fun v36_1 w =>
  C.step (sStore 63 v2_1 v35_1) w fun vx_10 w =>
  C.step (sFieldAddr 33 v3_1 7) w fun v37_1 w =>
  C.step (sLoad 30 v37_1) w fun v38_1 w =>
  C.step (sConv 25 3 v26_1) w fun v40_1 w =>
  C.step (sConv 25 49 v31_1) w fun v42_1 w =>
  C.step (sBuild 51 [(0, v40_1), (1, v42_1), (2, v36_1)]) w fun v44_1 w =>
  C.step (sBuildSlice 30 1 [(0, v44_1)]) w fun v45_1 w =>
  C.step (sBuiltin .append #[30, 30] 30 [false, false] [v38_1, v45_1]) w fun v46_1 w =>
  C.step (sFieldAddr 33 v3_1 7) w fun v47_1 w =>
  C.step (sStore 30 v47_1 v46_1) w fun vx_11 w =>
  C.step (sBin .add 25 (.tmp 20) (.const (.int .u64 1)) (vs_2.getD 0 undef) (.int .u64 1)) w fun v21_1 w =>
  again_2 [v21_1] w)
  (flotillaref05_tables_k1 C v2_1 v3_1 v4_1 v5_1 w Q)
theorem flotillaref05_tables_eq (C : Comb) (a0 : Value) (a1 : Value) (w : World) (Q : Value → World → Prop) : flotillaref05_tables_x C a0 a1 w Q = FunY Try.prog C 2 [] Try.f29 [a0, a1] w Q := by kernel_rfl
theorem flotillaref05_tables_sound (a0 : Value) (a1 : Value) {w : World} {Q : Value → World → Prop} (h : flotillaref05_tables_x (std Try.prog) a0 a1 w Q) : CallsR Try.prog 29 #[a0, a1] w Q :=
  calls_of_funY mixed Try.func29 (Eq.mp (flotillaref05_tables_eq _ a0 a1 w Q) h)

def flotillaref01_End_k1 (C : Comb) (v1_1 : Value) (w : World) (Q : Value → World → Prop) : Prop :=
  C.step (sFieldAddr 63 v1_1 2) w fun v11_1 w =>
  C.step (sLoad 34 v11_1) w fun v12_1 w =>
  Q v12_1 w
def flotillaref01_End_x (C : Comb) (a0 : Value) (w : World) (Q : Value → World → Prop) : Prop :=
  C.step (sBox 63 a0) w fun v1_1 w =>
  C.step (sFieldAddr 63 v1_1 2) w fun v3_1 w =>
  C.step (sLoad 34 v3_1) w fun v4_1 w =>
  C.step (sBin .eql 34 (.tmp 4) (.const (.int .i64 0)) v4_1 (.int .i64 0)) w fun v5_1 w =>
  C.bool v5_1
  (C.step (sLoad 63 v1_1) w fun v7_1 w =>
  C.calls 60 #[v7_1] w fun v8_1 w =>
  C.step (sBin .gtr 3 (.tmp 8) (.const (.int .i64 0)) v8_1 (.int .i64 0)) w fun v9_1 w =>
  C.bool v9_1
  (Q (.int .i64 5) w)
  (flotillaref01_End_k1 C v1_1 w Q))
  (flotillaref01_End_k1 C v1_1 w Q)
theorem flotillaref01_End_eq (C : Comb) (a0 : Value) (w : World) (Q : Value → World → Prop) : flotillaref01_End_x C a0 w Q = FunY Try.prog C 2 [] Try.f30 [a0] w Q := by kernel_rfl
theorem flotillaref01_End_sound (a0 : Value) {w : World} {Q : Value → World → Prop} (h : flotillaref01_End_x (std Try.prog) a0 w Q) : CallsR Try.prog 30 #[a0] w Q :=
  calls_of_funY mixed Try.func30 (Eq.mp (flotillaref01_End_eq _ a0 w Q) h)

def flotillaref05_May_k1 (C : Comb) (w : World) (Q : Value → World → Prop) : Prop :=
  Q (.bool false) w
def flotillaref05_May_k3 (C : Comb) (v1_1 : Value) (w : World) (Q : Value → World → Prop) : Prop :=
  C.step (sLoad 33 v1_1) w fun v102_1 w =>
  C.calls 64 #[v102_1] w fun v103_1 w =>
  Q v103_1 w
def flotillaref05_May_j4 (C : Comb) (v1_1 : Value) (dv_2 : Nat → Value) (vs_2 : List Value) (w : World) (Q : Value → World → Prop) : Prop :=
  C.step (sFieldAddr 33 v1_1 0) w fun v89_1 w =>
  C.step (sLoad 24 v89_1) w fun v90_1 w =>
  C.step (sBin .neq 24 (.tmp 90) (.const (.int .i64 8)) v90_1 (.int .i64 8)) w fun v91_1 w =>
  C.bool v91_1
  (C.step (sFieldAddr 33 v1_1 7) w fun v93_1 w =>
  C.step (sLoad 30 v93_1) w fun v94_1 w =>
  C.step (sBuiltin .len #[30] 3 [false] [v94_1]) w fun v95_1 w =>
  C.step (sFieldAddr 33 v1_1 8) w fun v96_1 w =>
  C.step (sLoad 31 v96_1) w fun v97_1 w =>
  C.step (sBuiltin .len #[31] 3 [false] [v97_1]) w fun v98_1 w =>
  C.step (sBin .add 3 (.tmp 95) (.tmp 98) v95_1 v98_1) w fun v99_1 w =>
  C.step (sBin .gtr 3 (.tmp 99) (.const (.int .i64 0)) v99_1 (.int .i64 0)) w fun v100_1 w =>
  C.bool v100_1
  (Q (.bool false) w)
  (flotillaref05_May_k3 C v1_1 w Q))
  (flotillaref05_May_k3 C v1_1 w Q)
def flotillaref05_May_k2 (C : Comb) (v1_1 : Value) (w : World) (Q : Value → World → Prop) : Prop :=
  C.join (fun dv_2 vs_2 w => flotillaref05_May_j4 C v1_1 dv_2 vs_2 w Q) (fun j_2 =>
  C.step (sFieldAddr 33 v1_1 0) w fun v65_1 w =>
  C.step (sLoad 24 v65_1) w fun v66_1 w =>
  C.step (sBin .eql 24 (.tmp 66) (.const (.int .i64 7)) v66_1 (.int .i64 7)) w fun v67_1 w =>
  C.bool v67_1
  (C.step (sFieldAddr 33 v1_1 2) w fun v73_1 w =>
  C.step (sLoad 3 v73_1) w fun v74_1 w =>
  C.step (sBin .neq 3 (.tmp 74) (.const (.int .i64 0)) v74_1 (.int .i64 0)) w fun v75_1 w =>
  C.bool v75_1
  (Q (.bool false) w)
  (C.step (sFieldAddr 33 v1_1 3) w fun v77_1 w =>
  C.step (sLoad 26 v77_1) w fun v78_1 w =>
  C.step (sBin .neq 26 (.tmp 78) (.const (.int .u64 0)) v78_1 (.int .u64 0)) w fun v79_1 w =>
  C.bool v79_1
  (Q (.bool false) w)
  (j_2 [] w)))
  (C.step (sFieldAddr 33 v1_1 0) w fun v69_1 w =>
  C.step (sLoad 24 v69_1) w fun v70_1 w =>
  C.step (sBin .eql 24 (.tmp 70) (.const (.int .i64 8)) v70_1 (.int .i64 8)) w fun v71_1 w =>
  C.bool v71_1
  (C.step (sFieldAddr 33 v1_1 2) w fun v73_2 w =>
  C.step (sLoad 3 v73_2) w fun v74_2 w =>
  C.step (sBin .neq 3 (.tmp 74) (.const (.int .i64 0)) v74_2 (.int .i64 0)) w fun v75_2 w =>
  C.bool v75_2
  (Q (.bool false) w)
  (C.step (sFieldAddr 33 v1_1 3) w fun v77_2 w =>
  C.step (sLoad 26 v77_2) w fun v78_2 w =>
  C.step (sBin .neq 26 (.tmp 78) (.const (.int .u64 0)) v78_2 (.int .u64 0)) w fun v79_2 w =>
  C.bool v79_2
  (Q (.bool false) w)
  (j_2 [] w)))
  (C.step (sFieldAddr 33 v1_1 2) w fun v81_1 w =>
  C.step (sLoad 3 v81_1) w fun v82_1 w =>
  C.step (sBin .lss 3 (.tmp 82) (.const (.int .i64 1)) v82_1 (.int .i64 1)) w fun v83_1 w =>
  C.bool v83_1
  (Q (.bool false) w)
  (C.step (sFieldAddr 33 v1_1 2) w fun v85_1 w =>
  C.step (sLoad 3 v85_1) w fun v86_1 w =>
  C.step (sBin .gtr 3 (.tmp 86) (.const (.int .i64 1073741824)) v86_1 (.int .i64 1073741824)) w fun v87_1 w =>
  C.bool v87_1
  (Q (.bool false) w)
  (j_2 [] w)))))
def flotillaref05_May_j5 (C : Comb) (v1_1 : Value) (dv_1 : Nat → Value) (vs_1 : List Value) (w : World) (Q : Value → World → Prop) : Prop :=
  C.step (sFieldAddr 33 v1_1 0) w fun v57_1 w =>
  C.step (sLoad 24 v57_1) w fun v58_1 w =>
  C.step (sBin .neq 24 (.tmp 58) (.const (.int .i64 2)) v58_1 (.int .i64 2)) w fun v59_1 w =>
  C.bool v59_1
  (C.step (sFieldAddr 33 v1_1 4) w fun v61_1 w =>
  C.step (sLoad 26 v61_1) w fun v62_1 w =>
  C.step (sBin .neq 26 (.tmp 62) (.const (.int .u64 0)) v62_1 (.int .u64 0)) w fun v63_1 w =>
  C.bool v63_1
  (Q (.bool false) w)
  (flotillaref05_May_k2 C v1_1 w Q))
  (flotillaref05_May_k2 C v1_1 w Q)
def flotillaref05_May_k6 (C : Comb) (w : World) (Q : Value → World → Prop) : Prop :=
  Q (.bool false) w
def flotillaref05_May_x (C : Comb) (a0 : Value) (w : World) (Q : Value → World → Prop) : Prop :=
  C.step (sBox 33 a0) w fun v1_1 w =>
  C.step (sFieldAddr 33 v1_1 0) w fun v3_1 w =>
  C.step (sLoad 24 v3_1) w fun v4_1 w =>
  C.step (sBin .lss 24 (.tmp 4) (.const (.int .i64 1)) v4_1 (.int .i64 1)) w fun v5_1 w =>
  C.bool v5_1
  (flotillaref05_May_k1 C w Q)
  (C.step (sFieldAddr 33 v1_1 0) w fun v7_1 w =>
  C.step (sLoad 24 v7_1) w fun v8_1 w =>
  C.step (sBin .gtr 24 (.tmp 8) (.const (.int .i64 8)) v8_1 (.int .i64 8)) w fun v9_1 w =>
  C.bool v9_1
  (flotillaref05_May_k1 C w Q)
  (C.step (sFieldAddr 33 v1_1 1) w fun v12_1 w =>
  C.step (sLoad 26 v12_1) w fun v13_1 w =>
  C.calls 62 #[v13_1] w fun v14_1 w =>
  C.step (sUn .not v14_1) w fun v15_1 w =>
  C.bool v15_1
  (flotillaref05_May_k1 C w Q)
  (C.step (sFieldAddr 33 v1_1 3) w fun v18_1 w =>
  C.step (sLoad 26 v18_1) w fun v19_1 w =>
  C.step (sFieldAddr 33 v1_1 1) w fun v20_1 w =>
  C.step (sLoad 26 v20_1) w fun v21_1 w =>
  C.step (sBin .geq 26 (.tmp 19) (.tmp 21) v19_1 v21_1) w fun v22_1 w =>
  C.bool v22_1
  (flotillaref05_May_k1 C w Q)
  (C.step (sFieldAddr 33 v1_1 4) w fun v25_1 w =>
  C.step (sLoad 26 v25_1) w fun v26_1 w =>
  C.step (sFieldAddr 33 v1_1 1) w fun v27_1 w =>
  C.step (sLoad 26 v27_1) w fun v28_1 w =>
  C.step (sBin .geq 26 (.tmp 26) (.tmp 28) v26_1 v28_1) w fun v29_1 w =>
  C.bool v29_1
  (Q (.bool false) w)
  (C.join (fun dv_1 vs_1 w => flotillaref05_May_j5 C v1_1 dv_1 vs_1 w Q) (fun j_1 =>
  C.step (sFieldAddr 33 v1_1 0) w fun v31_1 w =>
  C.step (sLoad 24 v31_1) w fun v32_1 w =>
  C.calls 27 #[v32_1] w fun v33_1 w =>
  C.bool v33_1
  (C.step (sFieldAddr 33 v1_1 5) w fun v34_1 w =>
  C.step (sLoad 3 v34_1) w fun v35_1 w =>
  C.step (sBin .lss 3 (.tmp 35) (.const (.int .i64 0)) v35_1 (.int .i64 0)) w fun v36_1 w =>
  C.bool v36_1
  (flotillaref05_May_k6 C w Q)
  (C.step (sFieldAddr 33 v1_1 5) w fun v38_1 w =>
  C.step (sLoad 3 v38_1) w fun v39_1 w =>
  C.step (sBin .gtr 3 (.tmp 39) (.const (.int .i64 15)) v39_1 (.int .i64 15)) w fun v40_1 w =>
  C.bool v40_1
  (flotillaref05_May_k6 C w Q)
  (C.step (sFieldAddr 33 v1_1 6) w fun v43_1 w =>
  C.step (sLoad 29 v43_1) w fun v44_1 w =>
  C.calls 63 #[v44_1] w fun v45_1 w =>
  C.step (sUn .not v45_1) w fun v46_1 w =>
  C.bool v46_1
  (Q (.bool false) w)
  (j_1 [] w))))
  (C.step (sFieldAddr 33 v1_1 5) w fun v48_1 w =>
  C.step (sLoad 3 v48_1) w fun v49_1 w =>
  C.step (sBin .neq 3 (.tmp 49) (.const (.int .i64 0)) v49_1 (.int .i64 0)) w fun v50_1 w =>
  C.bool v50_1
  (Q (.bool false) w)
  (C.step (sFieldAddr 33 v1_1 6) w fun v52_1 w =>
  C.step (sLoad 29 v52_1) w fun v53_1 w =>
  C.step (sBuild 29 []) w fun v54_1 w =>
  C.step (sBin .neq 29 (.tmp 53) (.tmp 54) v53_1 v54_1) w fun v55_1 w =>
  C.bool v55_1
  (Q (.bool false) w)
  (j_1 [] w)))))))))
theorem flotillaref05_May_eq (C : Comb) (a0 : Value) (w : World) (Q : Value → World → Prop) : flotillaref05_May_x C a0 w Q = FunY Try.prog C 2 [8, 15] Try.f31 [a0] w Q := by kernel_rfl
theorem flotillaref05_May_sound (a0 : Value) {w : World} {Q : Value → World → Prop} (h : flotillaref05_May_x (std Try.prog) a0 w Q) : CallsR Try.prog 31 #[a0] w Q :=
  calls_of_funY mixed Try.func31 (Eq.mp (flotillaref05_May_eq _ a0 w Q) h)

def enc_Reader_Two_x (C : Comb) (a0 : Value) (w : World) (Q : Value → World → Prop) : Prop :=
  C.calls 65 #[a0, (.int .i64 2)] w fun v4_1 w =>
  C.step (sConv 25 70 v4_1) w fun v5_1 w =>
  Q v5_1 w
theorem enc_Reader_Two_eq (C : Comb) (a0 : Value) (w : World) (Q : Value → World → Prop) : enc_Reader_Two_x C a0 w Q = FunY Try.prog C 2 [] Try.f32 [a0] w Q := by kernel_rfl
theorem enc_Reader_Two_sound (a0 : Value) {w : World} {Q : Value → World → Prop} (h : enc_Reader_Two_x (std Try.prog) a0 w Q) : CallsR Try.prog 32 #[a0] w Q :=
  calls_of_funY mixed Try.func32 (Eq.mp (enc_Reader_Two_eq _ a0 w Q) h)

def enc_Reader_Err_x (C : Comb) (a0 : Value) (w : World) (Q : Value → World → Prop) : Prop :=
  C.step (sBin .eql 60 (.tmp 3) (.const (.pointer none)) a0 (.pointer none)) w fun v4_1 w =>
  C.bool v4_1
  (Q (.int .i64 1) w)
  (C.step (sNil a0) w fun v6_1 w =>
  C.step (sFieldAddr 99 v6_1 1) w fun v7_1 w =>
  C.step (sLoad 34 v7_1) w fun v8_1 w =>
  Q v8_1 w)
theorem enc_Reader_Err_eq (C : Comb) (a0 : Value) (w : World) (Q : Value → World → Prop) : enc_Reader_Err_x C a0 w Q = FunY Try.prog C 2 [] Try.f33 [a0] w Q := by kernel_rfl
theorem enc_Reader_Err_sound (a0 : Value) {w : World} {Q : Value → World → Prop} (h : enc_Reader_Err_x (std Try.prog) a0 w Q) : CallsR Try.prog 33 #[a0] w Q :=
  calls_of_funY mixed Try.func33 (Eq.mp (enc_Reader_Err_eq _ a0 w Q) h)

def crc_Open_k1 (C : Comb) (a0 : Value) (v12_1 : Value) (w : World) (Q : Value → World → Prop) : Prop :=
  C.step (sBuildSlice 22 0 []) w fun v33_1 w =>
  C.step (sSlice 22 a0 none (some v12_1) none) w fun v36_1 w =>
  C.step (sBuiltin .append #[22, 22] 22 [false, false] [v33_1, v36_1]) w fun v37_1 w =>
  Q (.tuple #[v37_1, (.int .i64 0)]) w
def crc_Open_x (C : Comb) (a0 : Value) (w : World) (Q : Value → World → Prop) : Prop :=
  C.step (sBuiltin .len #[22] 3 [false] [a0]) w fun v8_1 w =>
  C.step (sBin .lss 3 (.tmp 8) (.const (.int .i64 4)) v8_1 (.int .i64 4)) w fun v9_1 w =>
  C.bool v9_1
  (Q (.tuple #[(.slice none 0 0), (.int .i64 4)]) w)
  (C.step (sBuiltin .len #[22] 3 [false] [a0]) w fun v11_1 w =>
  C.step (sBin .sub 3 (.tmp 11) (.const (.int .i64 4)) v11_1 (.int .i64 4)) w fun v12_1 w =>
  C.step (sSlice 22 a0 none (some v12_1) none) w fun v15_1 w =>
  C.calls 66 #[v15_1] w fun v16_1 w =>
  C.loop [undef, (.slice none 0 0), (.int .i64 0), (.int .i64 0)] w fun dv_1 vs_1 w again_1 =>
  C.step (sBin .lss 3 (.tmp 17) (.const (.int .i64 4)) (vs_1.getD 3 undef) (.int .i64 4)) w fun v18_1 w =>
  C.bool v18_1
  (C.draw w fun S_1 w =>
  C.stepS S_1 (sBin .add 3 (.tmp 21) (.tmp 22) v12_1 (vs_1.getD 3 undef)) fun v23_1 =>
  C.stepS S_1 (sIndexAddr 22 a0 v23_1) fun v24_1 =>
  C.stepS S_1 (sLoad 5 v24_1) fun v25_1 =>
  C.stepS S_1 (sBin .mul 3 (.const (.int .i64 8)) (.tmp 27) (.int .i64 8) (vs_1.getD 3 undef)) fun v28_1 =>
  C.stepS S_1 (sBin .shr 89 (.tmp 26) (.tmp 28) v16_1 v28_1) fun v29_1 =>
  C.stepS S_1 (sConv 89 5 v29_1) fun v30_1 =>
  C.stepS S_1 (sBin .neq 5 (.tmp 25) (.tmp 30) v25_1 v30_1) fun v31_1 =>
  C.bool v31_1
  (Q (.tuple #[(.slice none 0 0), (.int .i64 6)]) w)
  (C.step (sBin .add 3 (.tmp 17) (.const (.int .i64 1)) (vs_1.getD 3 undef) (.int .i64 1)) w fun v32_1 w =>
  again_1 [(vs_1.getD 3 undef), (vs_1.getD 1 undef), (vs_1.getD 2 undef), v32_1] w))
  (crc_Open_k1 C a0 v12_1 w Q))
theorem crc_Open_eq (C : Comb) (a0 : Value) (w : World) (Q : Value → World → Prop) : crc_Open_x C a0 w Q = FunY Try.prog C 7 [] Try.f34 [a0] w Q := by kernel_rfl
theorem crc_Open_sound (a0 : Value) {w : World} {Q : Value → World → Prop} (h : crc_Open_x (std Try.prog) a0 w Q) : CallsR Try.prog 34 #[a0] w Q :=
  calls_of_funY mixed Try.func34 (Eq.mp (crc_Open_eq _ a0 w Q) h)

def flotillaref02_Open_x (C : Comb) (a0 : Value) (w : World) (Q : Value → World → Prop) : Prop :=
  C.step (sBuiltin .len #[9] 3 [false] [a0]) w fun v6_1 w =>
  C.step (sBin .lss 3 (.tmp 6) (.const (.int .i64 4)) v6_1 (.int .i64 4)) w fun v7_1 w =>
  C.bool v7_1
  (Q (.tuple #[(.string ⟨#[]⟩), (.int .i64 4)]) w)
  (C.step (sBuiltin .len #[9] 3 [false] [a0]) w fun v9_1 w =>
  C.step (sBin .sub 3 (.tmp 9) (.const (.int .i64 4)) v9_1 (.int .i64 4)) w fun v10_1 w =>
  C.draw w fun S_1 w =>
  C.stepS S_1 (sSlice 9 a0 (some v10_1) none none) fun v13_1 =>
  C.stepS S_1 (sSlice 9 a0 none (some v10_1) none) fun v16_1 =>
  C.calls 68 #[v16_1] w fun v17_1 w =>
  C.keepS S_1 w fun S_2 =>
  C.calls 67 #[v17_1] w fun v18_1 w =>
  C.keepS S_2 w fun S_3 =>
  C.stepS S_3 (sBin .neq 9 (.tmp 13) (.tmp 18) v13_1 v18_1) fun v19_1 =>
  C.bool v19_1
  (Q (.tuple #[(.string ⟨#[]⟩), (.int .i64 6)]) w)
  (C.step (sSlice 9 a0 none (some v10_1) none) w fun v22_1 w =>
  Q (.tuple #[v22_1, (.int .i64 0)]) w))
theorem flotillaref02_Open_eq (C : Comb) (a0 : Value) (w : World) (Q : Value → World → Prop) : flotillaref02_Open_x C a0 w Q = FunY Try.prog C 5 [] Try.f35 [a0] w Q := by kernel_rfl
theorem flotillaref02_Open_sound (a0 : Value) {w : World} {Q : Value → World → Prop} (h : flotillaref02_Open_x (std Try.prog) a0 w Q) : CallsR Try.prog 35 #[a0] w Q :=
  calls_of_funY mixed Try.func35 (Eq.mp (flotillaref02_Open_eq _ a0 w Q) h)

def enc_New_x (C : Comb) (w : World) (Q : Value → World → Prop) : Prop :=
  C.step (sBuild 108 []) w fun v1_1 w =>
  C.step (sBox 108 v1_1) w fun v2_1 w =>
  Q v2_1 w
theorem enc_New_eq (C : Comb) (w : World) (Q : Value → World → Prop) : enc_New_x C w Q = FunY Try.prog C 0 [] Try.f36 [] w Q := by kernel_rfl
theorem enc_New_sound {w : World} {Q : Value → World → Prop} (h : enc_New_x (std Try.prog) w Q) : CallsR Try.prog 36 #[] w Q :=
  calls_of_funY mixed Try.func36 (Eq.mp (enc_New_eq _ w Q) h)

def enc_Writer_Two_x (C : Comb) (a0 : Value) (a1 : Value) (w : World) (Q : Value → World → Prop) : Prop :=
  C.step (sConv 70 25 a1) w fun v6_1 w =>
  C.calls 69 #[a0, v6_1, (.int .i64 2)] w fun v7_1 w =>
  Q (.tuple #[]) w
theorem enc_Writer_Two_eq (C : Comb) (a0 : Value) (a1 : Value) (w : World) (Q : Value → World → Prop) : enc_Writer_Two_x C a0 a1 w Q = FunY Try.prog C 4 [] Try.f37 [a0, a1] w Q := by kernel_rfl
theorem enc_Writer_Two_sound (a0 : Value) (a1 : Value) {w : World} {Q : Value → World → Prop} (h : enc_Writer_Two_x (std Try.prog) a0 a1 w Q) : CallsR Try.prog 37 #[a0, a1] w Q :=
  calls_of_funY mixed Try.func37 (Eq.mp (enc_Writer_Two_eq _ a0 a1 w Q) h)

def crc_Seal_x (C : Comb) (a0 : Value) (w : World) (Q : Value → World → Prop) : Prop :=
  C.calls 66 #[a0] w fun v5_1 w =>
  C.step (sBuildSlice 22 0 []) w fun v6_1 w =>
  C.step (sBuiltin .append #[22, 22] 22 [false, false] [v6_1, a0]) w fun v8_1 w =>
  C.step (sConv 89 5 v5_1) w fun v10_1 w =>
  C.step (sBin .shr 89 (.tmp 11) (.const (.int .u64 8)) v5_1 (.int .u64 8)) w fun v12_1 w =>
  C.step (sConv 89 5 v12_1) w fun v13_1 w =>
  C.step (sBin .shr 89 (.tmp 14) (.const (.int .u64 16)) v5_1 (.int .u64 16)) w fun v15_1 w =>
  C.step (sConv 89 5 v15_1) w fun v16_1 w =>
  C.step (sBin .shr 89 (.tmp 17) (.const (.int .u64 24)) v5_1 (.int .u64 24)) w fun v18_1 w =>
  C.step (sConv 89 5 v18_1) w fun v19_1 w =>
  C.step (sBuildSlice 22 4 [(0, v10_1), (1, v13_1), (2, v16_1), (3, v19_1)]) w fun v20_1 w =>
  C.step (sBuiltin .append #[22, 22] 22 [false, false] [v8_1, v20_1]) w fun v21_1 w =>
  Q v21_1 w
theorem crc_Seal_eq (C : Comb) (a0 : Value) (w : World) (Q : Value → World → Prop) : crc_Seal_x C a0 w Q = FunY Try.prog C 4 [] Try.f38 [a0] w Q := by kernel_rfl
theorem crc_Seal_sound (a0 : Value) {w : World} {Q : Value → World → Prop} (h : crc_Seal_x (std Try.prog) a0 w Q) : CallsR Try.prog 38 #[a0] w Q :=
  calls_of_funY mixed Try.func38 (Eq.mp (crc_Seal_eq _ a0 w Q) h)

def enc_Writer_Done_x (C : Comb) (a0 : Value) (w : World) (Q : Value → World → Prop) : Prop :=
  C.step (sBin .eql 76 (.tmp 3) (.const (.pointer none)) a0 (.pointer none)) w fun v4_1 w =>
  C.bool v4_1
  (Q (.slice none 0 0) w)
  (C.step (sBuildSlice 22 0 []) w fun v5_1 w =>
  C.step (sNil a0) w fun v7_1 w =>
  C.step (sFieldAddr 108 v7_1 0) w fun v8_1 w =>
  C.step (sFieldAddr 97 v8_1 0) w fun v9_1 w =>
  C.step (sLoad 22 v9_1) w fun v10_1 w =>
  C.step (sBuiltin .append #[22, 22] 22 [false, false] [v5_1, v10_1]) w fun v11_1 w =>
  Q v11_1 w)
theorem enc_Writer_Done_eq (C : Comb) (a0 : Value) (w : World) (Q : Value → World → Prop) : enc_Writer_Done_x C a0 w Q = FunY Try.prog C 2 [] Try.f39 [a0] w Q := by kernel_rfl
theorem enc_Writer_Done_sound (a0 : Value) {w : World} {Q : Value → World → Prop} (h : enc_Writer_Done_x (std Try.prog) a0 w Q) : CallsR Try.prog 39 #[a0] w Q :=
  calls_of_funY mixed Try.func39 (Eq.mp (enc_Writer_Done_eq _ a0 w Q) h)

def rec_numbered_x (C : Comb) (a0 : Value) (w : World) (Q : Value → World → Prop) : Prop :=
  C.step (sBin .geq 26 (.tmp 3) (.const (.int .u64 16)) a0 (.int .u64 16)) w fun v4_1 w =>
  C.bool v4_1
  (C.step (sBin .leq 26 (.tmp 6) (.const (.int .u64 1152921504606846991)) a0 (.int .u64 1152921504606846991)) w fun v7_1 w =>
  Q v7_1 w)
  (Q (.bool false) w)
theorem rec_numbered_eq (C : Comb) (a0 : Value) (w : World) (Q : Value → World → Prop) : rec_numbered_x C a0 w Q = FunY Try.prog C 2 [] Try.f40 [a0] w Q := by kernel_rfl
theorem rec_numbered_sound (a0 : Value) {w : World} {Q : Value → World → Prop} (h : rec_numbered_x (std Try.prog) a0 w Q) : CallsR Try.prog 40 #[a0] w Q :=
  calls_of_funY mixed Try.func40 (Eq.mp (rec_numbered_eq _ a0 w Q) h)

def rec_changes_x (C : Comb) (a0 : Value) (w : World) (Q : Value → World → Prop) : Prop :=
  C.step (sBin .eql 24 (.tmp 3) (.const (.int .i64 1)) a0 (.int .i64 1)) w fun v4_1 w =>
  C.bool v4_1
  (Q (.bool true) w)
  (C.step (sBin .eql 24 (.tmp 6) (.const (.int .i64 2)) a0 (.int .i64 2)) w fun v7_1 w =>
  Q v7_1 w)
theorem rec_changes_eq (C : Comb) (a0 : Value) (w : World) (Q : Value → World → Prop) : rec_changes_x C a0 w Q = FunY Try.prog C 2 [] Try.f41 [a0] w Q := by kernel_rfl
theorem rec_changes_sound (a0 : Value) {w : World} {Q : Value → World → Prop} (h : rec_changes_x (std Try.prog) a0 w Q) : CallsR Try.prog 41 #[a0] w Q :=
  calls_of_funY mixed Try.func41 (Eq.mp (rec_changes_eq _ a0 w Q) h)

def rec_page_x (C : Comb) (a0 : Value) (w : World) (Q : Value → World → Prop) : Prop :=
  C.step (sBin .geq 3 (.tmp 3) (.const (.int .i64 0)) a0 (.int .i64 0)) w fun v4_1 w =>
  C.bool v4_1
  (C.step (sBin .lss 3 (.tmp 6) (.const (.int .i64 16)) a0 (.int .i64 16)) w fun v7_1 w =>
  Q v7_1 w)
  (Q (.bool false) w)
theorem rec_page_eq (C : Comb) (a0 : Value) (w : World) (Q : Value → World → Prop) : rec_page_x C a0 w Q = FunY Try.prog C 2 [] Try.f42 [a0] w Q := by kernel_rfl
theorem rec_page_sound (a0 : Value) {w : World} {Q : Value → World → Prop} (h : rec_page_x (std Try.prog) a0 w Q) : CallsR Try.prog 42 #[a0] w Q :=
  calls_of_funY mixed Try.func42 (Eq.mp (rec_page_eq _ a0 w Q) h)

def rec_mayAct_k1 (C : Comb) (w : World) (Q : Value → World → Prop) : Prop :=
  Q (.bool false) w
def rec_mayAct_x (C : Comb) (a0 : Value) (w : World) (Q : Value → World → Prop) : Prop :=
  C.step (sBox 29 a0) w fun v1_1 w =>
  C.step (sFieldAddr 29 v1_1 1) w fun v3_1 w =>
  C.step (sLoad 9 v3_1) w fun v4_1 w =>
  C.step (sBuiltin .len #[9] 3 [false] [v4_1]) w fun v5_1 w =>
  C.step (sBin .lss 3 (.tmp 5) (.const (.int .i64 1)) v5_1 (.int .i64 1)) w fun v6_1 w =>
  C.bool v6_1
  (rec_mayAct_k1 C w Q)
  (C.step (sFieldAddr 29 v1_1 1) w fun v8_1 w =>
  C.step (sLoad 9 v8_1) w fun v9_1 w =>
  C.step (sBuiltin .len #[9] 3 [false] [v9_1]) w fun v10_1 w =>
  C.step (sBin .gtr 3 (.tmp 10) (.const (.int .i64 16)) v10_1 (.int .i64 16)) w fun v11_1 w =>
  C.bool v11_1
  (rec_mayAct_k1 C w Q)
  (C.step (sFieldAddr 29 v1_1 2) w fun v14_1 w =>
  C.step (sLoad 9 v14_1) w fun v15_1 w =>
  C.step (sBuiltin .len #[9] 3 [false] [v15_1]) w fun v16_1 w =>
  C.step (sBin .gtr 3 (.tmp 16) (.const (.int .i64 32)) v16_1 (.int .i64 32)) w fun v17_1 w =>
  C.bool v17_1
  (rec_mayAct_k1 C w Q)
  (C.step (sFieldAddr 29 v1_1 3) w fun v20_1 w =>
  C.step (sLoad 9 v20_1) w fun v21_1 w =>
  C.step (sBuiltin .len #[9] 3 [false] [v21_1]) w fun v22_1 w =>
  C.step (sBin .gtr 3 (.tmp 22) (.const (.int .i64 32)) v22_1 (.int .i64 32)) w fun v23_1 w =>
  C.bool v23_1
  (Q (.bool false) w)
  (C.step (sFieldAddr 29 v1_1 0) w fun v25_1 w =>
  C.step (sLoad 27 v25_1) w fun v26_1 w =>
  C.step (sBin .eql 27 (.tmp 26) (.const (.int .i64 1)) v26_1 (.int .i64 1)) w fun v28_1 w =>
  C.bool v28_1
  (C.step (sFieldAddr 29 v1_1 2) w fun v29_1 w =>
  C.step (sLoad 9 v29_1) w fun v30_1 w =>
  C.step (sBin .eql 9 (.tmp 30) (.const (.string ⟨#[]⟩)) v30_1 (.string ⟨#[]⟩)) w fun v31_1 w =>
  Q v31_1 w)
  (C.step (sBin .eql 27 (.tmp 26) (.const (.int .i64 2)) v26_1 (.int .i64 2)) w fun v33_1 w =>
  C.bool v33_1
  (Q (.bool true) w)
  (C.step (sBin .eql 27 (.tmp 26) (.const (.int .i64 3)) v26_1 (.int .i64 3)) w fun v35_1 w =>
  C.bool v35_1
  (C.step (sFieldAddr 29 v1_1 3) w fun v36_1 w =>
  C.step (sLoad 9 v36_1) w fun v37_1 w =>
  C.step (sBin .eql 9 (.tmp 37) (.const (.string ⟨#[]⟩)) v37_1 (.string ⟨#[]⟩)) w fun v38_1 w =>
  Q v38_1 w)
  (Q (.bool false) w)))))))
theorem rec_mayAct_eq (C : Comb) (a0 : Value) (w : World) (Q : Value → World → Prop) : rec_mayAct_x C a0 w Q = FunY Try.prog C 2 [] Try.f43 [a0] w Q := by kernel_rfl
theorem rec_mayAct_sound (a0 : Value) {w : World} {Q : Value → World → Prop} (h : rec_mayAct_x (std Try.prog) a0 w Q) : CallsR Try.prog 43 #[a0] w Q :=
  calls_of_funY mixed Try.func43 (Eq.mp (rec_mayAct_eq _ a0 w Q) h)

def rec_points_x (C : Comb) (a0 : Value) (w : World) (Q : Value → World → Prop) : Prop :=
  C.step (sBin .eql 24 (.tmp 3) (.const (.int .i64 7)) a0 (.int .i64 7)) w fun v4_1 w =>
  C.bool v4_1
  (Q (.bool true) w)
  (C.step (sBin .eql 24 (.tmp 6) (.const (.int .i64 8)) a0 (.int .i64 8)) w fun v7_1 w =>
  Q v7_1 w)
theorem rec_points_eq (C : Comb) (a0 : Value) (w : World) (Q : Value → World → Prop) : rec_points_x C a0 w Q = FunY Try.prog C 2 [] Try.f44 [a0] w Q := by kernel_rfl
theorem rec_points_sound (a0 : Value) {w : World} {Q : Value → World → Prop} (h : rec_points_x (std Try.prog) a0 w Q) : CallsR Try.prog 44 #[a0] w Q :=
  calls_of_funY mixed Try.func44 (Eq.mp (rec_points_eq _ a0 w Q) h)

def rec_txn_x (C : Comb) (a0 : Value) (w : World) (Q : Value → World → Prop) : Prop :=
  C.step (sBin .geq 3 (.tmp 3) (.const (.int .i64 1)) a0 (.int .i64 1)) w fun v4_1 w =>
  C.bool v4_1
  (C.step (sBin .leq 3 (.tmp 6) (.const (.int .i64 1073741824)) a0 (.int .i64 1073741824)) w fun v7_1 w =>
  Q v7_1 w)
  (Q (.bool false) w)
theorem rec_txn_eq (C : Comb) (a0 : Value) (w : World) (Q : Value → World → Prop) : rec_txn_x C a0 w Q = FunY Try.prog C 2 [] Try.f45 [a0] w Q := by kernel_rfl
theorem rec_txn_sound (a0 : Value) {w : World} {Q : Value → World → Prop} (h : rec_txn_x (std Try.prog) a0 w Q) : CallsR Try.prog 45 #[a0] w Q :=
  calls_of_funY mixed Try.func45 (Eq.mp (rec_txn_eq _ a0 w Q) h)

def rec_tables_k2 (C : Comb) (w : World) (Q : Value → World → Prop) : Prop :=
  Q (.bool true) w
def rec_tables_k3 (C : Comb) (vs_1 : List Value) (again_1 : List Value → World → Prop) (w : World) (Q : Value → World → Prop) : Prop :=
  C.step (sBin .add 3 (.tmp 65) (.const (.int .i64 1)) (vs_1.getD 0 undef) (.int .i64 1)) w fun v96_1 w =>
  again_1 [v96_1] w
def rec_tables_k4 (C : Comb) (w : World) (Q : Value → World → Prop) : Prop :=
  Q (.bool false) w
def rec_tables_k1 (C : Comb) (v1_1 : Value) (w : World) (Q : Value → World → Prop) : Prop :=
  C.step (sFieldAddr 33 v1_1 8) w fun v62_1 w =>
  C.step (sLoad 31 v62_1) w fun v63_1 w =>
  C.step (sBuiltin .len #[31] 3 [false] [v63_1]) w fun v64_1 w =>
  C.loop [(.int .i64 0)] w fun dv_1 vs_1 w again_1 =>
  C.step (sBin .lss 3 (.tmp 65) (.tmp 64) (vs_1.getD 0 undef) v64_1) w fun v66_1 w =>
  C.bool v66_1
  (C.step (sIndexAddr 31 v63_1 (vs_1.getD 0 undef)) w fun v68_1 w =>
  C.step (sLoad 53 v68_1) w fun v69_1 w =>
  C.step (sAlloc 53) w fun v6_1 w =>
  C.step (sStore 53 v6_1 v69_1) w fun vx_1 w =>
  C.draw w fun S_1 w =>
  C.stepS S_1 (sFieldAddr 53 v6_1 0) fun v70_1 =>
  C.stepS S_1 (sLoad 3 v70_1) fun v71_1 =>
  C.calls 42 #[v71_1] w fun v72_1 w =>
  C.keepT w fun S_2 =>
  C.stepS S_2 (sUn .not v72_1) fun v73_1 =>
  C.bool v73_1
  (rec_tables_k4 C w Q)
  (C.stepS S_2 (sFieldAddr 53 v6_1 1) fun v75_1 =>
  C.stepS S_2 (sLoad 26 v75_1) fun v76_1 =>
  C.calls 40 #[v76_1] w fun v77_1 w =>
  C.keepT w fun S_3 =>
  C.stepS S_3 (sUn .not v77_1) fun v78_1 =>
  C.bool v78_1
  (rec_tables_k4 C w Q)
  (C.stepS S_3 (sBin .gtr 3 (.tmp 81) (.const (.int .i64 0)) (vs_1.getD 0 undef) (.int .i64 0)) fun v82_1 =>
  C.bool v82_1
  (C.stepS S_3 (sFieldAddr 33 v1_1 8) fun v84_1 =>
  C.stepS S_3 (sLoad 31 v84_1) fun v85_1 =>
  C.stepS S_3 (sBin .sub 3 (.tmp 86) (.const (.int .i64 1)) (vs_1.getD 0 undef) (.int .i64 1)) fun v87_1 =>
  C.stepS S_3 (sIndexAddr 31 v85_1 v87_1) fun v88_1 =>
  C.stepS S_3 (sFieldAddr 53 v88_1 0) fun v89_1 =>
  C.stepS S_3 (sLoad 3 v89_1) fun v90_1 =>
  C.stepS S_3 (sFieldAddr 53 v6_1 0) fun v91_1 =>
  C.stepS S_3 (sLoad 3 v91_1) fun v92_1 =>
  C.stepS S_3 (sBin .geq 3 (.tmp 90) (.tmp 92) v90_1 v92_1) fun v93_1 =>
  C.bool v93_1
  (Q (.bool false) w)
  (rec_tables_k3 C vs_1 again_1 w Q))
  (rec_tables_k3 C vs_1 again_1 w Q))))
  (rec_tables_k2 C w Q)
def rec_tables_k5 (C : Comb) (vs_2 : List Value) (again_2 : List Value → World → Prop) (w : World) (Q : Value → World → Prop) : Prop :=
  C.step (sBin .add 3 (.tmp 20) (.const (.int .i64 1)) (vs_2.getD 0 undef) (.int .i64 1)) w fun v61_1 w =>
  again_2 [v61_1] w
def rec_tables_k6 (C : Comb) (w : World) (Q : Value → World → Prop) : Prop :=
  Q (.bool false) w
def rec_tables_x (C : Comb) (a0 : Value) (w : World) (Q : Value → World → Prop) : Prop :=
  C.step (sBox 33 a0) w fun v1_1 w =>
  C.step (sFieldAddr 33 v1_1 7) w fun v7_1 w =>
  C.step (sLoad 30 v7_1) w fun v8_1 w =>
  C.step (sBuiltin .len #[30] 3 [false] [v8_1]) w fun v9_1 w =>
  C.step (sBin .gtr 3 (.tmp 9) (.const (.int .i64 64)) v9_1 (.int .i64 64)) w fun v10_1 w =>
  C.bool v10_1
  (Q (.bool false) w)
  (C.step (sFieldAddr 33 v1_1 8) w fun v12_1 w =>
  C.step (sLoad 31 v12_1) w fun v13_1 w =>
  C.step (sBuiltin .len #[31] 3 [false] [v13_1]) w fun v14_1 w =>
  C.step (sBin .gtr 3 (.tmp 14) (.const (.int .i64 16)) v14_1 (.int .i64 16)) w fun v15_1 w =>
  C.bool v15_1
  (Q (.bool false) w)
  (C.step (sFieldAddr 33 v1_1 7) w fun v17_1 w =>
  C.step (sLoad 30 v17_1) w fun v18_1 w =>
  C.step (sBuiltin .len #[30] 3 [false] [v18_1]) w fun v19_1 w =>
  C.loop [(.int .i64 0)] w fun dv_2 vs_2 w again_2 =>
  C.step (sBin .lss 3 (.tmp 20) (.tmp 19) (vs_2.getD 0 undef) v19_1) w fun v21_1 w =>
  C.bool v21_1
  (C.step (sIndexAddr 30 v18_1 (vs_2.getD 0 undef)) w fun v23_1 w =>
  C.step (sLoad 51 v23_1) w fun v24_1 w =>
  C.step (sAlloc 51) w fun v4_1 w =>
  C.step (sStore 51 v4_1 v24_1) w fun vx_2 w =>
  C.draw w fun S_4 w =>
  C.stepS S_4 (sFieldAddr 51 v4_1 0) fun v25_1 =>
  C.stepS S_4 (sLoad 3 v25_1) fun v26_1 =>
  C.calls 45 #[v26_1] w fun v27_1 w =>
  C.keepT w fun S_5 =>
  C.stepS S_5 (sUn .not v27_1) fun v28_1 =>
  C.bool v28_1
  (rec_tables_k6 C w Q)
  (C.stepS S_5 (sFieldAddr 51 v4_1 1) fun v30_1 =>
  C.stepS S_5 (sLoad 49 v30_1) fun v31_1 =>
  C.stepS S_5 (sBin .lss 49 (.tmp 31) (.const (.int .i64 0)) v31_1 (.int .i64 0)) fun v32_1 =>
  C.bool v32_1
  (rec_tables_k6 C w Q)
  (C.stepS S_5 (sFieldAddr 51 v4_1 1) fun v35_1 =>
  C.stepS S_5 (sLoad 49 v35_1) fun v36_1 =>
  C.stepS S_5 (sBin .geq 49 (.tmp 36) (.const (.int .i64 3)) v36_1 (.int .i64 3)) fun v37_1 =>
  C.bool v37_1
  (rec_tables_k6 C w Q)
  (C.stepS S_5 (sFieldAddr 51 v4_1 2) fun v40_1 =>
  C.stepS S_5 (sLoad 26 v40_1) fun v41_1 =>
  C.calls 40 #[v41_1] w fun v42_1 w =>
  C.keepT w fun S_6 =>
  C.stepS S_6 (sUn .not v42_1) fun v43_1 =>
  C.bool v43_1
  (rec_tables_k6 C w Q)
  (C.stepS S_6 (sBin .gtr 3 (.tmp 46) (.const (.int .i64 0)) (vs_2.getD 0 undef) (.int .i64 0)) fun v47_1 =>
  C.bool v47_1
  (C.stepS S_6 (sFieldAddr 33 v1_1 7) fun v49_1 =>
  C.stepS S_6 (sLoad 30 v49_1) fun v50_1 =>
  C.stepS S_6 (sBin .sub 3 (.tmp 51) (.const (.int .i64 1)) (vs_2.getD 0 undef) (.int .i64 1)) fun v52_1 =>
  C.stepS S_6 (sIndexAddr 30 v50_1 v52_1) fun v53_1 =>
  C.stepS S_6 (sFieldAddr 51 v53_1 0) fun v54_1 =>
  C.stepS S_6 (sLoad 3 v54_1) fun v55_1 =>
  C.stepS S_6 (sFieldAddr 51 v4_1 0) fun v56_1 =>
  C.stepS S_6 (sLoad 3 v56_1) fun v57_1 =>
  C.stepS S_6 (sBin .geq 3 (.tmp 55) (.tmp 57) v55_1 v57_1) fun v58_1 =>
  C.bool v58_1
  (Q (.bool false) w)
  (rec_tables_k5 C vs_2 again_2 w Q))
  (rec_tables_k5 C vs_2 again_2 w Q))))))
  (rec_tables_k1 C v1_1 w Q)))
theorem rec_tables_eq (C : Comb) (a0 : Value) (w : World) (Q : Value → World → Prop) : rec_tables_x C a0 w Q = FunY Try.prog C 2 [] Try.f46 [a0] w Q := by kernel_rfl
theorem rec_tables_sound (a0 : Value) {w : World} {Q : Value → World → Prop} (h : rec_tables_x (std Try.prog) a0 w Q) : CallsR Try.prog 46 #[a0] w Q :=
  calls_of_funY mixed Try.func46 (Eq.mp (rec_tables_eq _ a0 w Q) h)

def flotillaref01_Num_k1 (C : Comb) (u5_1 : Value) (w : World) (Q : Value → World → Prop) : Prop :=
  Q u5_1 w
def flotillaref01_Num_x (C : Comb) (a0 : Value) (a1 : Value) (w : World) (Q : Value → World → Prop) : Prop :=
  C.loop [(.string ⟨#[]⟩), a0, (.int .i64 0)] w fun dv_1 vs_1 w again_1 =>
  C.step (sBin .lss 3 (.tmp 7) (.tmp 8) (vs_1.getD 2 undef) a1) w fun v9_1 w =>
  C.bool v9_1
  (C.step (sBin .rem 25 (.tmp 13) (.const (.int .u64 256)) (vs_1.getD 1 undef) (.int .u64 256)) w fun v14_1 w =>
  C.step (sConv 25 5 v14_1) w fun v15_1 w =>
  C.step (sBuildSlice 22 1 [(0, v15_1)]) w fun v16_1 w =>
  C.step (sConv 22 9 v16_1) w fun v17_1 w =>
  C.step (sBin .add 9 (.tmp 12) (.tmp 17) (vs_1.getD 0 undef) v17_1) w fun v18_1 w =>
  C.step (sBin .quo 25 (.tmp 19) (.const (.int .u64 256)) (vs_1.getD 1 undef) (.int .u64 256)) w fun v20_1 w =>
  C.step (sBin .add 3 (.tmp 10) (.const (.int .i64 1)) (vs_1.getD 2 undef) (.int .i64 1)) w fun v11_1 w =>
  again_1 [v18_1, v20_1, v11_1] w)
  (flotillaref01_Num_k1 C (vs_1.getD 0 undef) w Q)
theorem flotillaref01_Num_eq (C : Comb) (a0 : Value) (a1 : Value) (w : World) (Q : Value → World → Prop) : flotillaref01_Num_x C a0 a1 w Q = FunY Try.prog C 7 [] Try.f47 [a0, a1] w Q := by kernel_rfl
theorem flotillaref01_Num_sound (a0 : Value) (a1 : Value) {w : World} {Q : Value → World → Prop} (h : flotillaref01_Num_x (std Try.prog) a0 a1 w Q) : CallsR Try.prog 47 #[a0, a1] w Q :=
  calls_of_funY mixed Try.func47 (Eq.mp (flotillaref01_Num_eq _ a0 a1 w Q) h)

def flotillaref01_Text_k1 (C : Comb) (u0_1 : Value) (w : World) (Q : Value → World → Prop) : Prop :=
  C.step (sBuiltin .len #[9] 3 [false] [u0_1]) w fun v9_1 w =>
  C.step (sConv 3 25 v9_1) w fun v10_1 w =>
  C.calls 47 #[v10_1, (.int .i64 2)] w fun v11_1 w =>
  C.step (sBin .add 9 (.tmp 11) (.tmp 12) v11_1 u0_1) w fun v13_1 w =>
  Q v13_1 w
def flotillaref01_Text_x (C : Comb) (a0 : Value) (w : World) (Q : Value → World → Prop) : Prop :=
  C.step (sBuiltin .len #[9] 3 [false] [a0]) w fun v4_1 w =>
  C.step (sBin .gtr 3 (.tmp 4) (.const (.int .i64 65535)) v4_1 (.int .i64 65535)) w fun v5_1 w =>
  C.bool v5_1
  (C.step (sSlice 9 a0 none (some (.int .i64 65535)) none) w fun v7_1 w =>
  flotillaref01_Text_k1 C v7_1 w Q)
  (flotillaref01_Text_k1 C a0 w Q)
theorem flotillaref01_Text_eq (C : Comb) (a0 : Value) (w : World) (Q : Value → World → Prop) : flotillaref01_Text_x C a0 w Q = FunY Try.prog C 2 [] Try.f48 [a0] w Q := by kernel_rfl
theorem flotillaref01_Text_sound (a0 : Value) {w : World} {Q : Value → World → Prop} (h : flotillaref01_Text_x (std Try.prog) a0 w Q) : CallsR Try.prog 48 #[a0] w Q :=
  calls_of_funY mixed Try.func48 (Eq.mp (flotillaref01_Text_eq _ a0 w Q) h)

def enc_Writer_Byte_x (C : Comb) (a0 : Value) (a1 : Value) (w : World) (Q : Value → World → Prop) : Prop :=
  C.step (sConv 5 25 a1) w fun v6_1 w =>
  C.calls 69 #[a0, v6_1, (.int .i64 1)] w fun v7_1 w =>
  Q (.tuple #[]) w
theorem enc_Writer_Byte_eq (C : Comb) (a0 : Value) (a1 : Value) (w : World) (Q : Value → World → Prop) : enc_Writer_Byte_x C a0 a1 w Q = FunY Try.prog C 4 [] Try.f49 [a0, a1] w Q := by kernel_rfl
theorem enc_Writer_Byte_sound (a0 : Value) (a1 : Value) {w : World} {Q : Value → World → Prop} (h : enc_Writer_Byte_x (std Try.prog) a0 a1 w Q) : CallsR Try.prog 49 #[a0, a1] w Q :=
  calls_of_funY mixed Try.func49 (Eq.mp (enc_Writer_Byte_eq _ a0 a1 w Q) h)

def enc_Writer_Eight_x (C : Comb) (a0 : Value) (a1 : Value) (w : World) (Q : Value → World → Prop) : Prop :=
  C.calls 69 #[a0, a1, (.int .i64 8)] w fun v6_1 w =>
  Q (.tuple #[]) w
theorem enc_Writer_Eight_eq (C : Comb) (a0 : Value) (a1 : Value) (w : World) (Q : Value → World → Prop) : enc_Writer_Eight_x C a0 a1 w Q = FunY Try.prog C 4 [] Try.f50 [a0, a1] w Q := by kernel_rfl
theorem enc_Writer_Eight_sound (a0 : Value) (a1 : Value) {w : World} {Q : Value → World → Prop} (h : enc_Writer_Eight_x (std Try.prog) a0 a1 w Q) : CallsR Try.prog 50 #[a0, a1] w Q :=
  calls_of_funY mixed Try.func50 (Eq.mp (enc_Writer_Eight_eq _ a0 a1 w Q) h)

def enc_Writer_Four_x (C : Comb) (a0 : Value) (a1 : Value) (w : World) (Q : Value → World → Prop) : Prop :=
  C.step (sConv 89 25 a1) w fun v6_1 w =>
  C.calls 69 #[a0, v6_1, (.int .i64 4)] w fun v7_1 w =>
  Q (.tuple #[]) w
theorem enc_Writer_Four_eq (C : Comb) (a0 : Value) (a1 : Value) (w : World) (Q : Value → World → Prop) : enc_Writer_Four_x C a0 a1 w Q = FunY Try.prog C 4 [] Try.f51 [a0, a1] w Q := by kernel_rfl
theorem enc_Writer_Four_sound (a0 : Value) (a1 : Value) {w : World} {Q : Value → World → Prop} (h : enc_Writer_Four_x (std Try.prog) a0 a1 w Q) : CallsR Try.prog 51 #[a0, a1] w Q :=
  calls_of_funY mixed Try.func51 (Eq.mp (enc_Writer_Four_eq _ a0 a1 w Q) h)

def enc_Writer_Text_k1 (C : Comb) (a0 : Value) (u1_1 : Value) (w : World) (Q : Value → World → Prop) : Prop :=
  C.step (sBuiltin .len #[9] 3 [false] [u1_1]) w fun v13_1 w =>
  C.step (sConv 3 25 v13_1) w fun v14_1 w =>
  C.calls 69 #[a0, v14_1, (.int .i64 2)] w fun v15_1 w =>
  C.step (sNil a0) w fun v18_1 w =>
  C.step (sFieldAddr 108 v18_1 0) w fun v19_1 w =>
  C.step (sFieldAddr 97 v19_1 0) w fun v20_1 w =>
  C.step (sLoad 22 v20_1) w fun v21_1 w =>
  C.step (sBuiltin .append #[22, 9] 22 [false, false] [v21_1, u1_1]) w fun v23_1 w =>
  C.step (sNil a0) w fun v24_1 w =>
  C.step (sFieldAddr 108 v24_1 0) w fun v25_1 w =>
  C.step (sFieldAddr 97 v25_1 0) w fun v26_1 w =>
  C.step (sStore 22 v26_1 v23_1) w fun vx_1 w =>
  Q (.tuple #[]) w
def enc_Writer_Text_x (C : Comb) (a0 : Value) (a1 : Value) (w : World) (Q : Value → World → Prop) : Prop :=
  C.step (sBin .eql 76 (.tmp 4) (.const (.pointer none)) a0 (.pointer none)) w fun v5_1 w =>
  C.bool v5_1
  (Q (.tuple #[]) w)
  (C.step (sBuiltin .len #[9] 3 [false] [a1]) w fun v7_1 w =>
  C.step (sBin .gtr 3 (.tmp 7) (.const (.int .i64 65535)) v7_1 (.int .i64 65535)) w fun v8_1 w =>
  C.bool v8_1
  (C.step (sSlice 9 a1 none (some (.int .i64 65535)) none) w fun v10_1 w =>
  enc_Writer_Text_k1 C a0 v10_1 w Q)
  (enc_Writer_Text_k1 C a0 a1 w Q))
theorem enc_Writer_Text_eq (C : Comb) (a0 : Value) (a1 : Value) (w : World) (Q : Value → World → Prop) : enc_Writer_Text_x C a0 a1 w Q = FunY Try.prog C 4 [] Try.f52 [a0, a1] w Q := by kernel_rfl
theorem enc_Writer_Text_sound (a0 : Value) (a1 : Value) {w : World} {Q : Value → World → Prop} (h : enc_Writer_Text_x (std Try.prog) a0 a1 w Q) : CallsR Try.prog 52 #[a0, a1] w Q :=
  calls_of_funY mixed Try.func52 (Eq.mp (enc_Writer_Text_eq _ a0 a1 w Q) h)

def flotillaref02_Seal_x (C : Comb) (a0 : Value) (w : World) (Q : Value → World → Prop) : Prop :=
  C.calls 68 #[a0] w fun v5_1 w =>
  C.calls 67 #[v5_1] w fun v6_1 w =>
  C.step (sBin .add 9 (.tmp 3) (.tmp 6) a0 v6_1) w fun v7_1 w =>
  Q v7_1 w
theorem flotillaref02_Seal_eq (C : Comb) (a0 : Value) (w : World) (Q : Value → World → Prop) : flotillaref02_Seal_x C a0 w Q = FunY Try.prog C 2 [] Try.f53 [a0] w Q := by kernel_rfl
theorem flotillaref02_Seal_sound (a0 : Value) {w : World} {Q : Value → World → Prop} (h : flotillaref02_Seal_x (std Try.prog) a0 w Q) : CallsR Try.prog 53 #[a0] w Q :=
  calls_of_funY mixed Try.func53 (Eq.mp (flotillaref02_Seal_eq _ a0 w Q) h)

def enc_Reader_Byte_x (C : Comb) (a0 : Value) (w : World) (Q : Value → World → Prop) : Prop :=
  C.calls 65 #[a0, (.int .i64 1)] w fun v4_1 w =>
  C.step (sConv 25 5 v4_1) w fun v5_1 w =>
  Q v5_1 w
theorem enc_Reader_Byte_eq (C : Comb) (a0 : Value) (w : World) (Q : Value → World → Prop) : enc_Reader_Byte_x C a0 w Q = FunY Try.prog C 2 [] Try.f54 [a0] w Q := by kernel_rfl
theorem enc_Reader_Byte_sound (a0 : Value) {w : World} {Q : Value → World → Prop} (h : enc_Reader_Byte_x (std Try.prog) a0 w Q) : CallsR Try.prog 54 #[a0] w Q :=
  calls_of_funY mixed Try.func54 (Eq.mp (enc_Reader_Byte_eq _ a0 w Q) h)

def enc_Reader_Eight_x (C : Comb) (a0 : Value) (w : World) (Q : Value → World → Prop) : Prop :=
  C.calls 65 #[a0, (.int .i64 8)] w fun v4_1 w =>
  Q v4_1 w
theorem enc_Reader_Eight_eq (C : Comb) (a0 : Value) (w : World) (Q : Value → World → Prop) : enc_Reader_Eight_x C a0 w Q = FunY Try.prog C 2 [] Try.f55 [a0] w Q := by kernel_rfl
theorem enc_Reader_Eight_sound (a0 : Value) {w : World} {Q : Value → World → Prop} (h : enc_Reader_Eight_x (std Try.prog) a0 w Q) : CallsR Try.prog 55 #[a0] w Q :=
  calls_of_funY mixed Try.func55 (Eq.mp (enc_Reader_Eight_eq _ a0 w Q) h)

def enc_Reader_Four_x (C : Comb) (a0 : Value) (w : World) (Q : Value → World → Prop) : Prop :=
  C.calls 65 #[a0, (.int .i64 4)] w fun v4_1 w =>
  C.step (sConv 25 89 v4_1) w fun v5_1 w =>
  Q v5_1 w
theorem enc_Reader_Four_eq (C : Comb) (a0 : Value) (w : World) (Q : Value → World → Prop) : enc_Reader_Four_x C a0 w Q = FunY Try.prog C 2 [] Try.f56 [a0] w Q := by kernel_rfl
theorem enc_Reader_Four_sound (a0 : Value) {w : World} {Q : Value → World → Prop} (h : enc_Reader_Four_x (std Try.prog) a0 w Q) : CallsR Try.prog 56 #[a0] w Q :=
  calls_of_funY mixed Try.func56 (Eq.mp (enc_Reader_Four_eq _ a0 w Q) h)

def enc_Reader_Text_k1 (C : Comb) (a0 : Value) (v21_1 : Value) (v24_1 : Value) (w : World) (Q : Value → World → Prop) : Prop :=
  C.calls 70 #[a0, v24_1] w fun v41_1 w =>
  C.step (sConv 22 9 v41_1) w fun v42_1 w =>
  C.step (sNil a0) w fun v44_1 w =>
  C.step (sFieldAddr 99 v44_1 1) w fun v45_1 w =>
  C.step (sLoad 34 v45_1) w fun v46_1 w =>
  C.step (sBin .neq 34 (.tmp 46) (.const (.int .i64 0)) v46_1 (.int .i64 0)) w fun v47_1 w =>
  C.bool v47_1
  (C.step (sNil a0) w fun v50_1 w =>
  C.step (sFieldAddr 99 v50_1 0) w fun v51_1 w =>
  C.step (sFieldAddr 97 v51_1 0) w fun v52_1 w =>
  C.step (sStore 22 v52_1 v21_1) w fun vx_1 w =>
  Q (.string ⟨#[]⟩) w)
  (Q v42_1 w)
def enc_Reader_Text_x (C : Comb) (a0 : Value) (a1 : Value) (w : World) (Q : Value → World → Prop) : Prop :=
  C.step (sBin .eql 60 (.tmp 8) (.const (.pointer none)) a0 (.pointer none)) w fun v9_1 w =>
  C.bool v9_1
  (Q (.string ⟨#[]⟩) w)
  (C.step (sNil a0) w fun v12_1 w =>
  C.step (sFieldAddr 99 v12_1 1) w fun v13_1 w =>
  C.step (sLoad 34 v13_1) w fun v14_1 w =>
  C.step (sBin .neq 34 (.tmp 14) (.const (.int .i64 0)) v14_1 (.int .i64 0)) w fun v15_1 w =>
  C.bool v15_1
  (Q (.string ⟨#[]⟩) w)
  (C.step (sNil a0) w fun v18_1 w =>
  C.step (sFieldAddr 99 v18_1 0) w fun v19_1 w =>
  C.step (sFieldAddr 97 v19_1 0) w fun v20_1 w =>
  C.step (sLoad 22 v20_1) w fun v21_1 w =>
  C.calls 65 #[a0, (.int .i64 2)] w fun v23_1 w =>
  C.step (sConv 25 3 v23_1) w fun v24_1 w =>
  C.step (sNil a0) w fun v26_1 w =>
  C.step (sFieldAddr 99 v26_1 1) w fun v27_1 w =>
  C.step (sLoad 34 v27_1) w fun v28_1 w =>
  C.step (sBin .eql 34 (.tmp 28) (.const (.int .i64 0)) v28_1 (.int .i64 0)) w fun v29_1 w =>
  C.bool v29_1
  (C.step (sBuiltin .max #[3, 3] 3 [false, true] [a1, (.int .i64 0)]) w fun v33_1 w =>
  C.step (sBin .gtr 3 (.tmp 31) (.tmp 33) v24_1 v33_1) w fun v34_1 w =>
  C.bool v34_1
  (C.step (sNil a0) w fun v37_1 w =>
  C.step (sFieldAddr 99 v37_1 1) w fun v38_1 w =>
  C.step (sStore 34 v38_1 (.int .i64 3)) w fun vx_2 w =>
  enc_Reader_Text_k1 C a0 v21_1 v24_1 w Q)
  (enc_Reader_Text_k1 C a0 v21_1 v24_1 w Q))
  (enc_Reader_Text_k1 C a0 v21_1 v24_1 w Q)))
theorem enc_Reader_Text_eq (C : Comb) (a0 : Value) (a1 : Value) (w : World) (Q : Value → World → Prop) : enc_Reader_Text_x C a0 a1 w Q = FunY Try.prog C 8 [] Try.f58 [a0, a1] w Q := by kernel_rfl
theorem enc_Reader_Text_sound (a0 : Value) (a1 : Value) {w : World} {Q : Value → World → Prop} (h : enc_Reader_Text_x (std Try.prog) a0 a1 w Q) : CallsR Try.prog 58 #[a0, a1] w Q :=
  calls_of_funY mixed Try.func58 (Eq.mp (enc_Reader_Text_eq _ a0 a1 w Q) h)

def enc_Reader_End_k1 (C : Comb) (v5_1 : Value) (w : World) (Q : Value → World → Prop) : Prop :=
  Q v5_1 w
def enc_Reader_End_x (C : Comb) (a0 : Value) (w : World) (Q : Value → World → Prop) : Prop :=
  C.calls 33 #[a0] w fun v5_1 w =>
  C.step (sBin .eql 34 (.tmp 6) (.const (.int .i64 0)) v5_1 (.int .i64 0)) w fun v7_1 w =>
  C.bool v7_1
  (C.step (sNil a0) w fun v10_1 w =>
  C.step (sFieldAddr 99 v10_1 0) w fun v11_1 w =>
  C.step (sFieldAddr 97 v11_1 0) w fun v12_1 w =>
  C.step (sLoad 22 v12_1) w fun v13_1 w =>
  C.step (sBuiltin .len #[22] 3 [false] [v13_1]) w fun v14_1 w =>
  C.step (sBin .gtr 3 (.tmp 14) (.const (.int .i64 0)) v14_1 (.int .i64 0)) w fun v15_1 w =>
  C.bool v15_1
  (Q (.int .i64 5) w)
  (enc_Reader_End_k1 C v5_1 w Q))
  (enc_Reader_End_k1 C v5_1 w Q)
theorem enc_Reader_End_eq (C : Comb) (a0 : Value) (w : World) (Q : Value → World → Prop) : enc_Reader_End_x C a0 w Q = FunY Try.prog C 4 [] Try.f59 [a0] w Q := by kernel_rfl
theorem enc_Reader_End_sound (a0 : Value) {w : World} {Q : Value → World → Prop} (h : enc_Reader_End_x (std Try.prog) a0 w Q) : CallsR Try.prog 59 #[a0] w Q :=
  calls_of_funY mixed Try.func59 (Eq.mp (enc_Reader_End_eq _ a0 w Q) h)

def flotillaref01_Left_x (C : Comb) (a0 : Value) (w : World) (Q : Value → World → Prop) : Prop :=
  C.step (sBox 63 a0) w fun v1_1 w =>
  C.step (sFieldAddr 63 v1_1 0) w fun v3_1 w =>
  C.step (sLoad 9 v3_1) w fun v4_1 w =>
  C.step (sBuiltin .len #[9] 3 [false] [v4_1]) w fun v5_1 w =>
  C.step (sFieldAddr 63 v1_1 1) w fun v6_1 w =>
  C.step (sLoad 3 v6_1) w fun v7_1 w =>
  C.step (sBin .sub 3 (.tmp 5) (.tmp 7) v5_1 v7_1) w fun v8_1 w =>
  Q v8_1 w
theorem flotillaref01_Left_eq (C : Comb) (a0 : Value) (w : World) (Q : Value → World → Prop) : flotillaref01_Left_x C a0 w Q = FunY Try.prog C 2 [] Try.f60 [a0] w Q := by kernel_rfl
theorem flotillaref01_Left_sound (a0 : Value) {w : World} {Q : Value → World → Prop} (h : flotillaref01_Left_x (std Try.prog) a0 w Q) : CallsR Try.prog 60 #[a0] w Q :=
  calls_of_funY mixed Try.func60 (Eq.mp (flotillaref01_Left_eq _ a0 w Q) h)

def flotillaref01_TakeText_k1 (C : Comb) (v2_1 : Value) (v4_1 : Value) (v12_1 : Value) (v6_1 : Value) (u1_1 : Value) (w : World) (Q : Value → World → Prop) : Prop :=
  C.step (sConv 25 3 v12_1) w fun v20_1 w =>
  C.step (sBin .gtr 3 (.tmp 20) (.tmp 21) v20_1 u1_1) w fun v22_1 w =>
  C.bool v22_1
  (C.step (sFieldAddr 63 v2_1 2) w fun v23_1 w =>
  C.step (sStore 34 v23_1 (.int .i64 3)) w fun vx_3 w =>
  C.step (sLoad 63 v2_1) w fun v24_1 w =>
  C.step (sStore 63 v4_1 v24_1) w fun vx_4 w =>
  C.loadR 63 v4_1 w fun r_2 =>
  Q (.tuple #[r_2, (.string ⟨#[]⟩)]) w)
  (C.step (sLoad 63 v6_1) w fun v25_1 w =>
  C.calls 60 #[v25_1] w fun v26_1 w =>
  C.step (sConv 25 3 v12_1) w fun v28_1 w =>
  C.step (sBin .lss 3 (.tmp 26) (.tmp 28) v26_1 v28_1) w fun v29_1 w =>
  C.bool v29_1
  (C.step (sFieldAddr 63 v2_1 2) w fun v30_1 w =>
  C.step (sStore 34 v30_1 (.int .i64 4)) w fun vx_5 w =>
  C.step (sLoad 63 v2_1) w fun v31_1 w =>
  C.step (sStore 63 v4_1 v31_1) w fun vx_6 w =>
  C.loadR 63 v4_1 w fun r_3 =>
  Q (.tuple #[r_3, (.string ⟨#[]⟩)]) w)
  (C.step (sFieldAddr 63 v6_1 1) w fun v32_1 w =>
  C.step (sLoad 3 v32_1) w fun v33_1 w =>
  C.step (sConv 25 3 v12_1) w fun v35_1 w =>
  C.step (sBin .add 3 (.tmp 33) (.tmp 35) v33_1 v35_1) w fun v36_1 w =>
  C.step (sFieldAddr 63 v6_1 1) w fun v37_1 w =>
  C.step (sStore 3 v37_1 v36_1) w fun vx_7 w =>
  C.draw w fun S_1 w =>
  C.stepS S_1 (sLoad 63 v6_1) fun v38_1 =>
  C.stepS S_1 (sFieldAddr 63 v2_1 0) fun v39_1 =>
  C.stepS S_1 (sLoad 9 v39_1) fun v40_1 =>
  C.stepS S_1 (sFieldAddr 63 v6_1 1) fun v41_1 =>
  C.stepS S_1 (sLoad 3 v41_1) fun v42_1 =>
  C.stepS S_1 (sConv 25 3 v12_1) fun v44_1 =>
  C.stepS S_1 (sBin .sub 3 (.tmp 42) (.tmp 44) v42_1 v44_1) fun v45_1 =>
  C.stepS S_1 (sFieldAddr 63 v6_1 1) fun v46_1 =>
  C.stepS S_1 (sLoad 3 v46_1) fun v47_1 =>
  C.stepS S_1 (sSlice 9 v40_1 (some v45_1) (some v47_1) none) fun v48_1 =>
  C.step (sStore 63 v4_1 v38_1) w fun vx_8 w =>
  C.keepS S_1 w fun S_2 =>
  C.loadR 63 v4_1 w fun r_4 =>
  Q (.tuple #[r_4, v48_1]) w))
def flotillaref01_TakeText_x (C : Comb) (a0 : Value) (a1 : Value) (w : World) (Q : Value → World → Prop) : Prop :=
  C.step (sBox 63 a0) w fun v2_1 w =>
  C.step (sAlloc 63) w fun v4_1 w =>
  C.step (sLoad 63 v2_1) w fun v9_1 w =>
  C.calls 26 #[v9_1, (.int .i64 2)] w fun v10_1 w =>
  C.step (sExtract v10_1 0) w fun v11_1 w =>
  C.step (sExtract v10_1 1) w fun v12_1 w =>
  C.step (sAlloc 63) w fun v6_1 w =>
  C.step (sStore 63 v6_1 v11_1) w fun vx_1 w =>
  C.step (sFieldAddr 63 v6_1 2) w fun v13_1 w =>
  C.step (sLoad 34 v13_1) w fun v14_1 w =>
  C.step (sBin .neq 34 (.tmp 14) (.const (.int .i64 0)) v14_1 (.int .i64 0)) w fun v15_1 w =>
  C.bool v15_1
  (C.step (sLoad 63 v6_1) w fun v16_1 w =>
  C.step (sStore 63 v4_1 v16_1) w fun vx_2 w =>
  C.loadR 63 v4_1 w fun r_1 =>
  Q (.tuple #[r_1, (.string ⟨#[]⟩)]) w)
  (C.step (sBin .lss 3 (.tmp 17) (.const (.int .i64 0)) a1 (.int .i64 0)) w fun v18_1 w =>
  C.bool v18_1
  (flotillaref01_TakeText_k1 C v2_1 v4_1 v12_1 v6_1 (.int .i64 0) w Q)
  (flotillaref01_TakeText_k1 C v2_1 v4_1 v12_1 v6_1 a1 w Q))
theorem flotillaref01_TakeText_eq (C : Comb) (a0 : Value) (a1 : Value) (w : World) (Q : Value → World → Prop) : flotillaref01_TakeText_x C a0 a1 w Q = FunY Try.prog C 8 [] Try.f61 [a0, a1] w Q := by kernel_rfl
theorem flotillaref01_TakeText_sound (a0 : Value) (a1 : Value) {w : World} {Q : Value → World → Prop} (h : flotillaref01_TakeText_x (std Try.prog) a0 a1 w Q) : CallsR Try.prog 61 #[a0, a1] w Q :=
  calls_of_funY mixed Try.func61 (Eq.mp (flotillaref01_TakeText_eq _ a0 a1 w Q) h)

def flotillaref05_Numbered_x (C : Comb) (a0 : Value) (w : World) (Q : Value → World → Prop) : Prop :=
  C.step (sBin .geq 26 (.tmp 3) (.const (.int .u64 16)) a0 (.int .u64 16)) w fun v4_1 w =>
  C.bool v4_1
  (C.step (sBin .leq 26 (.tmp 6) (.const (.int .u64 1152921504606846991)) a0 (.int .u64 1152921504606846991)) w fun v7_1 w =>
  Q v7_1 w)
  (Q (.bool false) w)
theorem flotillaref05_Numbered_eq (C : Comb) (a0 : Value) (w : World) (Q : Value → World → Prop) : flotillaref05_Numbered_x C a0 w Q = FunY Try.prog C 2 [] Try.f62 [a0] w Q := by kernel_rfl
theorem flotillaref05_Numbered_sound (a0 : Value) {w : World} {Q : Value → World → Prop} (h : flotillaref05_Numbered_x (std Try.prog) a0 w Q) : CallsR Try.prog 62 #[a0] w Q :=
  calls_of_funY mixed Try.func62 (Eq.mp (flotillaref05_Numbered_eq _ a0 w Q) h)

def flotillaref05_ActMay_k1 (C : Comb) (w : World) (Q : Value → World → Prop) : Prop :=
  Q (.bool false) w
def flotillaref05_ActMay_k2 (C : Comb) (w : World) (Q : Value → World → Prop) : Prop :=
  Q (.bool true) w
def flotillaref05_ActMay_k3 (C : Comb) (u2_3 : Value) (w : World) (Q : Value → World → Prop) : Prop :=
  Q u2_3 w
def flotillaref05_ActMay_k4 (C : Comb) (w : World) (Q : Value → World → Prop) : Prop :=
  Q (.bool false) w
def flotillaref05_ActMay_x (C : Comb) (a0 : Value) (w : World) (Q : Value → World → Prop) : Prop :=
  C.step (sBox 29 a0) w fun v1_1 w =>
  C.step (sFieldAddr 29 v1_1 1) w fun v3_1 w =>
  C.step (sLoad 9 v3_1) w fun v4_1 w =>
  C.step (sBuiltin .len #[9] 3 [false] [v4_1]) w fun v5_1 w =>
  C.step (sBin .lss 3 (.tmp 5) (.const (.int .i64 1)) v5_1 (.int .i64 1)) w fun v6_1 w =>
  C.bool v6_1
  (flotillaref05_ActMay_k1 C w Q)
  (C.step (sFieldAddr 29 v1_1 1) w fun v8_1 w =>
  C.step (sLoad 9 v8_1) w fun v9_1 w =>
  C.step (sBuiltin .len #[9] 3 [false] [v9_1]) w fun v10_1 w =>
  C.step (sBin .gtr 3 (.tmp 10) (.const (.int .i64 16)) v10_1 (.int .i64 16)) w fun v11_1 w =>
  C.bool v11_1
  (flotillaref05_ActMay_k1 C w Q)
  (C.step (sFieldAddr 29 v1_1 2) w fun v14_1 w =>
  C.step (sLoad 9 v14_1) w fun v15_1 w =>
  C.step (sBuiltin .len #[9] 3 [false] [v15_1]) w fun v16_1 w =>
  C.step (sBin .gtr 3 (.tmp 16) (.const (.int .i64 32)) v16_1 (.int .i64 32)) w fun v17_1 w =>
  C.bool v17_1
  (flotillaref05_ActMay_k1 C w Q)
  (C.step (sFieldAddr 29 v1_1 3) w fun v20_1 w =>
  C.step (sLoad 9 v20_1) w fun v21_1 w =>
  C.step (sBuiltin .len #[9] 3 [false] [v21_1]) w fun v22_1 w =>
  C.step (sBin .gtr 3 (.tmp 22) (.const (.int .i64 32)) v22_1 (.int .i64 32)) w fun v23_1 w =>
  C.bool v23_1
  (Q (.bool false) w)
  (C.step (sFieldAddr 29 v1_1 0) w fun v25_1 w =>
  C.step (sLoad 27 v25_1) w fun v26_1 w =>
  C.step (sBin .eql 27 (.tmp 26) (.const (.int .i64 1)) v26_1 (.int .i64 1)) w fun v27_1 w =>
  C.bool v27_1
  (C.step (sFieldAddr 29 v1_1 2) w fun v29_1 w =>
  C.step (sLoad 9 v29_1) w fun v30_1 w =>
  C.step (sBin .eql 9 (.tmp 30) (.const (.string ⟨#[]⟩)) v30_1 (.string ⟨#[]⟩)) w fun v31_1 w =>
  C.bool v31_1
  (flotillaref05_ActMay_k2 C w Q)
  (C.step (sFieldAddr 29 v1_1 0) w fun v34_1 w =>
  C.step (sLoad 27 v34_1) w fun v35_1 w =>
  C.step (sBin .eql 27 (.tmp 35) (.const (.int .i64 2)) v35_1 (.int .i64 2)) w fun v36_1 w =>
  C.bool v36_1
  (flotillaref05_ActMay_k2 C w Q)
  (C.step (sFieldAddr 29 v1_1 0) w fun v39_1 w =>
  C.step (sLoad 27 v39_1) w fun v40_1 w =>
  C.step (sBin .eql 27 (.tmp 40) (.const (.int .i64 3)) v40_1 (.int .i64 3)) w fun v41_1 w =>
  C.bool v41_1
  (C.step (sFieldAddr 29 v1_1 3) w fun v43_1 w =>
  C.step (sLoad 9 v43_1) w fun v44_1 w =>
  C.step (sBin .eql 9 (.tmp 44) (.const (.string ⟨#[]⟩)) v44_1 (.string ⟨#[]⟩)) w fun v45_1 w =>
  flotillaref05_ActMay_k3 C v45_1 w Q)
  (flotillaref05_ActMay_k4 C w Q))))
  (C.step (sFieldAddr 29 v1_1 0) w fun v34_2 w =>
  C.step (sLoad 27 v34_2) w fun v35_2 w =>
  C.step (sBin .eql 27 (.tmp 35) (.const (.int .i64 2)) v35_2 (.int .i64 2)) w fun v36_2 w =>
  C.bool v36_2
  (flotillaref05_ActMay_k2 C w Q)
  (C.step (sFieldAddr 29 v1_1 0) w fun v39_2 w =>
  C.step (sLoad 27 v39_2) w fun v40_2 w =>
  C.step (sBin .eql 27 (.tmp 40) (.const (.int .i64 3)) v40_2 (.int .i64 3)) w fun v41_2 w =>
  C.bool v41_2
  (C.step (sFieldAddr 29 v1_1 3) w fun v43_2 w =>
  C.step (sLoad 9 v43_2) w fun v44_2 w =>
  C.step (sBin .eql 9 (.tmp 44) (.const (.string ⟨#[]⟩)) v44_2 (.string ⟨#[]⟩)) w fun v45_2 w =>
  flotillaref05_ActMay_k3 C v45_2 w Q)
  (flotillaref05_ActMay_k4 C w Q)))))))
theorem flotillaref05_ActMay_eq (C : Comb) (a0 : Value) (w : World) (Q : Value → World → Prop) : flotillaref05_ActMay_x C a0 w Q = FunY Try.prog C 2 [] Try.f63 [a0] w Q := by kernel_rfl
theorem flotillaref05_ActMay_sound (a0 : Value) {w : World} {Q : Value → World → Prop} (h : flotillaref05_ActMay_x (std Try.prog) a0 w Q) : CallsR Try.prog 63 #[a0] w Q :=
  calls_of_funY mixed Try.func63 (Eq.mp (flotillaref05_ActMay_eq _ a0 w Q) h)

def flotillaref05_Rows_k2 (C : Comb) (w : World) (Q : Value → World → Prop) : Prop :=
  Q (.bool true) w
def flotillaref05_Rows_k3 (C : Comb) (vs_1 : List Value) (again_1 : List Value → World → Prop) (w : World) (Q : Value → World → Prop) : Prop :=
  C.step (sBin .add 3 (.tmp 72) (.const (.int .i64 1)) (vs_1.getD 0 undef) (.int .i64 1)) w fun v73_1 w =>
  again_1 [v73_1] w
def flotillaref05_Rows_k4 (C : Comb) (w : World) (Q : Value → World → Prop) : Prop :=
  Q (.bool false) w
def flotillaref05_Rows_k1 (C : Comb) (v1_1 : Value) (w : World) (Q : Value → World → Prop) : Prop :=
  C.loop [(.int .i64 0)] w fun dv_1 vs_1 w again_1 =>
  C.step (sFieldAddr 33 v1_1 8) w fun v68_1 w =>
  C.step (sLoad 31 v68_1) w fun v69_1 w =>
  C.step (sBuiltin .len #[31] 3 [false] [v69_1]) w fun v70_1 w =>
  C.step (sBin .lss 3 (.tmp 67) (.tmp 70) (vs_1.getD 0 undef) v70_1) w fun v71_1 w =>
  C.bool v71_1
  (C.step (sFieldAddr 33 v1_1 8) w fun v74_1 w =>
  C.step (sLoad 31 v74_1) w fun v75_1 w =>
  C.step (sIndexAddr 31 v75_1 (vs_1.getD 0 undef)) w fun v77_1 w =>
  C.step (sLoad 53 v77_1) w fun v78_1 w =>
  C.step (sAlloc 53) w fun v6_1 w =>
  C.step (sStore 53 v6_1 v78_1) w fun vx_1 w =>
  C.step (sFieldAddr 53 v6_1 0) w fun v79_1 w =>
  C.step (sLoad 3 v79_1) w fun v80_1 w =>
  C.step (sBin .lss 3 (.tmp 80) (.const (.int .i64 0)) v80_1 (.int .i64 0)) w fun v81_1 w =>
  C.bool v81_1
  (flotillaref05_Rows_k4 C w Q)
  (C.step (sFieldAddr 53 v6_1 0) w fun v83_1 w =>
  C.step (sLoad 3 v83_1) w fun v84_1 w =>
  C.step (sBin .gtr 3 (.tmp 84) (.const (.int .i64 15)) v84_1 (.int .i64 15)) w fun v85_1 w =>
  C.bool v85_1
  (flotillaref05_Rows_k4 C w Q)
  (C.step (sFieldAddr 53 v6_1 1) w fun v88_1 w =>
  C.step (sLoad 26 v88_1) w fun v89_1 w =>
  C.calls 62 #[v89_1] w fun v90_1 w =>
  C.step (sUn .not v90_1) w fun v91_1 w =>
  C.bool v91_1
  (Q (.bool false) w)
  (C.draw w fun S_1 w =>
  C.stepS S_1 (sBin .gtr 3 (.tmp 93) (.const (.int .i64 0)) (vs_1.getD 0 undef) (.int .i64 0)) fun v94_1 =>
  C.bool v94_1
  (C.stepS S_1 (sFieldAddr 33 v1_1 8) fun v96_1 =>
  C.stepS S_1 (sLoad 31 v96_1) fun v97_1 =>
  C.stepS S_1 (sBin .sub 3 (.tmp 98) (.const (.int .i64 1)) (vs_1.getD 0 undef) (.int .i64 1)) fun v99_1 =>
  C.stepS S_1 (sIndexAddr 31 v97_1 v99_1) fun v100_1 =>
  C.stepS S_1 (sFieldAddr 53 v100_1 0) fun v101_1 =>
  C.stepS S_1 (sLoad 3 v101_1) fun v102_1 =>
  C.stepS S_1 (sFieldAddr 53 v6_1 0) fun v103_1 =>
  C.stepS S_1 (sLoad 3 v103_1) fun v104_1 =>
  C.stepS S_1 (sBin .geq 3 (.tmp 102) (.tmp 104) v102_1 v104_1) fun v105_1 =>
  C.bool v105_1
  (Q (.bool false) w)
  (flotillaref05_Rows_k3 C vs_1 again_1 w Q))
  (flotillaref05_Rows_k3 C vs_1 again_1 w Q)))))
  (flotillaref05_Rows_k2 C w Q)
def flotillaref05_Rows_k5 (C : Comb) (vs_2 : List Value) (again_2 : List Value → World → Prop) (w : World) (Q : Value → World → Prop) : Prop :=
  C.step (sBin .add 3 (.tmp 22) (.const (.int .i64 1)) (vs_2.getD 0 undef) (.int .i64 1)) w fun v23_1 w =>
  again_2 [v23_1] w
def flotillaref05_Rows_k6 (C : Comb) (w : World) (Q : Value → World → Prop) : Prop :=
  Q (.bool false) w
def flotillaref05_Rows_x (C : Comb) (a0 : Value) (w : World) (Q : Value → World → Prop) : Prop :=
  C.step (sBox 33 a0) w fun v1_1 w =>
  C.step (sFieldAddr 33 v1_1 7) w fun v7_1 w =>
  C.step (sLoad 30 v7_1) w fun v8_1 w =>
  C.step (sBuiltin .len #[30] 3 [false] [v8_1]) w fun v9_1 w =>
  C.step (sBin .gtr 3 (.tmp 9) (.const (.int .i64 64)) v9_1 (.int .i64 64)) w fun v10_1 w =>
  C.bool v10_1
  (Q (.bool false) w)
  (C.step (sFieldAddr 33 v1_1 8) w fun v12_1 w =>
  C.step (sLoad 31 v12_1) w fun v13_1 w =>
  C.step (sBuiltin .len #[31] 3 [false] [v13_1]) w fun v14_1 w =>
  C.step (sBin .gtr 3 (.tmp 14) (.const (.int .i64 16)) v14_1 (.int .i64 16)) w fun v15_1 w =>
  C.bool v15_1
  (Q (.bool false) w)
  (C.loop [(.int .i64 0)] w fun dv_2 vs_2 w again_2 =>
  C.step (sFieldAddr 33 v1_1 7) w fun v18_1 w =>
  C.step (sLoad 30 v18_1) w fun v19_1 w =>
  C.step (sBuiltin .len #[30] 3 [false] [v19_1]) w fun v20_1 w =>
  C.step (sBin .lss 3 (.tmp 17) (.tmp 20) (vs_2.getD 0 undef) v20_1) w fun v21_1 w =>
  C.bool v21_1
  (C.step (sFieldAddr 33 v1_1 7) w fun v24_1 w =>
  C.step (sLoad 30 v24_1) w fun v25_1 w =>
  C.step (sIndexAddr 30 v25_1 (vs_2.getD 0 undef)) w fun v27_1 w =>
  C.step (sLoad 51 v27_1) w fun v28_1 w =>
  C.step (sAlloc 51) w fun v4_1 w =>
  C.step (sStore 51 v4_1 v28_1) w fun vx_2 w =>
  C.step (sFieldAddr 51 v4_1 0) w fun v29_1 w =>
  C.step (sLoad 3 v29_1) w fun v30_1 w =>
  C.step (sBin .lss 3 (.tmp 30) (.const (.int .i64 1)) v30_1 (.int .i64 1)) w fun v31_1 w =>
  C.bool v31_1
  (flotillaref05_Rows_k6 C w Q)
  (C.step (sFieldAddr 51 v4_1 0) w fun v33_1 w =>
  C.step (sLoad 3 v33_1) w fun v34_1 w =>
  C.step (sBin .gtr 3 (.tmp 34) (.const (.int .i64 1073741824)) v34_1 (.int .i64 1073741824)) w fun v35_1 w =>
  C.bool v35_1
  (flotillaref05_Rows_k6 C w Q)
  (C.step (sFieldAddr 51 v4_1 1) w fun v38_1 w =>
  C.step (sLoad 49 v38_1) w fun v39_1 w =>
  C.step (sBin .lss 49 (.tmp 39) (.const (.int .i64 0)) v39_1 (.int .i64 0)) w fun v40_1 w =>
  C.bool v40_1
  (flotillaref05_Rows_k6 C w Q)
  (C.step (sFieldAddr 51 v4_1 1) w fun v43_1 w =>
  C.step (sLoad 49 v43_1) w fun v44_1 w =>
  C.step (sBin .gtr 49 (.tmp 44) (.const (.int .i64 2)) v44_1 (.int .i64 2)) w fun v45_1 w =>
  C.bool v45_1
  (flotillaref05_Rows_k6 C w Q)
  (C.step (sFieldAddr 51 v4_1 2) w fun v48_1 w =>
  C.step (sLoad 26 v48_1) w fun v49_1 w =>
  C.calls 62 #[v49_1] w fun v50_1 w =>
  C.step (sUn .not v50_1) w fun v51_1 w =>
  C.bool v51_1
  (Q (.bool false) w)
  (C.draw w fun S_2 w =>
  C.stepS S_2 (sBin .gtr 3 (.tmp 53) (.const (.int .i64 0)) (vs_2.getD 0 undef) (.int .i64 0)) fun v54_1 =>
  C.bool v54_1
  (C.stepS S_2 (sFieldAddr 33 v1_1 7) fun v56_1 =>
  C.stepS S_2 (sLoad 30 v56_1) fun v57_1 =>
  C.stepS S_2 (sBin .sub 3 (.tmp 58) (.const (.int .i64 1)) (vs_2.getD 0 undef) (.int .i64 1)) fun v59_1 =>
  C.stepS S_2 (sIndexAddr 30 v57_1 v59_1) fun v60_1 =>
  C.stepS S_2 (sFieldAddr 51 v60_1 0) fun v61_1 =>
  C.stepS S_2 (sLoad 3 v61_1) fun v62_1 =>
  C.stepS S_2 (sFieldAddr 51 v4_1 0) fun v63_1 =>
  C.stepS S_2 (sLoad 3 v63_1) fun v64_1 =>
  C.stepS S_2 (sBin .geq 3 (.tmp 62) (.tmp 64) v62_1 v64_1) fun v65_1 =>
  C.bool v65_1
  (Q (.bool false) w)
  (flotillaref05_Rows_k5 C vs_2 again_2 w Q))
  (flotillaref05_Rows_k5 C vs_2 again_2 w Q)))))))
  (flotillaref05_Rows_k1 C v1_1 w Q)))
theorem flotillaref05_Rows_eq (C : Comb) (a0 : Value) (w : World) (Q : Value → World → Prop) : flotillaref05_Rows_x C a0 w Q = FunY Try.prog C 2 [] Try.f64 [a0] w Q := by kernel_rfl
theorem flotillaref05_Rows_sound (a0 : Value) {w : World} {Q : Value → World → Prop} (h : flotillaref05_Rows_x (std Try.prog) a0 w Q) : CallsR Try.prog 64 #[a0] w Q :=
  calls_of_funY mixed Try.func64 (Eq.mp (flotillaref05_Rows_eq _ a0 w Q) h)

def enc_Reader_num_k1 (C : Comb) (u5_1 : Value) (w : World) (Q : Value → World → Prop) : Prop :=
  Q u5_1 w
def enc_Reader_num_x (C : Comb) (a0 : Value) (a1 : Value) (w : World) (Q : Value → World → Prop) : Prop :=
  C.calls 70 #[a0, a1] w fun v10_1 w =>
  C.step (sBuiltin .len #[22] 3 [false] [v10_1]) w fun v11_1 w =>
  C.loop [undef, undef, (.int .u64 0), (.int .i64 0)] w fun dv_1 vs_1 w again_1 =>
  C.step (sBin .lss 3 (.tmp 12) (.tmp 11) (vs_1.getD 3 undef) v11_1) w fun v13_1 w =>
  C.bool v13_1
  (C.step (sIndexAddr 22 v10_1 (vs_1.getD 3 undef)) w fun v15_1 w =>
  C.step (sLoad 5 v15_1) w fun v16_1 w =>
  C.step (sConv 5 25 v16_1) w fun v19_1 w =>
  C.step (sBin .mul 3 (.const (.int .i64 8)) (.tmp 20) (.int .i64 8) (vs_1.getD 3 undef)) w fun v21_1 w =>
  C.step (sBin .shl 25 (.tmp 19) (.tmp 21) v19_1 v21_1) w fun v22_1 w =>
  C.step (sBin .add 25 (.tmp 17) (.tmp 22) (vs_1.getD 2 undef) v22_1) w fun v23_1 w =>
  C.step (sBin .add 3 (.tmp 12) (.const (.int .i64 1)) (vs_1.getD 3 undef) (.int .i64 1)) w fun v24_1 w =>
  again_1 [(vs_1.getD 3 undef), v16_1, v23_1, v24_1] w)
  (enc_Reader_num_k1 C (vs_1.getD 2 undef) w Q)
theorem enc_Reader_num_eq (C : Comb) (a0 : Value) (a1 : Value) (w : World) (Q : Value → World → Prop) : enc_Reader_num_x C a0 a1 w Q = FunY Try.prog C 8 [] Try.f65 [a0, a1] w Q := by kernel_rfl
theorem enc_Reader_num_sound (a0 : Value) (a1 : Value) {w : World} {Q : Value → World → Prop} (h : enc_Reader_num_x (std Try.prog) a0 a1 w Q) : CallsR Try.prog 65 #[a0, a1] w Q :=
  calls_of_funY mixed Try.func65 (Eq.mp (enc_Reader_num_eq _ a0 a1 w Q) h)

def crc_Sum_x (C : Comb) (a0 : Value) (w : World) (Q : Value → World → Prop) : Prop :=
  C.calls 71 #[(.int .u32 0), a0] w fun v4_1 w =>
  Q v4_1 w
theorem crc_Sum_eq (C : Comb) (a0 : Value) (w : World) (Q : Value → World → Prop) : crc_Sum_x C a0 w Q = FunY Try.prog C 2 [] Try.f66 [a0] w Q := by kernel_rfl
theorem crc_Sum_sound (a0 : Value) {w : World} {Q : Value → World → Prop} (h : crc_Sum_x (std Try.prog) a0 w Q) : CallsR Try.prog 66 #[a0] w Q :=
  calls_of_funY mixed Try.func66 (Eq.mp (crc_Sum_eq _ a0 w Q) h)

def flotillaref02_Four_x (C : Comb) (a0 : Value) (w : World) (Q : Value → World → Prop) : Prop :=
  C.step (sBin .rem 89 (.tmp 3) (.const (.int .u32 256)) a0 (.int .u32 256)) w fun v4_1 w =>
  C.step (sConv 89 5 v4_1) w fun v5_1 w =>
  C.step (sBin .quo 89 (.tmp 6) (.const (.int .u32 256)) a0 (.int .u32 256)) w fun v7_1 w =>
  C.step (sBin .rem 89 (.tmp 7) (.const (.int .u32 256)) v7_1 (.int .u32 256)) w fun v8_1 w =>
  C.step (sConv 89 5 v8_1) w fun v9_1 w =>
  C.step (sBin .quo 89 (.tmp 10) (.const (.int .u32 65536)) a0 (.int .u32 65536)) w fun v11_1 w =>
  C.step (sBin .rem 89 (.tmp 11) (.const (.int .u32 256)) v11_1 (.int .u32 256)) w fun v12_1 w =>
  C.step (sConv 89 5 v12_1) w fun v13_1 w =>
  C.step (sBin .quo 89 (.tmp 14) (.const (.int .u32 16777216)) a0 (.int .u32 16777216)) w fun v15_1 w =>
  C.step (sConv 89 5 v15_1) w fun v16_1 w =>
  C.step (sBuildSlice 22 4 [(0, v5_1), (1, v9_1), (2, v13_1), (3, v16_1)]) w fun v17_1 w =>
  C.step (sConv 22 9 v17_1) w fun v18_1 w =>
  Q v18_1 w
theorem flotillaref02_Four_eq (C : Comb) (a0 : Value) (w : World) (Q : Value → World → Prop) : flotillaref02_Four_x C a0 w Q = FunY Try.prog C 2 [] Try.f67 [a0] w Q := by kernel_rfl
theorem flotillaref02_Four_sound (a0 : Value) {w : World} {Q : Value → World → Prop} (h : flotillaref02_Four_x (std Try.prog) a0 w Q) : CallsR Try.prog 67 #[a0] w Q :=
  calls_of_funY mixed Try.func67 (Eq.mp (flotillaref02_Four_eq _ a0 w Q) h)

def flotillaref02_Sum_x (C : Comb) (a0 : Value) (w : World) (Q : Value → World → Prop) : Prop :=
  C.calls 72 #[(.int .u32 0), a0] w fun v4_1 w =>
  Q v4_1 w
theorem flotillaref02_Sum_eq (C : Comb) (a0 : Value) (w : World) (Q : Value → World → Prop) : flotillaref02_Sum_x C a0 w Q = FunY Try.prog C 2 [] Try.f68 [a0] w Q := by kernel_rfl
theorem flotillaref02_Sum_sound (a0 : Value) {w : World} {Q : Value → World → Prop} (h : flotillaref02_Sum_x (std Try.prog) a0 w Q) : CallsR Try.prog 68 #[a0] w Q :=
  calls_of_funY mixed Try.func68 (Eq.mp (flotillaref02_Sum_eq _ a0 w Q) h)

def enc_Writer_num_x (C : Comb) (a0 : Value) (a1 : Value) (a2 : Value) (w : World) (Q : Value → World → Prop) : Prop :=
  C.step (sBin .eql 76 (.tmp 7) (.const (.pointer none)) a0 (.pointer none)) w fun v8_1 w =>
  C.bool v8_1
  (Q (.tuple #[]) w)
  (C.loop [undef, (.int .i64 0)] w fun dv_1 vs_1 w again_1 =>
  C.step (sBin .lss 3 (.tmp 10) (.tmp 9) (vs_1.getD 1 undef) a2) w fun v11_1 w =>
  C.bool v11_1
  (C.draw w fun S_1 w =>
  C.stepS S_1 (sNil a0) fun v15_1 =>
  C.stepS S_1 (sFieldAddr 108 v15_1 0) fun v16_1 =>
  C.stepS S_1 (sFieldAddr 97 v16_1 0) fun v17_1 =>
  C.stepS S_1 (sLoad 22 v17_1) fun v18_1 =>
  C.stepS S_1 (sBin .mul 3 (.const (.int .i64 8)) (.tmp 20) (.int .i64 8) (vs_1.getD 1 undef)) fun v21_1 =>
  C.stepS S_1 (sBin .shr 25 (.tmp 19) (.tmp 21) a1 v21_1) fun v22_1 =>
  C.stepS S_1 (sConv 25 5 v22_1) fun v23_1 =>
  C.step (sBuildSlice 22 1 [(0, v23_1)]) w fun v24_1 w =>
  C.keepS S_1 w fun S_2 =>
  C.step (sBuiltin .append #[22, 22] 22 [false, false] [v18_1, v24_1]) w fun v25_1 w =>
  C.keepS S_2 w fun S_3 =>
  C.stepS S_3 (sNil a0) fun v26_1 =>
  C.stepS S_3 (sFieldAddr 108 v26_1 0) fun v27_1 =>
  C.stepS S_3 (sFieldAddr 97 v27_1 0) fun v28_1 =>
  C.step (sStore 22 v28_1 v25_1) w fun vx_1 w =>
  C.keepT w fun S_4 =>
  C.step (sBin .add 3 (.tmp 10) (.const (.int .i64 1)) (vs_1.getD 1 undef) (.int .i64 1)) w fun v29_1 w =>
  again_1 [(vs_1.getD 1 undef), v29_1] w)
  (Q (.tuple #[]) w))
theorem enc_Writer_num_eq (C : Comb) (a0 : Value) (a1 : Value) (a2 : Value) (w : World) (Q : Value → World → Prop) : enc_Writer_num_x C a0 a1 a2 w Q = FunY Try.prog C 7 [] Try.f69 [a0, a1, a2] w Q := by kernel_rfl
theorem enc_Writer_num_sound (a0 : Value) (a1 : Value) (a2 : Value) {w : World} {Q : Value → World → Prop} (h : enc_Writer_num_x (std Try.prog) a0 a1 a2 w Q) : CallsR Try.prog 69 #[a0, a1, a2] w Q :=
  calls_of_funY mixed Try.func69 (Eq.mp (enc_Writer_num_eq _ a0 a1 a2 w Q) h)

def enc_Reader_take_x (C : Comb) (a0 : Value) (a1 : Value) (w : World) (Q : Value → World → Prop) : Prop :=
  C.step (sBin .eql 60 (.tmp 6) (.const (.pointer none)) a0 (.pointer none)) w fun v7_1 w =>
  C.bool v7_1
  (Q (.slice none 0 0) w)
  (C.step (sNil a0) w fun v10_1 w =>
  C.step (sFieldAddr 99 v10_1 1) w fun v11_1 w =>
  C.step (sLoad 34 v11_1) w fun v12_1 w =>
  C.step (sBin .neq 34 (.tmp 12) (.const (.int .i64 0)) v12_1 (.int .i64 0)) w fun v13_1 w =>
  C.bool v13_1
  (Q (.slice none 0 0) w)
  (C.step (sNil a0) w fun v16_1 w =>
  C.step (sFieldAddr 99 v16_1 0) w fun v17_1 w =>
  C.step (sFieldAddr 97 v17_1 0) w fun v18_1 w =>
  C.step (sLoad 22 v18_1) w fun v19_1 w =>
  C.step (sBuiltin .len #[22] 3 [false] [v19_1]) w fun v20_1 w =>
  C.step (sBin .lss 3 (.tmp 20) (.tmp 21) v20_1 a1) w fun v22_1 w =>
  C.bool v22_1
  (C.step (sNil a0) w fun v24_1 w =>
  C.step (sFieldAddr 99 v24_1 1) w fun v25_1 w =>
  C.step (sStore 34 v25_1 (.int .i64 4)) w fun vx_1 w =>
  Q (.slice none 0 0) w)
  (C.step (sNil a0) w fun v27_1 w =>
  C.step (sFieldAddr 99 v27_1 0) w fun v28_1 w =>
  C.step (sFieldAddr 97 v28_1 0) w fun v29_1 w =>
  C.step (sLoad 22 v29_1) w fun v30_1 w =>
  C.step (sSlice 22 v30_1 none (some a1) none) w fun v32_1 w =>
  C.step (sNil a0) w fun v35_1 w =>
  C.step (sFieldAddr 99 v35_1 0) w fun v36_1 w =>
  C.step (sFieldAddr 97 v36_1 0) w fun v37_1 w =>
  C.step (sLoad 22 v37_1) w fun v38_1 w =>
  C.step (sSlice 22 v38_1 (some a1) none none) w fun v40_1 w =>
  C.step (sNil a0) w fun v41_1 w =>
  C.step (sFieldAddr 99 v41_1 0) w fun v42_1 w =>
  C.step (sFieldAddr 97 v42_1 0) w fun v43_1 w =>
  C.step (sStore 22 v43_1 v40_1) w fun vx_2 w =>
  Q v32_1 w)))
theorem enc_Reader_take_eq (C : Comb) (a0 : Value) (a1 : Value) (w : World) (Q : Value → World → Prop) : enc_Reader_take_x C a0 a1 w Q = FunY Try.prog C 6 [] Try.f70 [a0, a1] w Q := by kernel_rfl
theorem enc_Reader_take_sound (a0 : Value) (a1 : Value) {w : World} {Q : Value → World → Prop} (h : enc_Reader_take_x (std Try.prog) a0 a1 w Q) : CallsR Try.prog 70 #[a0, a1] w Q :=
  calls_of_funY mixed Try.func70 (Eq.mp (enc_Reader_take_eq _ a0 a1 w Q) h)

def crc_More_k1 (C : Comb) (u6_1 : Value) (w : World) (Q : Value → World → Prop) : Prop :=
  C.step (sUn .xor u6_1) w fun v38_1 w =>
  Q v38_1 w
def crc_More_x (C : Comb) (a0 : Value) (a1 : Value) (w : World) (Q : Value → World → Prop) : Prop :=
  C.calls 73 #[] w fun v9_1 w =>
  C.step (sAlloc 114) w fun v5_1 w =>
  C.step (sStore 114 v5_1 v9_1) w fun vx_1 w =>
  C.step (sUn .xor a0) w fun v11_1 w =>
  C.step (sBuiltin .len #[22] 3 [false] [a1]) w fun v13_1 w =>
  C.loop [undef, v11_1, (.int .i64 0)] w fun dv_1 vs_1 w again_1 =>
  C.step (sBin .lss 3 (.tmp 14) (.tmp 13) (vs_1.getD 2 undef) v13_1) w fun v15_1 w =>
  C.bool v15_1
  (C.step (sIndexAddr 22 a1 (vs_1.getD 2 undef)) w fun v16_1 w =>
  C.step (sLoad 5 v16_1) w fun v17_1 w =>
  C.step (sConv 5 89 v17_1) w fun v20_1 w =>
  C.step (sBin .xor 89 (.tmp 18) (.tmp 20) (vs_1.getD 1 undef) v20_1) w fun v21_1 w =>
  C.step (sBin .shr 89 (.tmp 22) (.const (.int .u64 4)) v21_1 (.int .u64 4)) w fun v23_1 w =>
  C.step (sBin .and 89 (.tmp 24) (.const (.int .u32 15)) v21_1 (.int .u32 15)) w fun v25_1 w =>
  C.step (sIndexAddr 114 v5_1 v25_1) w fun v26_1 w =>
  C.step (sLoad 89 v26_1) w fun v27_1 w =>
  C.step (sBin .xor 89 (.tmp 23) (.tmp 27) v23_1 v27_1) w fun v28_1 w =>
  C.step (sBin .shr 89 (.tmp 29) (.const (.int .u64 4)) v28_1 (.int .u64 4)) w fun v30_1 w =>
  C.step (sBin .and 89 (.tmp 31) (.const (.int .u32 15)) v28_1 (.int .u32 15)) w fun v32_1 w =>
  C.step (sIndexAddr 114 v5_1 v32_1) w fun v33_1 w =>
  C.step (sLoad 89 v33_1) w fun v34_1 w =>
  C.step (sBin .xor 89 (.tmp 30) (.tmp 34) v30_1 v34_1) w fun v35_1 w =>
  C.step (sBin .add 3 (.tmp 14) (.const (.int .i64 1)) (vs_1.getD 2 undef) (.int .i64 1)) w fun v36_1 w =>
  again_1 [v17_1, v35_1, v36_1] w)
  (crc_More_k1 C (vs_1.getD 1 undef) w Q)
theorem crc_More_eq (C : Comb) (a0 : Value) (a1 : Value) (w : World) (Q : Value → World → Prop) : crc_More_x C a0 a1 w Q = FunY Try.prog C 9 [] Try.f71 [a0, a1] w Q := by kernel_rfl
theorem crc_More_sound (a0 : Value) (a1 : Value) {w : World} {Q : Value → World → Prop} (h : crc_More_x (std Try.prog) a0 a1 w Q) : CallsR Try.prog 71 #[a0, a1] w Q :=
  calls_of_funY mixed Try.func71 (Eq.mp (crc_More_eq _ a0 a1 w Q) h)

def flotillaref02_More_k1 (C : Comb) (u5_1 : Value) (w : World) (Q : Value → World → Prop) : Prop :=
  C.step (sBin .sub 89 (.const (.int .u32 4294967295)) (.tmp 38) (.int .u32 4294967295) u5_1) w fun v39_1 w =>
  Q v39_1 w
def flotillaref02_More_k2 (C : Comb) (vs_1 : List Value) (again_1 : List Value → World → Prop) (u9_2 : Value) (u7_2 : Value) (u5_2 : Value) (u8_2 : Value) (w : World) (Q : Value → World → Prop) : Prop :=
  C.step (sBin .add 3 (.tmp 16) (.const (.int .i64 1)) (vs_1.getD 4 undef) (.int .i64 1)) w fun v17_1 w =>
  again_1 [u9_2, u7_2, u5_2, u8_2, v17_1] w
def flotillaref02_More_k3 (C : Comb) (vs_2 : List Value) (again_2 : List Value → World → Prop) (u9_3 : Value) (u7_3 : Value) (u5_3 : Value) (w : World) (Q : Value → World → Prop) : Prop :=
  C.step (sBin .add 3 (.tmp 24) (.const (.int .i64 1)) (vs_2.getD 3 undef) (.int .i64 1)) w fun v25_1 w =>
  again_2 [u9_3, u7_3, u5_3, v25_1] w
def flotillaref02_More_x (C : Comb) (a0 : Value) (a1 : Value) (w : World) (Q : Value → World → Prop) : Prop :=
  C.step (sBin .sub 89 (.const (.int .u32 4294967295)) (.tmp 10) (.int .u32 4294967295) a0) w fun v11_1 w =>
  C.loop [undef, undef, v11_1, undef, (.int .i64 0)] w fun dv_1 vs_1 w again_1 =>
  C.step (sBuiltin .len #[9] 3 [false] [a1]) w fun v14_1 w =>
  C.step (sBin .lss 3 (.tmp 12) (.tmp 14) (vs_1.getD 4 undef) v14_1) w fun v15_1 w =>
  C.bool v15_1
  (C.step (sIndex 9 a1 (vs_1.getD 4 undef)) w fun v20_1 w =>
  C.step (sConv 5 89 v20_1) w fun v21_1 w =>
  C.loop [(vs_1.getD 0 undef), v21_1, (vs_1.getD 2 undef), (.int .i64 0)] w fun dv_2 vs_2 w again_2 =>
  C.step (sBin .lss 3 (.tmp 22) (.const (.int .i64 8)) (vs_2.getD 3 undef) (.int .i64 8)) w fun v23_1 w =>
  C.bool v23_1
  (C.step (sBin .rem 89 (.tmp 26) (.const (.int .u32 2)) (vs_2.getD 2 undef) (.int .u32 2)) w fun v27_1 w =>
  C.step (sBin .rem 89 (.tmp 28) (.const (.int .u32 2)) (vs_2.getD 1 undef) (.int .u32 2)) w fun v29_1 w =>
  C.step (sBin .neq 89 (.tmp 27) (.tmp 29) v27_1 v29_1) w fun v30_1 w =>
  C.step (sBin .quo 89 (.tmp 31) (.const (.int .u32 2)) (vs_2.getD 2 undef) (.int .u32 2)) w fun v32_1 w =>
  C.step (sBin .quo 89 (.tmp 33) (.const (.int .u32 2)) (vs_2.getD 1 undef) (.int .u32 2)) w fun v34_1 w =>
  C.bool v30_1
  (C.step (sBin .xor 89 (.tmp 36) (.const (.int .u32 2197175160)) v32_1 (.int .u32 2197175160)) w fun v37_1 w =>
  flotillaref02_More_k3 C vs_2 again_2 v30_1 v34_1 v37_1 w Q)
  (flotillaref02_More_k3 C vs_2 again_2 v30_1 v34_1 v32_1 w Q))
  (flotillaref02_More_k2 C vs_1 again_1 (vs_2.getD 0 undef) (vs_2.getD 1 undef) (vs_2.getD 2 undef) (vs_2.getD 3 undef) w Q))
  (flotillaref02_More_k1 C (vs_1.getD 2 undef) w Q)
theorem flotillaref02_More_eq (C : Comb) (a0 : Value) (a1 : Value) (w : World) (Q : Value → World → Prop) : flotillaref02_More_x C a0 a1 w Q = FunY Try.prog C 10 [] Try.f72 [a0, a1] w Q := by kernel_rfl
theorem flotillaref02_More_sound (a0 : Value) (a1 : Value) {w : World} {Q : Value → World → Prop} (h : flotillaref02_More_x (std Try.prog) a0 a1 w Q) : CallsR Try.prog 72 #[a0, a1] w Q :=
  calls_of_funY mixed Try.func72 (Eq.mp (flotillaref02_More_eq _ a0 a1 w Q) h)

def crc_steps_k1 (C : Comb) (v0_1 : Value) (v1_1 : Value) (w : World) (Q : Value → World → Prop) : Prop :=
  C.step (sLoad 114 v1_1) w fun v24_1 w =>
  C.step (sStore 114 v0_1 v24_1) w fun vx_1 w =>
  C.loadR 114 v0_1 w fun r_1 =>
  Q r_1 w
def crc_steps_k2 (C : Comb) (v1_1 : Value) (vs_1 : List Value) (again_1 : List Value → World → Prop) (u3_2 : Value) (w : World) (Q : Value → World → Prop) : Prop :=
  C.step (sIndexAddr 114 v1_1 (vs_1.getD 2 undef)) w fun v22_1 w =>
  C.step (sStore 89 v22_1 u3_2) w fun vx_2 w =>
  C.step (sBin .add 3 (.tmp 4) (.const (.int .i64 1)) (vs_1.getD 2 undef) (.int .i64 1)) w fun v23_1 w =>
  again_1 [(vs_1.getD 2 undef), u3_2, v23_1] w
def crc_steps_k3 (C : Comb) (vs_2 : List Value) (again_2 : List Value → World → Prop) (u3_3 : Value) (w : World) (Q : Value → World → Prop) : Prop :=
  C.step (sBin .add 3 (.tmp 9) (.const (.int .i64 1)) (vs_2.getD 1 undef) (.int .i64 1)) w fun v19_1 w =>
  again_2 [u3_3, v19_1] w
def crc_steps_x (C : Comb) (w : World) (Q : Value → World → Prop) : Prop :=
  C.step (sAlloc 114) w fun v0_1 w =>
  C.step (sAlloc 114) w fun v1_1 w =>
  C.loop [undef, undef, (.int .i64 0)] w fun dv_1 vs_1 w again_1 =>
  C.step (sBin .lss 3 (.tmp 4) (.const (.int .i64 16)) (vs_1.getD 2 undef) (.int .i64 16)) w fun v5_1 w =>
  C.bool v5_1
  (C.step (sConv 3 89 (vs_1.getD 2 undef)) w fun v8_1 w =>
  C.loop [v8_1, (.int .i64 0)] w fun dv_2 vs_2 w again_2 =>
  C.step (sBin .lss 3 (.tmp 9) (.const (.int .i64 4)) (vs_2.getD 1 undef) (.int .i64 4)) w fun v10_1 w =>
  C.bool v10_1
  (C.step (sBin .and 89 (.tmp 11) (.const (.int .u32 1)) (vs_2.getD 0 undef) (.int .u32 1)) w fun v12_1 w =>
  C.step (sBin .eql 89 (.tmp 12) (.const (.int .u32 1)) v12_1 (.int .u32 1)) w fun v13_1 w =>
  C.bool v13_1
  (C.step (sBin .shr 89 (.tmp 14) (.const (.int .u64 1)) (vs_2.getD 0 undef) (.int .u64 1)) w fun v15_1 w =>
  C.step (sBin .xor 89 (.tmp 15) (.const (.int .u32 2197175160)) v15_1 (.int .u32 2197175160)) w fun v16_1 w =>
  crc_steps_k3 C vs_2 again_2 v16_1 w Q)
  (C.step (sBin .shr 89 (.tmp 17) (.const (.int .u64 1)) (vs_2.getD 0 undef) (.int .u64 1)) w fun v18_1 w =>
  crc_steps_k3 C vs_2 again_2 v18_1 w Q))
  (crc_steps_k2 C v1_1 vs_1 again_1 (vs_2.getD 0 undef) w Q))
  (crc_steps_k1 C v0_1 v1_1 w Q)
theorem crc_steps_eq (C : Comb) (w : World) (Q : Value → World → Prop) : crc_steps_x C w Q = FunY Try.prog C 4 [] Try.f73 [] w Q := by kernel_rfl
theorem crc_steps_sound {w : World} {Q : Value → World → Prop} (h : crc_steps_x (std Try.prog) w Q) : CallsR Try.prog 73 #[] w Q :=
  calls_of_funY mixed Try.func73 (Eq.mp (crc_steps_eq _ w Q) h)

end Go.Proofs.Ytconmaojfkmlnaa
