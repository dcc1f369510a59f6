/- Functions of the program, read as statements without slots. Written by a program of this work. -/
import Derived.Test.YtakifgecgmdjcaaXf
import Derived.Test.YtakifgecgmdjcaaProg
import Derived.KernelRfl
namespace Go.Proofs.Ytakifgecgmdjcaa
open Go Xf
set_option maxRecDepth 100000
set_option linter.unusedVariables false

theorem mixed : Try.prog.follows .mixedOrders = true := by kernel_rfl

def flotillalaw13_LockStays_k1 (C : Comb) (w : World) (Q : Value → World → Prop) : Prop :=
  C.calls 13 #[] w fun v136_1 w =>
  Q v136_1 w
def flotillalaw13_LockStays_k2 (C : Comb) (vs_1 : List Value) (again_1 : List Value → World → Prop) (u8_2 : Value) (w : World) (Q : Value → World → Prop) : Prop :=
  C.step (sBin .add 3 (.tmp 29) (.const (.int .i64 1)) (vs_1.getD 1 undef) (.int .i64 1)) w fun v30_1 w =>
  again_1 [u8_2, v30_1] w
def flotillalaw13_LockStays_k5 (C : Comb) (vs_1 : List Value) (again_1 : List Value → World → Prop) (v93_1 : Value) (w : World) (Q : Value → World → Prop) : Prop :=
  flotillalaw13_LockStays_k2 C vs_1 again_1 v93_1 w Q
def flotillalaw13_LockStays_k6 (C : Comb) (vs_2 : List Value) (again_2 : List Value → World → Prop) (u12_6 : Value) (w : World) (Q : Value → World → Prop) : Prop :=
  C.step (sUn .not u12_6) w fun v134_1 w =>
  C.bool v134_1
  (Q (.bool false) w)
  (C.step (sBin .add 3 (.tmp 98) (.const (.int .i64 1)) (vs_2.getD 0 undef) (.int .i64 1)) w fun v99_1 w =>
  again_2 [v99_1] w)
def flotillalaw13_LockStays_k4 (C : Comb) (a2 : Value) (v15_1 : Value) (vs_1 : List Value) (again_1 : List Value → World → Prop) (w : World) (Q : Value → World → Prop) : Prop :=
  C.calls 7 #[v15_1, a2] w fun v93_1 w =>
  C.loop [(.int .i64 0)] w fun dv_2 vs_2 w again_2 =>
  C.step (sBuiltin .len #[25] 3 [false] [(vs_1.getD 0 undef)]) w fun v96_1 w =>
  C.step (sBin .lss 3 (.tmp 94) (.tmp 96) (vs_2.getD 0 undef) v96_1) w fun v97_1 w =>
  C.bool v97_1
  (C.loop [(.bool false), (.int .i64 0)] w fun dv_3 vs_3 w again_3 =>
  C.step (sBuiltin .len #[25] 3 [false] [v93_1]) w fun v102_1 w =>
  C.step (sBin .lss 3 (.tmp 100) (.tmp 102) (vs_3.getD 1 undef) v102_1) w fun v103_1 w =>
  C.bool v103_1
  (C.draw w fun S_1 w =>
  C.bool (vs_3.getD 0 undef)
  (C.step (sBin .add 3 (.tmp 104) (.const (.int .i64 1)) (vs_3.getD 1 undef) (.int .i64 1)) w fun v105_1 w =>
  again_3 [(.bool true), v105_1] w)
  (C.stepS S_1 (sIndexAddr 25 v93_1 (vs_3.getD 1 undef)) fun v110_1 =>
  C.stepS S_1 (sFieldAddr 38 v110_1 0) fun v111_1 =>
  C.stepS S_1 (sLoad 9 v111_1) fun v112_1 =>
  C.stepS S_1 (sIndexAddr 25 (vs_1.getD 0 undef) (vs_2.getD 0 undef)) fun v115_1 =>
  C.stepS S_1 (sFieldAddr 38 v115_1 0) fun v116_1 =>
  C.stepS S_1 (sLoad 9 v116_1) fun v117_1 =>
  C.stepS S_1 (sBin .eql 9 (.tmp 112) (.tmp 117) v112_1 v117_1) fun v118_1 =>
  C.bool v118_1
  (C.stepS S_1 (sIndexAddr 25 v93_1 (vs_3.getD 1 undef)) fun v122_1 =>
  C.stepS S_1 (sFieldAddr 38 v122_1 1) fun v123_1 =>
  C.stepS S_1 (sLoad 28 v123_1) fun v124_1 =>
  C.stepS S_1 (sIndexAddr 25 (vs_1.getD 0 undef) (vs_2.getD 0 undef)) fun v127_1 =>
  C.stepS S_1 (sFieldAddr 38 v127_1 1) fun v128_1 =>
  C.stepS S_1 (sLoad 28 v128_1) fun v129_1 =>
  C.calls 12 #[v124_1, v129_1] w fun v130_1 w =>
  C.keepT w fun S_2 =>
  C.step (sBin .add 3 (.tmp 104) (.const (.int .i64 1)) (vs_3.getD 1 undef) (.int .i64 1)) w fun v105_2 w =>
  again_3 [v130_1, v105_2] w)
  (C.step (sBin .add 3 (.tmp 104) (.const (.int .i64 1)) (vs_3.getD 1 undef) (.int .i64 1)) w fun v105_3 w =>
  again_3 [(.bool false), v105_3] w)))
  (flotillalaw13_LockStays_k6 C vs_2 again_2 (vs_3.getD 0 undef) w Q))
  (flotillalaw13_LockStays_k5 C vs_1 again_1 v93_1 w Q)
def flotillalaw13_LockStays_k3 (C : Comb) (a1 : Value) (a2 : Value) (v15_1 : Value) (vs_1 : List Value) (again_1 : List Value → World → Prop) (w : World) (Q : Value → World → Prop) : Prop :=
  C.step (sIndexAddr 22 a1 (vs_1.getD 1 undef)) w fun v56_1 w =>
  C.step (sFieldAddr 32 v56_1 0) w fun v57_1 w =>
  C.step (sLoad 3 v57_1) w fun v58_1 w =>
  C.step (sBin .eql 3 (.tmp 58) (.const (.int .i64 0)) v58_1 (.int .i64 0)) w fun v60_1 w =>
  C.bool v60_1
  (C.draw w fun S_3 w =>
  C.stepS S_3 (sIndexAddr 22 a1 (vs_1.getD 1 undef)) fun v64_1 =>
  C.stepS S_3 (sFieldAddr 32 v64_1 1) fun v65_1 =>
  C.stepS S_3 (sLoad 3 v65_1) fun v66_1 =>
  C.stepS S_3 (sIndexAddr 22 a1 (vs_1.getD 1 undef)) fun v69_1 =>
  C.stepS S_3 (sFieldAddr 32 v69_1 2) fun v70_1 =>
  C.stepS S_3 (sLoad 30 v70_1) fun v71_1 =>
  C.calls 9 #[v15_1, v66_1, v71_1] w fun v72_1 w =>
  C.keepT w fun S_4 =>
  flotillalaw13_LockStays_k4 C a2 v15_1 vs_1 again_1 w Q)
  (C.step (sBin .eql 3 (.tmp 58) (.const (.int .i64 1)) v58_1 (.int .i64 1)) w fun v74_1 w =>
  C.bool v74_1
  (C.step (sIndexAddr 22 a1 (vs_1.getD 1 undef)) w fun v78_1 w =>
  C.step (sFieldAddr 32 v78_1 1) w fun v79_1 w =>
  C.step (sLoad 3 v79_1) w fun v80_1 w =>
  C.calls 10 #[v15_1, v80_1] w fun v81_1 w =>
  flotillalaw13_LockStays_k4 C a2 v15_1 vs_1 again_1 w Q)
  (C.step (sBin .eql 3 (.tmp 58) (.const (.int .i64 2)) v58_1 (.int .i64 2)) w fun v83_1 w =>
  C.bool v83_1
  (C.step (sIndexAddr 22 a1 (vs_1.getD 1 undef)) w fun v87_1 w =>
  C.step (sFieldAddr 32 v87_1 1) w fun v88_1 w =>
  C.step (sLoad 3 v88_1) w fun v89_1 w =>
  C.calls 11 #[v15_1, v89_1] w fun v90_1 w =>
  flotillalaw13_LockStays_k4 C a2 v15_1 vs_1 again_1 w Q)
  (flotillalaw13_LockStays_k4 C a2 v15_1 vs_1 again_1 w Q)))
def flotillalaw13_LockStays_x (C : Comb) (a0 : Value) (a1 : Value) (a2 : Value) (w : World) (Q : Value → World → Prop) : Prop :=
  C.calls 6 #[a0] w fun v15_1 w =>
  C.step (sBin .eql 23 (.tmp 16) (.const (.pointer none)) v15_1 (.pointer none)) w fun v17_1 w =>
  C.bool v17_1
  (Q (.bool false) w)
  (C.calls 7 #[v15_1, a2] w fun v20_1 w =>
  C.loop [v20_1, (.int .i64 0)] w fun dv_1 vs_1 w again_1 =>
  C.step (sBuiltin .len #[22] 3 [false] [a1]) w fun v23_1 w =>
  C.step (sBin .lss 3 (.tmp 21) (.tmp 23) (vs_1.getD 1 undef) v23_1) w fun v24_1 w =>
  C.bool v24_1
  (C.step (sBin .lss 3 (.tmp 26) (.const (.int .i64 40)) (vs_1.getD 1 undef) (.int .i64 40)) w fun v27_1 w =>
  C.bool v27_1
  (C.step (sIndexAddr 22 a1 (vs_1.getD 1 undef)) w fun v33_1 w =>
  C.step (sLoad 32 v33_1) w fun v34_1 w =>
  C.calls 8 #[v34_1] w fun v35_1 w =>
  C.step (sUn .not v35_1) w fun v36_1 w =>
  C.bool v36_1
  (flotillalaw13_LockStays_k2 C vs_1 again_1 (vs_1.getD 0 undef) w Q)
  (C.step (sIndexAddr 22 a1 (vs_1.getD 1 undef)) w fun v40_1 w =>
  C.step (sFieldAddr 32 v40_1 0) w fun v41_1 w =>
  C.step (sLoad 3 v41_1) w fun v42_1 w =>
  C.step (sBin .eql 3 (.tmp 42) (.const (.int .i64 1)) v42_1 (.int .i64 1)) w fun v43_1 w =>
  C.bool v43_1
  (C.step (sIndexAddr 22 a1 (vs_1.getD 1 undef)) w fun v47_1 w =>
  C.step (sFieldAddr 32 v47_1 1) w fun v48_1 w =>
  C.step (sLoad 3 v48_1) w fun v49_1 w =>
  C.step (sBin .eql 3 (.tmp 49) (.tmp 50) v49_1 a2) w fun v51_1 w =>
  C.bool v51_1
  (flotillalaw13_LockStays_k2 C vs_1 again_1 (vs_1.getD 0 undef) w Q)
  (flotillalaw13_LockStays_k3 C a1 a2 v15_1 vs_1 again_1 w Q))
  (flotillalaw13_LockStays_k3 C a1 a2 v15_1 vs_1 again_1 w Q)))
  (flotillalaw13_LockStays_k1 C w Q))
  (flotillalaw13_LockStays_k1 C w Q))
theorem flotillalaw13_LockStays_eq (C : Comb) (a0 : Value) (a1 : Value) (a2 : Value) (w : World) (Q : Value → World → Prop) : flotillalaw13_LockStays_x C a0 a1 a2 w Q = FunY Try.prog C 2 [] Try.f3 [a0, a1, a2] w Q := by kernel_rfl
theorem flotillalaw13_LockStays_sound (a0 : Value) (a1 : Value) (a2 : Value) {w : World} {Q : Value → World → Prop} (h : flotillalaw13_LockStays_x (std Try.prog) a0 a1 a2 w Q) : CallsR Try.prog 3 #[a0, a1, a2] w Q :=
  calls_of_funY mixed Try.func3 (Eq.mp (flotillalaw13_LockStays_eq _ a0 a1 a2 w Q) h)

def flotillalaw13_LockBeside_k1 (C : Comb) (w : World) (Q : Value → World → Prop) : Prop :=
  C.calls 13 #[] w fun v105_1 w =>
  Q v105_1 w
def flotillalaw13_LockBeside_k2 (C : Comb) (vs_1 : List Value) (again_1 : List Value → World → Prop) (w : World) (Q : Value → World → Prop) : Prop :=
  C.step (sBin .add 3 (.tmp 21) (.const (.int .i64 1)) (vs_1.getD 0 undef) (.int .i64 1)) w fun v22_1 w =>
  again_1 [v22_1] w
def flotillalaw13_LockBeside_k3 (C : Comb) (v12_1 : Value) (v16_1 : Value) (vs_1 : List Value) (again_1 : List Value → World → Prop) (v28_1 : Value) (w : World) (Q : Value → World → Prop) : Prop :=
  C.loop [(.int .i64 0)] w fun dv_2 vs_2 w again_2 =>
  C.step (sBin .lss 3 (.tmp 91) (.tmp 92) (vs_2.getD 0 undef) (vs_1.getD 0 undef)) w fun v93_1 w =>
  C.bool v93_1
  (C.step (sIndexAddr 42 v16_1 (vs_2.getD 0 undef)) w fun v100_1 w =>
  C.step (sLoad 3 v100_1) w fun v101_1 w =>
  C.calls 7 #[v12_1, v101_1] w fun v102_1 w =>
  C.calls 16 #[v28_1, v102_1] w fun v103_1 w =>
  C.step (sUn .not v103_1) w fun v104_1 w =>
  C.bool v104_1
  (Q (.bool false) w)
  (C.step (sBin .add 3 (.tmp 94) (.const (.int .i64 1)) (vs_2.getD 0 undef) (.int .i64 1)) w fun v95_1 w =>
  again_2 [v95_1] w))
  (flotillalaw13_LockBeside_k2 C vs_1 again_1 w Q)
def flotillalaw13_LockBeside_k4 (C : Comb) (vs_3 : List Value) (again_3 : List Value → World → Prop) (w : World) (Q : Value → World → Prop) : Prop :=
  C.step (sBin .add 3 (.tmp 42) (.const (.int .i64 1)) (vs_3.getD 0 undef) (.int .i64 1)) w fun v43_1 w =>
  again_3 [v43_1] w
def flotillalaw13_LockBeside_k5 (C : Comb) (w : World) (Q : Value → World → Prop) : Prop :=
  Q (.bool false) w
def flotillalaw13_LockBeside_k6 (C : Comb) (vs_3 : List Value) (again_3 : List Value → World → Prop) (u90_6 : Value) (w : World) (Q : Value → World → Prop) : Prop :=
  C.bool u90_6
  (Q (.bool false) w)
  (flotillalaw13_LockBeside_k4 C vs_3 again_3 w Q)
def flotillalaw13_LockBeside_k7 (C : Comb) (vs_3 : List Value) (again_3 : List Value → World → Prop) (w : World) (Q : Value → World → Prop) : Prop :=
  flotillalaw13_LockBeside_k4 C vs_3 again_3 w Q
def flotillalaw13_LockBeside_x (C : Comb) (a0 : Value) (w : World) (Q : Value → World → Prop) : Prop :=
  C.calls 6 #[a0] w fun v12_1 w =>
  C.step (sBin .eql 23 (.tmp 13) (.const (.pointer none)) v12_1 (.pointer none)) w fun v14_1 w =>
  C.bool v14_1
  (Q (.bool false) w)
  (C.calls 14 #[v12_1] w fun v16_1 w =>
  C.loop [(.int .i64 0)] w fun dv_1 vs_1 w again_1 =>
  C.step (sBuiltin .len #[42] 3 [false] [v16_1]) w fun v19_1 w =>
  C.step (sBin .lss 3 (.tmp 17) (.tmp 19) (vs_1.getD 0 undef) v19_1) w fun v20_1 w =>
  C.bool v20_1
  (C.step (sIndexAddr 42 v16_1 (vs_1.getD 0 undef)) w fun v26_1 w =>
  C.step (sLoad 3 v26_1) w fun v27_1 w =>
  C.calls 7 #[v12_1, v27_1] w fun v28_1 w =>
  C.step (sIndexAddr 42 v16_1 (vs_1.getD 0 undef)) w fun v33_1 w =>
  C.step (sLoad 3 v33_1) w fun v34_1 w =>
  C.calls 15 #[v12_1, v34_1] w fun v35_1 w =>
  C.step (sExtract v35_1 0) w fun v36_1 w =>
  C.step (sExtract v35_1 1) w fun v37_1 w =>
  C.step (sAlloc 30) w fun v7_1 w =>
  C.step (sStore 30 v7_1 v36_1) w fun vx_1 w =>
  C.loop [(.int .i64 0)] w fun dv_3 vs_3 w again_3 =>
  C.step (sBuiltin .len #[25] 3 [false] [v28_1]) w fun v40_1 w =>
  C.step (sBin .lss 3 (.tmp 38) (.tmp 40) (vs_3.getD 0 undef) v40_1) w fun v41_1 w =>
  C.bool v41_1
  (C.draw w fun S_1 w =>
  C.stepS S_1 (sBin .gtr 3 (.tmp 44) (.const (.int .i64 0)) (vs_3.getD 0 undef) (.int .i64 0)) fun v45_1 =>
  C.bool v45_1
  (C.stepS S_1 (sBin .sub 3 (.tmp 48) (.const (.int .i64 1)) (vs_3.getD 0 undef) (.int .i64 1)) fun v49_1 =>
  C.stepS S_1 (sIndexAddr 25 v28_1 v49_1) fun v50_1 =>
  C.stepS S_1 (sFieldAddr 38 v50_1 0) fun v51_1 =>
  C.stepS S_1 (sLoad 9 v51_1) fun v52_1 =>
  C.stepS S_1 (sIndexAddr 25 v28_1 (vs_3.getD 0 undef)) fun v55_1 =>
  C.stepS S_1 (sFieldAddr 38 v55_1 0) fun v56_1 =>
  C.stepS S_1 (sLoad 9 v56_1) fun v57_1 =>
  C.stepS S_1 (sBin .geq 9 (.tmp 52) (.tmp 57) v52_1 v57_1) fun v58_1 =>
  C.bool v58_1
  (flotillalaw13_LockBeside_k5 C w Q)
  (C.stepS S_1 (sIndexAddr 25 v28_1 (vs_3.getD 0 undef)) fun v63_1 =>
  C.stepS S_1 (sFieldAddr 38 v63_1 1) fun v64_1 =>
  C.stepS S_1 (sLoad 28 v64_1) fun v65_1 =>
  C.stepS S_1 (sBin .eql 28 (.tmp 65) (.const (.int .i64 0)) v65_1 (.int .i64 0)) fun v66_1 =>
  C.bool v66_1
  (flotillalaw13_LockBeside_k5 C w Q)
  (C.bool v37_1
  (C.stepS S_1 (sFieldAddr 30 v7_1 0) fun v71_1 =>
  C.stepS S_1 (sLoad 9 v71_1) fun v72_1 =>
  C.stepS S_1 (sIndexAddr 25 v28_1 (vs_3.getD 0 undef)) fun v75_1 =>
  C.stepS S_1 (sFieldAddr 38 v75_1 0) fun v76_1 =>
  C.stepS S_1 (sLoad 9 v76_1) fun v77_1 =>
  C.stepS S_1 (sBin .eql 9 (.tmp 72) (.tmp 77) v72_1 v77_1) fun v78_1 =>
  C.bool v78_1
  (C.stepS S_1 (sIndexAddr 25 v28_1 (vs_3.getD 0 undef)) fun v83_1 =>
  C.stepS S_1 (sFieldAddr 38 v83_1 1) fun v84_1 =>
  C.stepS S_1 (sLoad 28 v84_1) fun v85_1 =>
  C.stepS S_1 (sFieldAddr 30 v7_1 1) fun v86_1 =>
  C.stepS S_1 (sLoad 28 v86_1) fun v87_1 =>
  C.calls 12 #[v85_1, v87_1] w fun v88_1 w =>
  C.keepT w fun S_2 =>
  flotillalaw13_LockBeside_k6 C vs_3 again_3 v88_1 w Q)
  (flotillalaw13_LockBeside_k7 C vs_3 again_3 w Q))
  (flotillalaw13_LockBeside_k7 C vs_3 again_3 w Q))))
  (C.stepS S_1 (sIndexAddr 25 v28_1 (vs_3.getD 0 undef)) fun v63_2 =>
  C.stepS S_1 (sFieldAddr 38 v63_2 1) fun v64_2 =>
  C.stepS S_1 (sLoad 28 v64_2) fun v65_2 =>
  C.stepS S_1 (sBin .eql 28 (.tmp 65) (.const (.int .i64 0)) v65_2 (.int .i64 0)) fun v66_2 =>
  C.bool v66_2
  (flotillalaw13_LockBeside_k5 C w Q)
  (C.bool v37_1
  (C.stepS S_1 (sFieldAddr 30 v7_1 0) fun v71_2 =>
  C.stepS S_1 (sLoad 9 v71_2) fun v72_2 =>
  C.stepS S_1 (sIndexAddr 25 v28_1 (vs_3.getD 0 undef)) fun v75_2 =>
  C.stepS S_1 (sFieldAddr 38 v75_2 0) fun v76_2 =>
  C.stepS S_1 (sLoad 9 v76_2) fun v77_2 =>
  C.stepS S_1 (sBin .eql 9 (.tmp 72) (.tmp 77) v72_2 v77_2) fun v78_2 =>
  C.bool v78_2
  (C.stepS S_1 (sIndexAddr 25 v28_1 (vs_3.getD 0 undef)) fun v83_2 =>
  C.stepS S_1 (sFieldAddr 38 v83_2 1) fun v84_2 =>
  C.stepS S_1 (sLoad 28 v84_2) fun v85_2 =>
  C.stepS S_1 (sFieldAddr 30 v7_1 1) fun v86_2 =>
  C.stepS S_1 (sLoad 28 v86_2) fun v87_2 =>
  C.calls 12 #[v85_2, v87_2] w fun v88_2 w =>
  C.keepT w fun S_3 =>
  flotillalaw13_LockBeside_k6 C vs_3 again_3 v88_2 w Q)
  (flotillalaw13_LockBeside_k7 C vs_3 again_3 w Q))
  (flotillalaw13_LockBeside_k7 C vs_3 again_3 w Q))))
  (flotillalaw13_LockBeside_k3 C v12_1 v16_1 vs_1 again_1 v28_1 w Q))
  (flotillalaw13_LockBeside_k1 C w Q))
theorem flotillalaw13_LockBeside_eq (C : Comb) (a0 : Value) (w : World) (Q : Value → World → Prop) : flotillalaw13_LockBeside_x C a0 w Q = FunY Try.prog C 2 [] Try.f4 [a0] w Q := by kernel_rfl
theorem flotillalaw13_LockBeside_sound (a0 : Value) {w : World} {Q : Value → World → Prop} (h : flotillalaw13_LockBeside_x (std Try.prog) a0 w Q) : CallsR Try.prog 4 #[a0] w Q :=
  calls_of_funY mixed Try.func4 (Eq.mp (flotillalaw13_LockBeside_eq _ a0 w Q) h)

def flotillalaw13_LockTurns_k3 (C : Comb) (u4_3 : Value) (w : World) (Q : Value → World → Prop) : Prop :=
  Q u4_3 w
def flotillalaw13_LockTurns_k2 (C : Comb) (v77_1 : Value) (v78_1 : Value) (w : World) (Q : Value → World → Prop) : Prop :=
  C.step (sBin .eql 33 (.tmp 89) (.const (.int .i64 0)) v78_1 (.int .i64 0)) w fun v90_1 w =>
  C.bool v90_1
  (C.calls 13 #[] w fun v96_1 w =>
  flotillalaw13_LockTurns_k3 C v96_1 w Q)
  (C.step (sUn .not v77_1) w fun v93_1 w =>
  C.bool v93_1
  (C.calls 13 #[] w fun v96_2 w =>
  flotillalaw13_LockTurns_k3 C v96_2 w Q)
  (Q (.bool false) w))
def flotillalaw13_LockTurns_k4 (C : Comb) (u4_4 : Value) (w : World) (Q : Value → World → Prop) : Prop :=
  Q u4_4 w
def flotillalaw13_LockTurns_k5 (C : Comb) (w : World) (Q : Value → World → Prop) : Prop :=
  C.calls 13 #[] w fun v117_1 w =>
  Q v117_1 w
def flotillalaw13_LockTurns_k1 (C : Comb) (v3_1 : Value) (v17_1 : Value) (u7_1 : Value) (w : World) (Q : Value → World → Prop) : Prop :=
  C.step (sFieldAddr 32 v3_1 1) w fun v64_1 w =>
  C.step (sLoad 3 v64_1) w fun v65_1 w =>
  C.step (sFieldAddr 32 v3_1 2) w fun v66_1 w =>
  C.step (sFieldAddr 30 v66_1 0) w fun v67_1 w =>
  C.step (sLoad 9 v67_1) w fun v68_1 w =>
  C.calls 17 #[v17_1, v65_1, v68_1] w fun v69_1 w =>
  C.step (sFieldAddr 32 v3_1 1) w fun v72_1 w =>
  C.step (sLoad 3 v72_1) w fun v73_1 w =>
  C.step (sFieldAddr 32 v3_1 2) w fun v74_1 w =>
  C.step (sLoad 30 v74_1) w fun v75_1 w =>
  C.calls 9 #[v17_1, v73_1, v75_1] w fun v76_1 w =>
  C.step (sExtract v76_1 0) w fun v77_1 w =>
  C.step (sExtract v76_1 1) w fun v78_1 w =>
  C.step (sBin .neq 33 (.tmp 79) (.const (.int .i64 0)) v78_1 (.int .i64 0)) w fun v80_1 w =>
  C.bool v80_1
  (flotillalaw13_LockTurns_k2 C v77_1 v78_1 w Q)
  (C.bool v69_1
  (flotillalaw13_LockTurns_k2 C v77_1 v78_1 w Q)
  (C.step (sBuiltin .len #[42] 3 [false] [u7_1]) w fun v86_1 w =>
  C.step (sBin .eql 3 (.tmp 86) (.const (.int .i64 0)) v86_1 (.int .i64 0)) w fun v87_1 w =>
  C.bool v87_1
  (C.step (sBin .eql 33 (.tmp 89) (.const (.int .i64 0)) v78_1 (.int .i64 0)) w fun v90_2 w =>
  C.bool v90_2
  (C.calls 13 #[] w fun v96_3 w =>
  flotillalaw13_LockTurns_k4 C v96_3 w Q)
  (C.step (sUn .not v77_1) w fun v93_2 w =>
  C.bool v93_2
  (C.calls 13 #[] w fun v96_4 w =>
  flotillalaw13_LockTurns_k4 C v96_4 w Q)
  (Q (.bool false) w)))
  (C.bool v77_1
  (Q (.bool false) w)
  (C.calls 18 #[v17_1] w fun v100_1 w =>
  C.loop [(.int .i64 0)] w fun dv_1 vs_1 w again_1 =>
  C.step (sBuiltin .len #[42] 3 [false] [u7_1]) w fun v103_1 w =>
  C.step (sBin .lss 3 (.tmp 101) (.tmp 103) (vs_1.getD 0 undef) v103_1) w fun v104_1 w =>
  C.bool v104_1
  (C.draw w fun S_1 w =>
  C.stepS S_1 (sFieldAddr 32 v3_1 1) fun v108_1 =>
  C.stepS S_1 (sLoad 3 v108_1) fun v109_1 =>
  C.stepS S_1 (sIndexAddr 42 u7_1 (vs_1.getD 0 undef)) fun v112_1 =>
  C.stepS S_1 (sLoad 3 v112_1) fun v113_1 =>
  C.step (sBuild 53 [(0, v109_1), (1, v113_1)]) w fun v114_1 w =>
  C.keepS S_1 w fun S_2 =>
  C.calls 19 #[v100_1, v114_1] w fun v115_1 w =>
  C.keepT w fun S_3 =>
  C.stepS S_3 (sBin .lss 3 (.tmp 115) (.const (.int .i64 0)) v115_1 (.int .i64 0)) fun v116_1 =>
  C.bool v116_1
  (Q (.bool false) w)
  (C.step (sBin .add 3 (.tmp 105) (.const (.int .i64 1)) (vs_1.getD 0 undef) (.int .i64 1)) w fun v106_1 w =>
  again_1 [v106_1] w))
  (flotillalaw13_LockTurns_k5 C w Q)))))
def flotillalaw13_LockTurns_k6 (C : Comb) (vs_2 : List Value) (again_2 : List Value → World → Prop) (u7_6 : Value) (w : World) (Q : Value → World → Prop) : Prop :=
  C.step (sBin .add 3 (.tmp 36) (.const (.int .i64 1)) (vs_2.getD 1 undef) (.int .i64 1)) w fun v37_1 w =>
  again_2 [u7_6, v37_1] w
def flotillalaw13_LockTurns_x (C : Comb) (a0 : Value) (a1 : Value) (w : World) (Q : Value → World → Prop) : Prop :=
  C.step (sBox 32 a1) w fun v3_1 w =>
  C.calls 6 #[a0] w fun v17_1 w =>
  C.step (sBin .eql 23 (.tmp 18) (.const (.pointer none)) v17_1 (.pointer none)) w fun v19_1 w =>
  C.bool v19_1
  (C.step (sBin .neq 23 (.tmp 25) (.const (.pointer none)) v17_1 (.pointer none)) w fun v26_1 w =>
  C.bool v26_1
  (C.calls 13 #[] w fun v28_1 w =>
  Q v28_1 w)
  (Q (.bool false) w))
  (C.step (sLoad 32 v3_1) w fun v21_1 w =>
  C.calls 8 #[v21_1] w fun v22_1 w =>
  C.step (sUn .not v22_1) w fun v23_1 w =>
  C.bool v23_1
  (C.step (sBin .neq 23 (.tmp 25) (.const (.pointer none)) v17_1 (.pointer none)) w fun v26_2 w =>
  C.bool v26_2
  (C.calls 13 #[] w fun v28_2 w =>
  Q v28_2 w)
  (Q (.bool false) w))
  (C.calls 14 #[v17_1] w fun v31_1 w =>
  C.loop [(.slice none 0 0), (.int .i64 0)] w fun dv_2 vs_2 w again_2 =>
  C.step (sBuiltin .len #[42] 3 [false] [v31_1]) w fun v34_1 w =>
  C.step (sBin .lss 3 (.tmp 32) (.tmp 34) (vs_2.getD 1 undef) v34_1) w fun v35_1 w =>
  C.bool v35_1
  (C.step (sIndexAddr 42 v31_1 (vs_2.getD 1 undef)) w fun v42_1 w =>
  C.step (sLoad 3 v42_1) w fun v43_1 w =>
  C.calls 15 #[v17_1, v43_1] w fun v44_1 w =>
  C.step (sExtract v44_1 0) w fun v45_1 w =>
  C.step (sExtract v44_1 1) w fun v46_1 w =>
  C.step (sAlloc 30) w fun v9_1 w =>
  C.step (sStore 30 v9_1 v45_1) w fun vx_1 w =>
  C.bool v46_1
  (C.step (sFieldAddr 30 v9_1 0) w fun v49_1 w =>
  C.step (sLoad 9 v49_1) w fun v50_1 w =>
  C.step (sFieldAddr 32 v3_1 2) w fun v51_1 w =>
  C.step (sFieldAddr 30 v51_1 0) w fun v52_1 w =>
  C.step (sLoad 9 v52_1) w fun v53_1 w =>
  C.step (sBin .eql 9 (.tmp 50) (.tmp 53) v50_1 v53_1) w fun v54_1 w =>
  C.bool v54_1
  (C.step (sIndexAddr 42 v31_1 (vs_2.getD 1 undef)) w fun v59_1 w =>
  C.step (sLoad 3 v59_1) w fun v60_1 w =>
  C.step (sBuildSlice 42 1 [(0, v60_1)]) w fun v61_1 w =>
  C.step (sBuiltin .append #[42, 42] 42 [false, false] [(vs_2.getD 0 undef), v61_1]) w fun v62_1 w =>
  flotillalaw13_LockTurns_k6 C vs_2 again_2 v62_1 w Q)
  (flotillalaw13_LockTurns_k6 C vs_2 again_2 (vs_2.getD 0 undef) w Q))
  (flotillalaw13_LockTurns_k6 C vs_2 again_2 (vs_2.getD 0 undef) w Q))
  (flotillalaw13_LockTurns_k1 C v3_1 v17_1 (vs_2.getD 0 undef) w Q)))
theorem flotillalaw13_LockTurns_eq (C : Comb) (a0 : Value) (a1 : Value) (w : World) (Q : Value → World → Prop) : flotillalaw13_LockTurns_x C a0 a1 w Q = FunY Try.prog C 2 [] Try.f5 [a0, a1] w Q := by kernel_rfl
theorem flotillalaw13_LockTurns_sound (a0 : Value) (a1 : Value) {w : World} {Q : Value → World → Prop} (h : flotillalaw13_LockTurns_x (std Try.prog) a0 a1 w Q) : CallsR Try.prog 5 #[a0, a1] w Q :=
  calls_of_funY mixed Try.func5 (Eq.mp (flotillalaw13_LockTurns_eq _ a0 a1 w Q) h)

def flotillalaw13_led_k1 (C : Comb) (v5_1 : Value) (w : World) (Q : Value → World → Prop) : Prop :=
  Q v5_1 w
def flotillalaw13_led_k2 (C : Comb) (v5_1 : Value) (w : World) (Q : Value → World → Prop) : Prop :=
  flotillalaw13_led_k1 C v5_1 w Q
def flotillalaw13_led_k3 (C : Comb) (vs_1 : List Value) (again_1 : List Value → World → Prop) (w : World) (Q : Value → World → Prop) : Prop :=
  C.step (sBin .add 3 (.tmp 18) (.const (.int .i64 1)) (vs_1.getD 0 undef) (.int .i64 1)) w fun v19_1 w =>
  again_1 [v19_1] w
def flotillalaw13_led_x (C : Comb) (a0 : Value) (w : World) (Q : Value → World → Prop) : Prop :=
  C.calls 20 #[] w fun v5_1 w =>
  C.loop [(.int .i64 0)] w fun dv_1 vs_1 w again_1 =>
  C.step (sBuiltin .len #[22] 3 [false] [a0]) w fun v8_1 w =>
  C.step (sBin .lss 3 (.tmp 6) (.tmp 8) (vs_1.getD 0 undef) v8_1) w fun v9_1 w =>
  C.bool v9_1
  (C.step (sBin .lss 3 (.tmp 11) (.const (.int .i64 60)) (vs_1.getD 0 undef) (.int .i64 60)) w fun v12_1 w =>
  C.bool v12_1
  (C.step (sBin .neq 23 (.tmp 15) (.const (.pointer none)) v5_1 (.pointer none)) w fun v16_1 w =>
  C.bool v16_1
  (C.step (sIndexAddr 22 a0 (vs_1.getD 0 undef)) w fun v22_1 w =>
  C.step (sLoad 32 v22_1) w fun v23_1 w =>
  C.calls 8 #[v23_1] w fun v24_1 w =>
  C.step (sUn .not v24_1) w fun v25_1 w =>
  C.bool v25_1
  (flotillalaw13_led_k3 C vs_1 again_1 w Q)
  (C.step (sIndexAddr 22 a0 (vs_1.getD 0 undef)) w fun v28_1 w =>
  C.step (sFieldAddr 32 v28_1 0) w fun v29_1 w =>
  C.step (sLoad 3 v29_1) w fun v30_1 w =>
  C.step (sBin .eql 3 (.tmp 30) (.const (.int .i64 0)) v30_1 (.int .i64 0)) w fun v32_1 w =>
  C.bool v32_1
  (C.draw w fun S_1 w =>
  C.stepS S_1 (sIndexAddr 22 a0 (vs_1.getD 0 undef)) fun v36_1 =>
  C.stepS S_1 (sFieldAddr 32 v36_1 1) fun v37_1 =>
  C.stepS S_1 (sLoad 3 v37_1) fun v38_1 =>
  C.stepS S_1 (sIndexAddr 22 a0 (vs_1.getD 0 undef)) fun v41_1 =>
  C.stepS S_1 (sFieldAddr 32 v41_1 2) fun v42_1 =>
  C.stepS S_1 (sLoad 30 v42_1) fun v43_1 =>
  C.calls 9 #[v5_1, v38_1, v43_1] w fun v44_1 w =>
  C.keepT w fun S_2 =>
  flotillalaw13_led_k3 C vs_1 again_1 w Q)
  (C.step (sBin .eql 3 (.tmp 30) (.const (.int .i64 1)) v30_1 (.int .i64 1)) w fun v46_1 w =>
  C.bool v46_1
  (C.step (sIndexAddr 22 a0 (vs_1.getD 0 undef)) w fun v50_1 w =>
  C.step (sFieldAddr 32 v50_1 1) w fun v51_1 w =>
  C.step (sLoad 3 v51_1) w fun v52_1 w =>
  C.calls 10 #[v5_1, v52_1] w fun v53_1 w =>
  flotillalaw13_led_k3 C vs_1 again_1 w Q)
  (C.step (sBin .eql 3 (.tmp 30) (.const (.int .i64 2)) v30_1 (.int .i64 2)) w fun v55_1 w =>
  C.bool v55_1
  (C.step (sIndexAddr 22 a0 (vs_1.getD 0 undef)) w fun v59_1 w =>
  C.step (sFieldAddr 32 v59_1 1) w fun v60_1 w =>
  C.step (sLoad 3 v60_1) w fun v61_1 w =>
  C.calls 11 #[v5_1, v61_1] w fun v62_1 w =>
  flotillalaw13_led_k3 C vs_1 again_1 w Q)
  (flotillalaw13_led_k3 C vs_1 again_1 w Q)))))
  (flotillalaw13_led_k1 C v5_1 w Q))
  (flotillalaw13_led_k2 C v5_1 w Q))
  (flotillalaw13_led_k2 C v5_1 w Q)
theorem flotillalaw13_led_eq (C : Comb) (a0 : Value) (w : World) (Q : Value → World → Prop) : flotillalaw13_led_x C a0 w Q = FunY Try.prog C 5 [] Try.f6 [a0] w Q := by kernel_rfl
theorem flotillalaw13_led_sound (a0 : Value) {w : World} {Q : Value → World → Prop} (h : flotillalaw13_led_x (std Try.prog) a0 w Q) : CallsR Try.prog 6 #[a0] w Q :=
  calls_of_funY mixed Try.func6 (Eq.mp (flotillalaw13_led_eq _ a0 w Q) h)

def lock_Table_Held_k1 (C : Comb) (u5_1 : Value) (w : World) (Q : Value → World → Prop) : Prop :=
  Q u5_1 w
def lock_Table_Held_k2 (C : Comb) (vs_1 : List Value) (again_1 : List Value → World → Prop) (u7_2 : Value) (u8_2 : Value) (u9_2 : Value) (u5_2 : Value) (w : World) (Q : Value → World → Prop) : Prop :=
  C.step (sBin .add 3 (.tmp 20) (.const (.int .i64 1)) (vs_1.getD 4 undef) (.int .i64 1)) w fun v45_1 w =>
  again_1 [u7_2, u8_2, u9_2, u5_2, v45_1] w
def lock_Table_Held_x (C : Comb) (a0 : Value) (a1 : Value) (w : World) (Q : Value → World → Prop) : Prop :=
  C.step (sBin .eql 23 (.tmp 10) (.const (.pointer none)) a0 (.pointer none)) w fun v11_1 w =>
  C.bool v11_1
  (Q (.slice none 0 0) w)
  (C.step (sNil a0) w fun v14_1 w =>
  C.step (sFieldAddr 65 v14_1 0) w fun v15_1 w =>
  C.step (sLoad 61 v15_1) w fun v16_1 w =>
  C.calls 22 #[v16_1] w fun v17_1 w =>
  C.calls 21 #[v17_1] w fun v18_1 w =>
  C.step (sBuiltin .len #[56] 3 [false] [v18_1]) w fun v19_1 w =>
  C.loop [undef, undef, undef, (.slice none 0 0), (.int .i64 0)] w fun dv_1 vs_1 w again_1 =>
  C.step (sBin .lss 3 (.tmp 20) (.tmp 19) (vs_1.getD 4 undef) v19_1) w fun v21_1 w =>
  C.bool v21_1
  (C.step (sIndexAddr 56 v18_1 (vs_1.getD 4 undef)) w fun v22_1 w =>
  C.step (sLoad 9 v22_1) w fun v23_1 w =>
  C.step (sNil a0) w fun v26_1 w =>
  C.step (sFieldAddr 65 v26_1 0) w fun v27_1 w =>
  C.step (sLoad 61 v27_1) w fun v28_1 w =>
  C.step (sLookup 61 v28_1 v23_1 false) w fun v30_1 w =>
  C.step (sNil v30_1) w fun v31_1 w =>
  C.step (sFieldAddr 69 v31_1 0) w fun v32_1 w =>
  C.step (sLoad 67 v32_1) w fun v33_1 w =>
  C.step (sLookup 67 v33_1 a1 true) w fun v35_1 w =>
  C.step (sExtract v35_1 0) w fun v36_1 w =>
  C.step (sExtract v35_1 1) w fun v37_1 w =>
  C.bool v37_1
  (C.step (sBuild 38 [(0, v23_1), (1, v36_1)]) w fun v42_1 w =>
  C.step (sBuildSlice 25 1 [(0, v42_1)]) w fun v43_1 w =>
  C.step (sBuiltin .append #[25, 25] 25 [false, false] [(vs_1.getD 3 undef), v43_1]) w fun v44_1 w =>
  lock_Table_Held_k2 C vs_1 again_1 v23_1 v36_1 v37_1 v44_1 w Q)
  (lock_Table_Held_k2 C vs_1 again_1 v23_1 v36_1 v37_1 (vs_1.getD 3 undef) w Q))
  (lock_Table_Held_k1 C (vs_1.getD 3 undef) w Q))
theorem lock_Table_Held_eq (C : Comb) (a0 : Value) (a1 : Value) (w : World) (Q : Value → World → Prop) : lock_Table_Held_x C a0 a1 w Q = FunY Try.prog C 10 [] Try.f7 [a0, a1] w Q := by kernel_rfl
theorem lock_Table_Held_sound (a0 : Value) (a1 : Value) {w : World} {Q : Value → World → Prop} (h : lock_Table_Held_x (std Try.prog) a0 a1 w Q) : CallsR Try.prog 7 #[a0, a1] w Q :=
  calls_of_funY mixed Try.func7 (Eq.mp (lock_Table_Held_eq _ a0 a1 w Q) h)

def flotillalaw13_short_x (C : Comb) (a0 : Value) (w : World) (Q : Value → World → Prop) : Prop :=
  C.step (sBox 32 a0) w fun v1_1 w =>
  C.step (sFieldAddr 32 v1_1 2) w fun v3_1 w =>
  C.step (sFieldAddr 30 v3_1 0) w fun v4_1 w =>
  C.step (sLoad 9 v4_1) w fun v5_1 w =>
  C.step (sBuiltin .len #[9] 3 [false] [v5_1]) w fun v6_1 w =>
  C.step (sBin .leq 3 (.tmp 6) (.const (.int .i64 1000)) v6_1 (.int .i64 1000)) w fun v7_1 w =>
  Q v7_1 w
theorem flotillalaw13_short_eq (C : Comb) (a0 : Value) (w : World) (Q : Value → World → Prop) : flotillalaw13_short_x C a0 w Q = FunY Try.prog C 2 [] Try.f8 [a0] w Q := by kernel_rfl
theorem flotillalaw13_short_sound (a0 : Value) {w : World} {Q : Value → World → Prop} (h : flotillalaw13_short_x (std Try.prog) a0 w Q) : CallsR Try.prog 8 #[a0] w Q :=
  calls_of_funY mixed Try.func8 (Eq.mp (flotillalaw13_short_eq _ a0 w Q) h)

def lock_Table_Ask_k1 (C : Comb) (w : World) (Q : Value → World → Prop) : Prop :=
  Q (.tuple #[(.bool false), (.int .i64 1)]) w
def lock_Table_Ask_k5 (C : Comb) (a0 : Value) (a1 : Value) (v5_1 : Value) (w : World) (Q : Value → World → Prop) : Prop :=
  C.draw w fun S_3 w =>
  C.stepS S_3 (sNil a0) fun v142_1 =>
  C.stepS S_3 (sFieldAddr 65 v142_1 1) fun v143_1 =>
  C.stepS S_3 (sLoad 63 v143_1) fun v144_1 =>
  C.stepS S_3 (sLoad 30 v5_1) fun v146_1 =>
  C.step (sMapUpdate 63 v144_1 a1 v146_1) w fun vx_2 w =>
  C.keepT w fun S_4 =>
  Q (.tuple #[(.bool false), (.int .i64 0)]) w
def lock_Table_Ask_k4 (C : Comb) (a0 : Value) (a1 : Value) (v5_1 : Value) (u10_2 : Value) (v80_1 : Value) (w : World) (Q : Value → World → Prop) : Prop :=
  C.bool v80_1
  (C.step (sNil u10_2) w fun v123_1 w =>
  C.step (sFieldAddr 69 v123_1 1) w fun v124_1 w =>
  C.step (sLoad 42 v124_1) w fun v125_1 w =>
  C.step (sBuildSlice 42 1 [(0, a1)]) w fun v127_1 w =>
  C.step (sBuiltin .append #[42, 42] 42 [false, false] [v125_1, v127_1]) w fun v128_1 w =>
  C.step (sNil u10_2) w fun v129_1 w =>
  C.step (sFieldAddr 69 v129_1 1) w fun v130_1 w =>
  C.step (sStore 42 v130_1 v128_1) w fun vx_3 w =>
  lock_Table_Ask_k5 C a0 a1 v5_1 w Q)
  (C.step (sNil u10_2) w fun v133_1 w =>
  C.step (sFieldAddr 69 v133_1 2) w fun v134_1 w =>
  C.step (sLoad 42 v134_1) w fun v135_1 w =>
  C.step (sBuildSlice 42 1 [(0, a1)]) w fun v137_1 w =>
  C.step (sBuiltin .append #[42, 42] 42 [false, false] [v135_1, v137_1]) w fun v138_1 w =>
  C.step (sNil u10_2) w fun v139_1 w =>
  C.step (sFieldAddr 69 v139_1 2) w fun v140_1 w =>
  C.step (sStore 42 v140_1 v138_1) w fun vx_4 w =>
  lock_Table_Ask_k5 C a0 a1 v5_1 w Q)
def lock_Table_Ask_k3 (C : Comb) (a0 : Value) (a1 : Value) (v5_1 : Value) (u10_2 : Value) (v80_1 : Value) (w : World) (Q : Value → World → Prop) : Prop :=
  C.step (sFieldAddr 30 v5_1 1) w fun v90_1 w =>
  C.step (sLoad 28 v90_1) w fun v91_1 w =>
  C.calls 25 #[u10_2, a1, v91_1] w fun v92_1 w =>
  C.draw w fun S_5 w =>
  C.calls 26 #[u10_2, a1, v92_1] w fun v96_1 w =>
  C.keepT w fun S_6 =>
  C.bool v96_1
  (C.bool v80_1
  (C.step (sNil u10_2) w fun v115_1 w =>
  C.step (sFieldAddr 69 v115_1 0) w fun v116_1 w =>
  C.step (sLoad 67 v116_1) w fun v117_1 w =>
  C.step (sMapUpdate 67 v117_1 a1 v92_1) w fun vx_5 w =>
  Q (.tuple #[(.bool true), (.int .i64 0)]) w)
  (C.stepS S_6 (sNil u10_2) fun v101_1 =>
  C.stepS S_6 (sFieldAddr 69 v101_1 1) fun v102_1 =>
  C.stepS S_6 (sLoad 42 v102_1) fun v103_1 =>
  C.stepS S_6 (sBuiltin .len #[42] 3 [false] [v103_1]) fun v104_1 =>
  C.stepS S_6 (sNil u10_2) fun v106_1 =>
  C.stepS S_6 (sFieldAddr 69 v106_1 2) fun v107_1 =>
  C.stepS S_6 (sLoad 42 v107_1) fun v108_1 =>
  C.stepS S_6 (sBuiltin .len #[42] 3 [false] [v108_1]) fun v109_1 =>
  C.stepS S_6 (sBin .add 3 (.tmp 104) (.tmp 109) v104_1 v109_1) fun v110_1 =>
  C.stepS S_6 (sBin .eql 3 (.tmp 110) (.const (.int .i64 0)) v110_1 (.int .i64 0)) fun v111_1 =>
  C.bool v111_1
  (C.step (sNil u10_2) w fun v115_2 w =>
  C.step (sFieldAddr 69 v115_2 0) w fun v116_2 w =>
  C.step (sLoad 67 v116_2) w fun v117_2 w =>
  C.step (sMapUpdate 67 v117_2 a1 v92_1) w fun vx_6 w =>
  Q (.tuple #[(.bool true), (.int .i64 0)]) w)
  (lock_Table_Ask_k4 C a0 a1 v5_1 u10_2 v80_1 w Q)))
  (lock_Table_Ask_k4 C a0 a1 v5_1 u10_2 v80_1 w Q)
def lock_Table_Ask_k2 (C : Comb) (a0 : Value) (a1 : Value) (v5_1 : Value) (u10_2 : Value) (w : World) (Q : Value → World → Prop) : Prop :=
  C.step (sNil u10_2) w fun v74_1 w =>
  C.step (sFieldAddr 69 v74_1 0) w fun v75_1 w =>
  C.step (sLoad 67 v75_1) w fun v76_1 w =>
  C.step (sLookup 67 v76_1 a1 true) w fun v78_1 w =>
  C.step (sExtract v78_1 0) w fun v79_1 w =>
  C.step (sExtract v78_1 1) w fun v80_1 w =>
  C.bool v80_1
  (C.step (sFieldAddr 30 v5_1 1) w fun v84_1 w =>
  C.step (sLoad 28 v84_1) w fun v85_1 w =>
  C.calls 24 #[v79_1, v85_1] w fun v86_1 w =>
  C.bool v86_1
  (Q (.tuple #[(.bool true), (.int .i64 0)]) w)
  (lock_Table_Ask_k3 C a0 a1 v5_1 u10_2 v80_1 w Q))
  (lock_Table_Ask_k3 C a0 a1 v5_1 u10_2 v80_1 w Q)
def lock_Table_Ask_x (C : Comb) (a0 : Value) (a1 : Value) (a2 : Value) (w : World) (Q : Value → World → Prop) : Prop :=
  C.step (sBox 30 a2) w fun v5_1 w =>
  C.step (sBin .eql 23 (.tmp 14) (.const (.pointer none)) a0 (.pointer none)) w fun v15_1 w =>
  C.bool v15_1
  (lock_Table_Ask_k1 C w Q)
  (C.step (sBin .lss 3 (.tmp 17) (.const (.int .i64 1)) a1 (.int .i64 1)) w fun v18_1 w =>
  C.bool v18_1
  (lock_Table_Ask_k1 C w Q)
  (C.step (sFieldAddr 30 v5_1 0) w fun v21_1 w =>
  C.step (sLoad 9 v21_1) w fun v22_1 w =>
  C.step (sBuiltin .len #[9] 3 [false] [v22_1]) w fun v23_1 w =>
  C.step (sBin .lss 3 (.tmp 23) (.const (.int .i64 1)) v23_1 (.int .i64 1)) w fun v24_1 w =>
  C.bool v24_1
  (lock_Table_Ask_k1 C w Q)
  (C.step (sFieldAddr 30 v5_1 0) w fun v27_1 w =>
  C.step (sLoad 9 v27_1) w fun v28_1 w =>
  C.step (sBuiltin .len #[9] 3 [false] [v28_1]) w fun v29_1 w =>
  C.step (sBin .gtr 3 (.tmp 29) (.const (.int .i64 16)) v29_1 (.int .i64 16)) w fun v30_1 w =>
  C.bool v30_1
  (lock_Table_Ask_k1 C w Q)
  (C.step (sFieldAddr 30 v5_1 1) w fun v33_1 w =>
  C.step (sLoad 28 v33_1) w fun v34_1 w =>
  C.calls 23 #[v34_1] w fun v35_1 w =>
  C.step (sUn .not v35_1) w fun v36_1 w =>
  C.bool v36_1
  (lock_Table_Ask_k1 C w Q)
  (C.step (sFieldAddr 30 v5_1 1) w fun v39_1 w =>
  C.step (sLoad 28 v39_1) w fun v40_1 w =>
  C.step (sBin .eql 28 (.tmp 40) (.const (.int .i64 0)) v40_1 (.int .i64 0)) w fun v41_1 w =>
  C.bool v41_1
  (Q (.tuple #[(.bool false), (.int .i64 1)]) w)
  (C.step (sNil a0) w fun v45_1 w =>
  C.step (sFieldAddr 65 v45_1 1) w fun v46_1 w =>
  C.step (sLoad 63 v46_1) w fun v47_1 w =>
  C.step (sLookup 63 v47_1 a1 true) w fun v49_1 w =>
  C.step (sExtract v49_1 0) w fun v50_1 w =>
  C.step (sExtract v49_1 1) w fun v51_1 w =>
  C.step (sAlloc 30) w fun v8_1 w =>
  C.step (sStore 30 v8_1 v50_1) w fun vx_1 w =>
  C.bool v51_1
  (Q (.tuple #[(.bool false), (.int .i64 10)]) w)
  (C.draw w fun S_1 w =>
  C.stepS S_1 (sNil a0) fun v54_1 =>
  C.stepS S_1 (sFieldAddr 65 v54_1 0) fun v55_1 =>
  C.stepS S_1 (sLoad 61 v55_1) fun v56_1 =>
  C.stepS S_1 (sFieldAddr 30 v5_1 0) fun v57_1 =>
  C.stepS S_1 (sLoad 9 v57_1) fun v58_1 =>
  C.step (sLookup 61 v56_1 v58_1 false) w fun v59_1 w =>
  C.keepT w fun S_2 =>
  C.step (sBin .eql 62 (.tmp 60) (.const (.pointer none)) v59_1 (.pointer none)) w fun v61_1 w =>
  C.bool v61_1
  (C.step (sMakeMap 67 none) w fun v62_1 w =>
  C.step (sBuild 69 [(0, v62_1)]) w fun v63_1 w =>
  C.step (sBox 69 v63_1) w fun v64_1 w =>
  C.draw w fun S_7 w =>
  C.stepS S_7 (sNil a0) fun v66_1 =>
  C.stepS S_7 (sFieldAddr 65 v66_1 0) fun v67_1 =>
  C.stepS S_7 (sLoad 61 v67_1) fun v68_1 =>
  C.stepS S_7 (sFieldAddr 30 v5_1 0) fun v69_1 =>
  C.stepS S_7 (sLoad 9 v69_1) fun v70_1 =>
  C.step (sMapUpdate 61 v68_1 v70_1 v64_1) w fun vx_7 w =>
  C.keepT w fun S_8 =>
  lock_Table_Ask_k2 C a0 a1 v5_1 v64_1 w Q)
  (lock_Table_Ask_k2 C a0 a1 v5_1 v59_1 w Q))))))))
theorem lock_Table_Ask_eq (C : Comb) (a0 : Value) (a1 : Value) (a2 : Value) (w : World) (Q : Value → World → Prop) : lock_Table_Ask_x C a0 a1 a2 w Q = FunY Try.prog C 2 [] Try.f9 [a0, a1, a2] w Q := by kernel_rfl
theorem lock_Table_Ask_sound (a0 : Value) (a1 : Value) (a2 : Value) {w : World} {Q : Value → World → Prop} (h : lock_Table_Ask_x (std Try.prog) a0 a1 a2 w Q) : CallsR Try.prog 9 #[a0, a1, a2] w Q :=
  calls_of_funY mixed Try.func9 (Eq.mp (lock_Table_Ask_eq _ a0 a1 a2 w Q) h)

def lock_Table_Free_x (C : Comb) (a0 : Value) (a1 : Value) (w : World) (Q : Value → World → Prop) : Prop :=
  C.calls 27 #[a0, a1, (.bool true)] w fun v7_1 w =>
  Q v7_1 w
theorem lock_Table_Free_eq (C : Comb) (a0 : Value) (a1 : Value) (w : World) (Q : Value → World → Prop) : lock_Table_Free_x C a0 a1 w Q = FunY Try.prog C 4 [] Try.f10 [a0, a1] w Q := by kernel_rfl
theorem lock_Table_Free_sound (a0 : Value) (a1 : Value) {w : World} {Q : Value → World → Prop} (h : lock_Table_Free_x (std Try.prog) a0 a1 w Q) : CallsR Try.prog 10 #[a0, a1] w Q :=
  calls_of_funY mixed Try.func10 (Eq.mp (lock_Table_Free_eq _ a0 a1 w Q) h)

def lock_Table_Cancel_x (C : Comb) (a0 : Value) (a1 : Value) (w : World) (Q : Value → World → Prop) : Prop :=
  C.calls 27 #[a0, a1, (.bool false)] w fun v7_1 w =>
  Q v7_1 w
theorem lock_Table_Cancel_eq (C : Comb) (a0 : Value) (a1 : Value) (w : World) (Q : Value → World → Prop) : lock_Table_Cancel_x C a0 a1 w Q = FunY Try.prog C 4 [] Try.f11 [a0, a1] w Q := by kernel_rfl
theorem lock_Table_Cancel_sound (a0 : Value) (a1 : Value) {w : World} {Q : Value → World → Prop} (h : lock_Table_Cancel_x (std Try.prog) a0 a1 w Q) : CallsR Try.prog 11 #[a0, a1] w Q :=
  calls_of_funY mixed Try.func11 (Eq.mp (lock_Table_Cancel_eq _ a0 a1 w Q) h)

def flotillaref04_Covers_k1 (C : Comb) (u4_1 : Value) (w : World) (Q : Value → World → Prop) : Prop :=
  Q u4_1 w
def flotillaref04_Covers_x (C : Comb) (a0 : Value) (a1 : Value) (w : World) (Q : Value → World → Prop) : Prop :=
  C.calls 28 #[a0] w fun v8_1 w =>
  C.calls 28 #[a1] w fun v10_1 w =>
  C.step (sBin .geq 3 (.tmp 11) (.tmp 12) v8_1 v10_1) w fun v13_1 w =>
  C.bool v13_1
  (C.step (sBin .eql 3 (.tmp 15) (.const (.int .i64 3)) v8_1 (.int .i64 3)) w fun v16_1 w =>
  C.bool v16_1
  (C.step (sBin .eql 3 (.tmp 18) (.const (.int .i64 2)) v10_1 (.int .i64 2)) w fun v19_1 w =>
  C.step (sUn .not v19_1) w fun v21_1 w =>
  flotillaref04_Covers_k1 C v21_1 w Q)
  (C.step (sUn .not (.bool false)) w fun v21_2 w =>
  flotillaref04_Covers_k1 C v21_2 w Q))
  (Q (.bool false) w)
theorem flotillaref04_Covers_eq (C : Comb) (a0 : Value) (a1 : Value) (w : World) (Q : Value → World → Prop) : flotillaref04_Covers_x C a0 a1 w Q = FunY Try.prog C 7 [] Try.f12 [a0, a1] w Q := by kernel_rfl
theorem flotillaref04_Covers_sound (a0 : Value) (a1 : Value) {w : World} {Q : Value → World → Prop} (h : flotillaref04_Covers_x (std Try.prog) a0 a1 w Q) : CallsR Try.prog 12 #[a0, a1] w Q :=
  calls_of_funY mixed Try.func12 (Eq.mp (flotillaref04_Covers_eq _ a0 a1 w Q) h)

def flotillalaw13_lives_k1 (C : Comb) (w : World) (Q : Value → World → Prop) : Prop :=
  Q (.bool false) w
def flotillalaw13_lives_x (C : Comb) (w : World) (Q : Value → World → Prop) : Prop :=
  C.calls 20 #[] w fun v9_1 w =>
  C.step (sBin .eql 23 (.tmp 10) (.const (.pointer none)) v9_1 (.pointer none)) w fun v11_1 w =>
  C.bool v11_1
  (Q (.bool false) w)
  (C.step (sBuild 30 [(0, (.string ⟨#[97]⟩)), (1, (.int .i64 3))]) w fun v14_1 w =>
  C.calls 9 #[v9_1, (.int .i64 1), v14_1] w fun v15_1 w =>
  C.step (sExtract v15_1 0) w fun v16_1 w =>
  C.step (sExtract v15_1 1) w fun v17_1 w =>
  C.step (sBuild 30 [(0, (.string ⟨#[97]⟩)), (1, (.int .i64 5))]) w fun v20_1 w =>
  C.calls 9 #[v9_1, (.int .i64 2), v20_1] w fun v21_1 w =>
  C.step (sExtract v21_1 0) w fun v22_1 w =>
  C.step (sExtract v21_1 1) w fun v23_1 w =>
  C.step (sBuild 30 [(0, (.string ⟨#[97]⟩)), (1, (.int .i64 3))]) w fun v26_1 w =>
  C.calls 9 #[v9_1, (.int .i64 3), v26_1] w fun v27_1 w =>
  C.step (sExtract v27_1 0) w fun v28_1 w =>
  C.step (sExtract v27_1 1) w fun v29_1 w =>
  C.calls 10 #[v9_1, (.int .i64 1)] w fun v31_1 w =>
  C.bool v16_1
  (C.step (sUn .not v22_1) w fun v35_1 w =>
  C.bool v35_1
  (C.step (sUn .not v28_1) w fun v39_1 w =>
  C.bool v39_1
  (C.step (sBin .eql 33 (.tmp 42) (.const (.int .i64 0)) v17_1 (.int .i64 0)) w fun v43_1 w =>
  C.bool v43_1
  (C.step (sBin .eql 33 (.tmp 46) (.const (.int .i64 0)) v23_1 (.int .i64 0)) w fun v47_1 w =>
  C.bool v47_1
  (C.step (sBin .eql 33 (.tmp 50) (.const (.int .i64 0)) v29_1 (.int .i64 0)) w fun v51_1 w =>
  C.bool v51_1
  (C.step (sBuiltin .len #[36] 3 [false] [v31_1]) w fun v55_1 w =>
  C.step (sBin .eql 3 (.tmp 55) (.const (.int .i64 1)) v55_1 (.int .i64 1)) w fun v56_1 w =>
  C.bool v56_1
  (C.step (sIndexAddr 36 v31_1 (.int .i64 0)) w fun v60_1 w =>
  C.step (sFieldAddr 76 v60_1 0) w fun v61_1 w =>
  C.step (sLoad 3 v61_1) w fun v62_1 w =>
  C.step (sBin .eql 3 (.tmp 62) (.const (.int .i64 2)) v62_1 (.int .i64 2)) w fun v63_1 w =>
  C.bool v63_1
  (C.step (sIndexAddr 36 v31_1 (.int .i64 0)) w fun v67_1 w =>
  C.step (sFieldAddr 76 v67_1 1) w fun v68_1 w =>
  C.step (sFieldAddr 30 v68_1 1) w fun v69_1 w =>
  C.step (sLoad 28 v69_1) w fun v70_1 w =>
  C.step (sBin .eql 28 (.tmp 70) (.const (.int .i64 5)) v70_1 (.int .i64 5)) w fun v71_1 w =>
  Q v71_1 w)
  (flotillalaw13_lives_k1 C w Q))
  (flotillalaw13_lives_k1 C w Q))
  (flotillalaw13_lives_k1 C w Q))
  (flotillalaw13_lives_k1 C w Q))
  (flotillalaw13_lives_k1 C w Q))
  (flotillalaw13_lives_k1 C w Q))
  (flotillalaw13_lives_k1 C w Q))
  (flotillalaw13_lives_k1 C w Q))
theorem flotillalaw13_lives_eq (C : Comb) (w : World) (Q : Value → World → Prop) : flotillalaw13_lives_x C w Q = FunY Try.prog C 2 [] Try.f13 [] w Q := by kernel_rfl
theorem flotillalaw13_lives_sound {w : World} {Q : Value → World → Prop} (h : flotillalaw13_lives_x (std Try.prog) w Q) : CallsR Try.prog 13 #[] w Q :=
  calls_of_funY mixed Try.func13 (Eq.mp (flotillalaw13_lives_eq _ w Q) h)

def lock_Table_Txns_k2 (C : Comb) (v8_1 : Value) (w : World) (Q : Value → World → Prop) : Prop :=
  C.calls 30 #[v8_1] w fun v43_1 w =>
  C.calls 29 #[v43_1] w fun v44_1 w =>
  Q v44_1 w
def lock_Table_Txns_k1 (C : Comb) (a0 : Value) (v8_1 : Value) (w : World) (Q : Value → World → Prop) : Prop :=
  C.step (sNil a0) w fun v23_1 w =>
  C.step (sFieldAddr 65 v23_1 0) w fun v24_1 w =>
  C.step (sLoad 61 v24_1) w fun v25_1 w =>
  C.step (sRange 61 v25_1) w fun v26_1 w =>
  C.loop [undef, undef] w fun dv_1 vs_1 w again_1 =>
  C.step (sNext v26_1 false 0) w fun v27_1 w =>
  C.step (sExtract v27_1 0) w fun v28_1 w =>
  C.bool v28_1
  (C.step (sEntry v26_1) w fun v29_1 w =>
  C.step (sExtract v29_1 1) w fun v30_1 w =>
  C.step (sNil v30_1) w fun v32_1 w =>
  C.step (sFieldAddr 69 v32_1 0) w fun v33_1 w =>
  C.step (sLoad 67 v33_1) w fun v34_1 w =>
  C.step (sRange 67 v34_1) w fun v35_1 w =>
  C.loop [(vs_1.getD 1 undef)] w fun dv_2 vs_2 w again_2 =>
  C.step (sNext v35_1 false 0) w fun v36_1 w =>
  C.step (sExtract v36_1 0) w fun v37_1 w =>
  C.bool v37_1
  (C.step (sEntry v35_1) w fun v38_1 w =>
  C.step (sExtract v38_1 0) w fun v39_1 w =>
  C.step (sMapUpdate 77 v8_1 v39_1 (.bool true)) w fun vx_1 w =>
  again_2 [v39_1] w)
  (again_1 [v30_1, (vs_2.getD 0 undef)] w))
  (lock_Table_Txns_k2 C v8_1 w Q)
def lock_Table_Txns_x (C : Comb) (a0 : Value) (w : World) (Q : Value → World → Prop) : Prop :=
  C.step (sMakeMap 77 none) w fun v8_1 w =>
  C.step (sBin .eql 23 (.tmp 9) (.const (.pointer none)) a0 (.pointer none)) w fun v10_1 w =>
  C.bool v10_1
  (Q (.slice none 0 0) w)
  (C.step (sNil a0) w fun v12_1 w =>
  C.step (sFieldAddr 65 v12_1 1) w fun v13_1 w =>
  C.step (sLoad 63 v13_1) w fun v14_1 w =>
  C.step (sRange 63 v14_1) w fun v15_1 w =>
  C.loop [undef] w fun dv_3 vs_3 w again_3 =>
  C.step (sNext v15_1 false 0) w fun v16_1 w =>
  C.step (sExtract v16_1 0) w fun v17_1 w =>
  C.bool v17_1
  (C.step (sEntry v15_1) w fun v18_1 w =>
  C.step (sExtract v18_1 0) w fun v19_1 w =>
  C.step (sMapUpdate 77 v8_1 v19_1 (.bool true)) w fun vx_2 w =>
  again_3 [v19_1] w)
  (lock_Table_Txns_k1 C a0 v8_1 w Q))
theorem lock_Table_Txns_eq (C : Comb) (a0 : Value) (w : World) (Q : Value → World → Prop) : lock_Table_Txns_x C a0 w Q = FunY Try.prog C 8 [] Try.f14 [a0] w Q := by kernel_rfl
theorem lock_Table_Txns_sound (a0 : Value) {w : World} {Q : Value → World → Prop} (h : lock_Table_Txns_x (std Try.prog) a0 w Q) : CallsR Try.prog 14 #[a0] w Q :=
  calls_of_funY mixed Try.func14 (Eq.mp (lock_Table_Txns_eq _ a0 w Q) h)

def lock_Table_Waits_x (C : Comb) (a0 : Value) (a1 : Value) (w : World) (Q : Value → World → Prop) : Prop :=
  C.step (sAlloc 30) w fun v4_1 w =>
  C.step (sBin .eql 23 (.tmp 8) (.const (.pointer none)) a0 (.pointer none)) w fun v9_1 w =>
  C.bool v9_1
  (C.step (sBuild 30 []) w fun v10_1 w =>
  C.step (sStore 30 v4_1 v10_1) w fun vx_1 w =>
  C.loadR 30 v4_1 w fun r_1 =>
  Q (.tuple #[r_1, (.bool false)]) w)
  (C.step (sNil a0) w fun v13_1 w =>
  C.step (sFieldAddr 65 v13_1 1) w fun v14_1 w =>
  C.step (sLoad 63 v14_1) w fun v15_1 w =>
  C.step (sLookup 63 v15_1 a1 true) w fun v17_1 w =>
  C.step (sExtract v17_1 0) w fun v18_1 w =>
  C.step (sExtract v17_1 1) w fun v19_1 w =>
  C.step (sAlloc 30) w fun v6_1 w =>
  C.step (sStore 30 v6_1 v18_1) w fun vx_2 w =>
  C.step (sLoad 30 v6_1) w fun v20_1 w =>
  C.step (sStore 30 v4_1 v20_1) w fun vx_3 w =>
  C.loadR 30 v4_1 w fun r_2 =>
  Q (.tuple #[r_2, v19_1]) w)
theorem lock_Table_Waits_eq (C : Comb) (a0 : Value) (a1 : Value) (w : World) (Q : Value → World → Prop) : lock_Table_Waits_x C a0 a1 w Q = FunY Try.prog C 8 [] Try.f15 [a0, a1] w Q := by kernel_rfl
theorem lock_Table_Waits_sound (a0 : Value) (a1 : Value) {w : World} {Q : Value → World → Prop} (h : lock_Table_Waits_x (std Try.prog) a0 a1 w Q) : CallsR Try.prog 15 #[a0, a1] w Q :=
  calls_of_funY mixed Try.func15 (Eq.mp (lock_Table_Waits_eq _ a0 a1 w Q) h)

def flotillalaw13_beside_k1 (C : Comb) (w : World) (Q : Value → World → Prop) : Prop :=
  Q (.bool true) w
def flotillalaw13_beside_k2 (C : Comb) (vs_1 : List Value) (again_1 : List Value → World → Prop) (u4_2 : Value) (u6_2 : Value) (w : World) (Q : Value → World → Prop) : Prop :=
  C.step (sBin .add 3 (.tmp 11) (.const (.int .i64 1)) (vs_1.getD 2 undef) (.int .i64 1)) w fun v12_1 w =>
  again_1 [u4_2, u6_2, v12_1] w
def flotillalaw13_beside_k3 (C : Comb) (vs_2 : List Value) (again_2 : List Value → World → Prop) (u4_3 : Value) (w : World) (Q : Value → World → Prop) : Prop :=
  C.step (sBin .add 3 (.tmp 17) (.const (.int .i64 1)) (vs_2.getD 1 undef) (.int .i64 1)) w fun v18_1 w =>
  again_2 [u4_3, v18_1] w
def flotillalaw13_beside_x (C : Comb) (a0 : Value) (a1 : Value) (w : World) (Q : Value → World → Prop) : Prop :=
  C.loop [(.bool false), undef, (.int .i64 0)] w fun dv_1 vs_1 w again_1 =>
  C.step (sBuiltin .len #[25] 3 [false] [a0]) w fun v9_1 w =>
  C.step (sBin .lss 3 (.tmp 7) (.tmp 9) (vs_1.getD 2 undef) v9_1) w fun v10_1 w =>
  C.bool v10_1
  (C.loop [(vs_1.getD 0 undef), (.int .i64 0)] w fun dv_2 vs_2 w again_2 =>
  C.step (sBuiltin .len #[25] 3 [false] [a1]) w fun v15_1 w =>
  C.step (sBin .lss 3 (.tmp 13) (.tmp 15) (vs_2.getD 1 undef) v15_1) w fun v16_1 w =>
  C.bool v16_1
  (C.draw w fun S_1 w =>
  C.stepS S_1 (sIndexAddr 25 a0 (vs_1.getD 2 undef)) fun v21_1 =>
  C.stepS S_1 (sFieldAddr 38 v21_1 0) fun v22_1 =>
  C.stepS S_1 (sLoad 9 v22_1) fun v23_1 =>
  C.stepS S_1 (sIndexAddr 25 a1 (vs_2.getD 1 undef)) fun v26_1 =>
  C.stepS S_1 (sFieldAddr 38 v26_1 0) fun v27_1 =>
  C.stepS S_1 (sLoad 9 v27_1) fun v28_1 =>
  C.stepS S_1 (sBin .eql 9 (.tmp 23) (.tmp 28) v23_1 v28_1) fun v29_1 =>
  C.bool v29_1
  (C.stepS S_1 (sIndexAddr 25 a0 (vs_1.getD 2 undef)) fun v33_1 =>
  C.stepS S_1 (sFieldAddr 38 v33_1 1) fun v34_1 =>
  C.stepS S_1 (sLoad 28 v34_1) fun v35_1 =>
  C.stepS S_1 (sIndexAddr 25 a1 (vs_2.getD 1 undef)) fun v38_1 =>
  C.stepS S_1 (sFieldAddr 38 v38_1 1) fun v39_1 =>
  C.stepS S_1 (sLoad 28 v39_1) fun v40_1 =>
  C.calls 31 #[v35_1, v40_1] w fun v41_1 w =>
  C.keepT w fun S_2 =>
  C.stepS S_2 (sUn .not v41_1) fun v42_1 =>
  C.bool v42_1
  (Q (.bool false) w)
  (flotillalaw13_beside_k3 C vs_2 again_2 (vs_2.getD 0 undef) w Q))
  (flotillalaw13_beside_k3 C vs_2 again_2 (vs_2.getD 0 undef) w Q))
  (flotillalaw13_beside_k2 C vs_1 again_1 (vs_2.getD 0 undef) (vs_2.getD 1 undef) w Q))
  (flotillalaw13_beside_k1 C w Q)
theorem flotillalaw13_beside_eq (C : Comb) (a0 : Value) (a1 : Value) (w : World) (Q : Value → World → Prop) : flotillalaw13_beside_x C a0 a1 w Q = FunY Try.prog C 7 [] Try.f16 [a0, a1] w Q := by kernel_rfl
theorem flotillalaw13_beside_sound (a0 : Value) (a1 : Value) {w : World} {Q : Value → World → Prop} (h : flotillalaw13_beside_x (std Try.prog) a0 a1 w Q) : CallsR Try.prog 16 #[a0, a1] w Q :=
  calls_of_funY mixed Try.func16 (Eq.mp (flotillalaw13_beside_eq _ a0 a1 w Q) h)

def flotillalaw13_has_k1 (C : Comb) (w : World) (Q : Value → World → Prop) : Prop :=
  Q (.bool false) w
def flotillalaw13_has_x (C : Comb) (a0 : Value) (a1 : Value) (a2 : Value) (w : World) (Q : Value → World → Prop) : Prop :=
  C.calls 7 #[a0, a1] w fun v11_1 w =>
  C.loop [(.bool false), (.int .i64 0)] w fun dv_1 vs_1 w again_1 =>
  C.step (sBuiltin .len #[25] 3 [false] [v11_1]) w fun v14_1 w =>
  C.step (sBin .lss 3 (.tmp 12) (.tmp 14) (vs_1.getD 1 undef) v14_1) w fun v15_1 w =>
  C.bool v15_1
  (C.step (sIndexAddr 25 v11_1 (vs_1.getD 1 undef)) w fun v20_1 w =>
  C.step (sFieldAddr 38 v20_1 0) w fun v21_1 w =>
  C.step (sLoad 9 v21_1) w fun v22_1 w =>
  C.step (sBin .eql 9 (.tmp 22) (.tmp 23) v22_1 a2) w fun v24_1 w =>
  C.bool v24_1
  (Q (.bool true) w)
  (C.step (sBin .add 3 (.tmp 16) (.const (.int .i64 1)) (vs_1.getD 1 undef) (.int .i64 1)) w fun v17_1 w =>
  again_1 [(vs_1.getD 0 undef), v17_1] w))
  (flotillalaw13_has_k1 C w Q)
theorem flotillalaw13_has_eq (C : Comb) (a0 : Value) (a1 : Value) (a2 : Value) (w : World) (Q : Value → World → Prop) : flotillalaw13_has_x C a0 a1 a2 w Q = FunY Try.prog C 9 [] Try.f17 [a0, a1, a2] w Q := by kernel_rfl
theorem flotillalaw13_has_sound (a0 : Value) (a1 : Value) (a2 : Value) {w : World} {Q : Value → World → Prop} (h : flotillalaw13_has_x (std Try.prog) a0 a1 a2 w Q) : CallsR Try.prog 17 #[a0, a1, a2] w Q :=
  calls_of_funY mixed Try.func17 (Eq.mp (flotillalaw13_has_eq _ a0 a1 a2 w Q) h)

def lock_Table_Edges_x (C : Comb) (a0 : Value) (w : World) (Q : Value → World → Prop) : Prop :=
  C.step (sAlloc 49) w fun v3_1 w =>
  C.step (sBin .eql 23 (.tmp 4) (.const (.pointer none)) a0 (.pointer none)) w fun v5_1 w =>
  C.bool v5_1
  (C.step (sLoad 49 v3_1) w fun v6_1 w =>
  Q v6_1 w)
  (C.step (sMakeFunc (.func 33) [] [v3_1]) w fun v8_1 w =>
  C.calls 32 #[a0, v8_1] w fun v9_1 w =>
  C.step (sLoad 49 v3_1) w fun v10_1 w =>
  C.calls 34 #[v10_1, (.func (.func 35) #[] #[])] w fun v11_1 w =>
  C.step (sLoad 49 v3_1) w fun v12_1 w =>
  C.calls 36 #[v12_1] w fun v13_1 w =>
  Q v13_1 w)
theorem lock_Table_Edges_eq (C : Comb) (a0 : Value) (w : World) (Q : Value → World → Prop) : lock_Table_Edges_x C a0 w Q = FunY Try.prog C 4 [] Try.f18 [a0] w Q := by kernel_rfl
theorem lock_Table_Edges_sound (a0 : Value) {w : World} {Q : Value → World → Prop} (h : lock_Table_Edges_x (std Try.prog) a0 w Q) : CallsR Try.prog 18 #[a0] w Q :=
  calls_of_funY mixed Try.func18 (Eq.mp (lock_Table_Edges_eq _ a0 w Q) h)

def flotillaref12_At_k1 (C : Comb) (w : World) (Q : Value → World → Prop) : Prop :=
  Q (.int .i64 (-1)) w
def flotillaref12_At_x (C : Comb) (a0 : Value) (a1 : Value) (w : World) (Q : Value → World → Prop) : Prop :=
  C.step (sBox 53 a1) w fun v3_1 w =>
  C.loop [(.int .i64 0), (.int .i64 0)] w fun dv_1 vs_1 w again_1 =>
  C.step (sBuiltin .len #[49] 3 [false] [a0]) w fun v8_1 w =>
  C.step (sBin .lss 3 (.tmp 6) (.tmp 8) (vs_1.getD 1 undef) v8_1) w fun v9_1 w =>
  C.bool v9_1
  (C.draw w fun S_1 w =>
  C.stepS S_1 (sIndexAddr 49 a0 (vs_1.getD 1 undef)) fun v14_1 =>
  C.stepS S_1 (sLoad 53 v14_1) fun v15_1 =>
  C.stepS S_1 (sLoad 53 v3_1) fun v16_1 =>
  C.stepS S_1 (sBin .eql 53 (.tmp 15) (.tmp 16) v15_1 v16_1) fun v17_1 =>
  C.bool v17_1
  (Q (vs_1.getD 1 undef) w)
  (C.step (sBin .add 3 (.tmp 10) (.const (.int .i64 1)) (vs_1.getD 1 undef) (.int .i64 1)) w fun v11_1 w =>
  again_1 [(vs_1.getD 0 undef), v11_1] w))
  (flotillaref12_At_k1 C w Q)
theorem flotillaref12_At_eq (C : Comb) (a0 : Value) (a1 : Value) (w : World) (Q : Value → World → Prop) : flotillaref12_At_x C a0 a1 w Q = FunY Try.prog C 6 [] Try.f19 [a0, a1] w Q := by kernel_rfl
theorem flotillaref12_At_sound (a0 : Value) (a1 : Value) {w : World} {Q : Value → World → Prop} (h : flotillaref12_At_x (std Try.prog) a0 a1 w Q) : CallsR Try.prog 19 #[a0, a1] w Q :=
  calls_of_funY mixed Try.func19 (Eq.mp (flotillaref12_At_eq _ a0 a1 w Q) h)

def lock_New_x (C : Comb) (w : World) (Q : Value → World → Prop) : Prop :=
  C.step (sMakeMap 61 none) w fun v1_1 w =>
  C.step (sMakeMap 63 none) w fun v2_1 w =>
  C.step (sBuild 65 [(0, v1_1), (1, v2_1)]) w fun v3_1 w =>
  C.step (sBox 65 v3_1) w fun v4_1 w =>
  Q v4_1 w
theorem lock_New_eq (C : Comb) (w : World) (Q : Value → World → Prop) : lock_New_x C w Q = FunY Try.prog C 0 [] Try.f20 [] w Q := by kernel_rfl
theorem lock_New_sound {w : World} {Q : Value → World → Prop} (h : lock_New_x (std Try.prog) w Q) : CallsR Try.prog 20 #[] w Q :=
  calls_of_funY mixed Try.func20 (Eq.mp (lock_New_eq _ w Q) h)

def mode_Known_x (C : Comb) (a0 : Value) (w : World) (Q : Value → World → Prop) : Prop :=
  C.step (sBin .geq 28 (.tmp 3) (.const (.int .i64 0)) a0 (.int .i64 0)) w fun v4_1 w =>
  C.bool v4_1
  (C.step (sBin .lss 28 (.tmp 6) (.const (.int .i64 6)) a0 (.int .i64 6)) w fun v7_1 w =>
  Q v7_1 w)
  (Q (.bool false) w)
theorem mode_Known_eq (C : Comb) (a0 : Value) (w : World) (Q : Value → World → Prop) : mode_Known_x C a0 w Q = FunY Try.prog C 2 [] Try.f23 [a0] w Q := by kernel_rfl
theorem mode_Known_sound (a0 : Value) {w : World} {Q : Value → World → Prop} (h : mode_Known_x (std Try.prog) a0 w Q) : CallsR Try.prog 23 #[a0] w Q :=
  calls_of_funY mixed Try.func23 (Eq.mp (mode_Known_eq _ a0 w Q) h)

def mode_Covers_x (C : Comb) (a0 : Value) (a1 : Value) (w : World) (Q : Value → World → Prop) : Prop :=
  C.calls 40 #[a0, a1] w fun v7_1 w =>
  C.calls 41 #[a0] w fun v9_1 w =>
  C.step (sBin .eql 28 (.tmp 7) (.tmp 9) v7_1 v9_1) w fun v10_1 w =>
  Q v10_1 w
theorem mode_Covers_eq (C : Comb) (a0 : Value) (a1 : Value) (w : World) (Q : Value → World → Prop) : mode_Covers_x C a0 a1 w Q = FunY Try.prog C 4 [] Try.f24 [a0, a1] w Q := by kernel_rfl
theorem mode_Covers_sound (a0 : Value) (a1 : Value) {w : World} {Q : Value → World → Prop} (h : mode_Covers_x (std Try.prog) a0 a1 w Q) : CallsR Try.prog 24 #[a0, a1] w Q :=
  calls_of_funY mixed Try.func24 (Eq.mp (mode_Covers_eq _ a0 a1 w Q) h)

def lock_name_would_x (C : Comb) (a0 : Value) (a1 : Value) (a2 : Value) (w : World) (Q : Value → World → Prop) : Prop :=
  C.step (sNil a0) w fun v8_1 w =>
  C.step (sFieldAddr 69 v8_1 0) w fun v9_1 w =>
  C.step (sLoad 67 v9_1) w fun v10_1 w =>
  C.step (sLookup 67 v10_1 a1 false) w fun v12_1 w =>
  C.calls 40 #[v12_1, a2] w fun v14_1 w =>
  Q v14_1 w
theorem lock_name_would_eq (C : Comb) (a0 : Value) (a1 : Value) (a2 : Value) (w : World) (Q : Value → World → Prop) : lock_name_would_x C a0 a1 a2 w Q = FunY Try.prog C 6 [] Try.f25 [a0, a1, a2] w Q := by kernel_rfl
theorem lock_name_would_sound (a0 : Value) (a1 : Value) (a2 : Value) {w : World} {Q : Value → World → Prop} (h : lock_name_would_x (std Try.prog) a0 a1 a2 w Q) : CallsR Try.prog 25 #[a0, a1, a2] w Q :=
  calls_of_funY mixed Try.func25 (Eq.mp (lock_name_would_eq _ a0 a1 a2 w Q) h)

def lock_name_goes_k1 (C : Comb) (w : World) (Q : Value → World → Prop) : Prop :=
  Q (.bool true) w
def lock_name_goes_x (C : Comb) (a0 : Value) (a1 : Value) (a2 : Value) (w : World) (Q : Value → World → Prop) : Prop :=
  C.step (sNil a0) w fun v10_1 w =>
  C.step (sFieldAddr 69 v10_1 0) w fun v11_1 w =>
  C.step (sLoad 67 v11_1) w fun v12_1 w =>
  C.step (sRange 67 v12_1) w fun v13_1 w =>
  C.loop [undef, undef, (.bool false)] w fun dv_1 vs_1 w again_1 =>
  C.step (sNext v13_1 false 0) w fun v14_1 w =>
  C.step (sExtract v14_1 0) w fun v15_1 w =>
  C.bool v15_1
  (C.step (sEntry v13_1) w fun v16_1 w =>
  C.step (sExtract v16_1 0) w fun v17_1 w =>
  C.step (sExtract v16_1 1) w fun v18_1 w =>
  C.step (sBin .neq 3 (.tmp 19) (.tmp 20) v17_1 a1) w fun v21_1 w =>
  C.bool v21_1
  (C.calls 42 #[v18_1, a2] w fun v25_1 w =>
  C.step (sUn .not v25_1) w fun v26_1 w =>
  C.bool v26_1
  (Q (.bool false) w)
  (again_1 [v17_1, v18_1, (vs_1.getD 2 undef)] w))
  (again_1 [v17_1, v18_1, (vs_1.getD 2 undef)] w))
  (lock_name_goes_k1 C w Q)
theorem lock_name_goes_eq (C : Comb) (a0 : Value) (a1 : Value) (a2 : Value) (w : World) (Q : Value → World → Prop) : lock_name_goes_x C a0 a1 a2 w Q = FunY Try.prog C 9 [] Try.f26 [a0, a1, a2] w Q := by kernel_rfl
theorem lock_name_goes_sound (a0 : Value) (a1 : Value) (a2 : Value) {w : World} {Q : Value → World → Prop} (h : lock_name_goes_x (std Try.prog) a0 a1 a2 w Q) : CallsR Try.prog 26 #[a0, a1, a2] w Q :=
  calls_of_funY mixed Try.func26 (Eq.mp (lock_name_goes_eq _ a0 a1 a2 w Q) h)

def lock_Table_gone_k1 (C : Comb) (v7_1 : Value) (w : World) (Q : Value → World → Prop) : Prop :=
  C.step (sLoad 36 v7_1) w fun v65_1 w =>
  Q v65_1 w
def lock_Table_gone_k2 (C : Comb) (vs_1 : List Value) (again_1 : List Value → World → Prop) (w : World) (Q : Value → World → Prop) : Prop :=
  C.step (sBin .add 3 (.tmp 28) (.const (.int .i64 1)) (vs_1.getD 0 undef) (.int .i64 1)) w fun v64_1 w =>
  again_1 [v64_1] w
def lock_Table_gone_k3 (C : Comb) (a0 : Value) (v7_1 : Value) (vs_1 : List Value) (again_1 : List Value → World → Prop) (v31_1 : Value) (u11_3 : Value) (w : World) (Q : Value → World → Prop) : Prop :=
  C.bool u11_3
  (C.step (sMakeFunc (.func 45) [] [v7_1]) w fun v62_1 w =>
  C.calls 44 #[a0, v31_1, v62_1] w fun v63_1 w =>
  lock_Table_gone_k2 C vs_1 again_1 w Q)
  (lock_Table_gone_k2 C vs_1 again_1 w Q)
def lock_Table_gone_x (C : Comb) (a0 : Value) (a1 : Value) (a2 : Value) (w : World) (Q : Value → World → Prop) : Prop :=
  C.step (sBin .eql 23 (.tmp 14) (.const (.pointer none)) a0 (.pointer none)) w fun v15_1 w =>
  C.bool v15_1
  (Q (.slice none 0 0) w)
  (C.step (sAlloc 36) w fun v7_1 w =>
  C.step (sNil a0) w fun v17_1 w =>
  C.step (sFieldAddr 65 v17_1 1) w fun v18_1 w =>
  C.step (sLoad 63 v18_1) w fun v19_1 w =>
  C.step (sBuiltin .delete #[63, 3] 0 [false, false] [v19_1, a1]) w fun vx_1 w =>
  C.step (sNil a0) w fun v22_1 w =>
  C.step (sFieldAddr 65 v22_1 0) w fun v23_1 w =>
  C.step (sLoad 61 v23_1) w fun v24_1 w =>
  C.calls 22 #[v24_1] w fun v25_1 w =>
  C.calls 21 #[v25_1] w fun v26_1 w =>
  C.step (sBuiltin .len #[56] 3 [false] [v26_1]) w fun v27_1 w =>
  C.loop [(.int .i64 0)] w fun dv_1 vs_1 w again_1 =>
  C.step (sBin .lss 3 (.tmp 28) (.tmp 27) (vs_1.getD 0 undef) v27_1) w fun v29_1 w =>
  C.bool v29_1
  (C.step (sIndexAddr 56 v26_1 (vs_1.getD 0 undef)) w fun v30_1 w =>
  C.step (sLoad 9 v30_1) w fun v31_1 w =>
  C.step (sNil a0) w fun v33_1 w =>
  C.step (sFieldAddr 65 v33_1 0) w fun v34_1 w =>
  C.step (sLoad 61 v34_1) w fun v35_1 w =>
  C.step (sLookup 61 v35_1 v31_1 false) w fun v37_1 w =>
  C.calls 43 #[v37_1, a1] w fun v40_1 w =>
  C.step (sNil v37_1) w fun v43_1 w =>
  C.step (sFieldAddr 69 v43_1 0) w fun v44_1 w =>
  C.step (sLoad 67 v44_1) w fun v45_1 w =>
  C.step (sLookup 67 v45_1 a1 true) w fun v47_1 w =>
  C.step (sExtract v47_1 0) w fun v48_1 w =>
  C.step (sExtract v47_1 1) w fun v49_1 w =>
  C.bool v49_1
  (C.bool a2
  (C.step (sNil v37_1) w fun v55_1 w =>
  C.step (sFieldAddr 69 v55_1 0) w fun v56_1 w =>
  C.step (sLoad 67 v56_1) w fun v57_1 w =>
  C.step (sBuiltin .delete #[67, 3] 0 [false, false] [v57_1, a1]) w fun vx_2 w =>
  C.step (sMakeFunc (.func 45) [] [v7_1]) w fun v62_2 w =>
  C.calls 44 #[a0, v31_1, v62_2] w fun v63_2 w =>
  lock_Table_gone_k2 C vs_1 again_1 w Q)
  (lock_Table_gone_k3 C a0 v7_1 vs_1 again_1 v31_1 v40_1 w Q))
  (lock_Table_gone_k3 C a0 v7_1 vs_1 again_1 v31_1 v40_1 w Q))
  (lock_Table_gone_k1 C v7_1 w Q))
theorem lock_Table_gone_eq (C : Comb) (a0 : Value) (a1 : Value) (a2 : Value) (w : World) (Q : Value → World → Prop) : lock_Table_gone_x C a0 a1 a2 w Q = FunY Try.prog C 2 [] Try.f27 [a0, a1, a2] w Q := by kernel_rfl
theorem lock_Table_gone_sound (a0 : Value) (a1 : Value) (a2 : Value) {w : World} {Q : Value → World → Prop} (h : lock_Table_gone_x (std Try.prog) a0 a1 a2 w Q) : CallsR Try.prog 27 #[a0, a1, a2] w Q :=
  calls_of_funY mixed Try.func27 (Eq.mp (lock_Table_gone_eq _ a0 a1 a2 w Q) h)

def flotillaref04_Sure_x (C : Comb) (a0 : Value) (w : World) (Q : Value → World → Prop) : Prop :=
  C.step (sBin .lss 28 (.tmp 3) (.const (.int .i64 0)) a0 (.int .i64 0)) w fun v4_1 w =>
  C.bool v4_1
  (Q (.int .i64 5) w)
  (C.step (sBin .gtr 28 (.tmp 6) (.const (.int .i64 5)) a0 (.int .i64 5)) w fun v7_1 w =>
  C.bool v7_1
  (Q (.int .i64 5) w)
  (Q a0 w))
theorem flotillaref04_Sure_eq (C : Comb) (a0 : Value) (w : World) (Q : Value → World → Prop) : flotillaref04_Sure_x C a0 w Q = FunY Try.prog C 2 [] Try.f28 [a0] w Q := by kernel_rfl
theorem flotillaref04_Sure_sound (a0 : Value) {w : World} {Q : Value → World → Prop} (h : flotillaref04_Sure_x (std Try.prog) a0 w Q) : CallsR Try.prog 28 #[a0] w Q :=
  calls_of_funY mixed Try.func28 (Eq.mp (flotillaref04_Sure_eq _ a0 w Q) h)

def flotillaref04_Beside_k1 (C : Comb) (u5_1 : Value) (u6_1 : Value) (w : World) (Q : Value → World → Prop) : Prop :=
  C.step (sBin .eql 3 (.tmp 16) (.const (.int .i64 0)) u5_1 (.int .i64 0)) w fun v18_1 w =>
  C.bool v18_1
  (Q (.bool true) w)
  (C.step (sBin .eql 3 (.tmp 16) (.const (.int .i64 1)) u5_1 (.int .i64 1)) w fun v20_1 w =>
  C.bool v20_1
  (C.step (sBin .neq 3 (.tmp 21) (.const (.int .i64 5)) u6_1 (.int .i64 5)) w fun v22_1 w =>
  Q v22_1 w)
  (C.step (sBin .eql 3 (.tmp 16) (.const (.int .i64 2)) u5_1 (.int .i64 2)) w fun v24_1 w =>
  C.bool v24_1
  (C.step (sBin .eql 3 (.tmp 25) (.const (.int .i64 2)) u6_1 (.int .i64 2)) w fun v26_1 w =>
  Q v26_1 w)
  (C.step (sBin .eql 3 (.tmp 16) (.const (.int .i64 3)) u5_1 (.int .i64 3)) w fun v28_1 w =>
  C.bool v28_1
  (C.step (sBin .eql 3 (.tmp 29) (.const (.int .i64 3)) u6_1 (.int .i64 3)) w fun v30_1 w =>
  Q v30_1 w)
  (Q (.bool false) w))))
def flotillaref04_Beside_x (C : Comb) (a0 : Value) (a1 : Value) (w : World) (Q : Value → World → Prop) : Prop :=
  C.calls 28 #[a0] w fun v8_1 w =>
  C.calls 28 #[a1] w fun v10_1 w =>
  C.step (sBin .gtr 3 (.tmp 11) (.tmp 12) v8_1 v10_1) w fun v13_1 w =>
  C.bool v13_1
  (flotillaref04_Beside_k1 C v10_1 v8_1 w Q)
  (flotillaref04_Beside_k1 C v8_1 v10_1 w Q)
theorem flotillaref04_Beside_eq (C : Comb) (a0 : Value) (a1 : Value) (w : World) (Q : Value → World → Prop) : flotillaref04_Beside_x C a0 a1 w Q = FunY Try.prog C 7 [] Try.f31 [a0, a1] w Q := by kernel_rfl
theorem flotillaref04_Beside_sound (a0 : Value) (a1 : Value) {w : World} {Q : Value → World → Prop} (h : flotillaref04_Beside_x (std Try.prog) a0 a1 w Q) : CallsR Try.prog 31 #[a0, a1] w Q :=
  calls_of_funY mixed Try.func31 (Eq.mp (flotillaref04_Beside_eq _ a0 a1 w Q) h)

def lock_Table_edges_k1 (C : Comb) (vs_2 : List Value) (again_2 : List Value → World → Prop) (w : World) (Q : Value → World → Prop) : Prop :=
  C.step (sBin .add 3 (.tmp 36) (.const (.int .i64 1)) (vs_2.getD 0 undef) (.int .i64 1)) w fun v89_1 w =>
  again_2 [v89_1] w
def lock_Table_edges_k2 (C : Comb) (a1 : Value) (v33_1 : Value) (vs_2 : List Value) (again_2 : List Value → World → Prop) (v40_1 : Value) (w : World) (Q : Value → World → Prop) : Prop :=
  C.step (sSlice 42 v33_1 none (some (vs_2.getD 0 undef)) none) w fun v77_1 w =>
  C.step (sBuiltin .len #[42] 3 [false] [v77_1]) w fun v78_1 w =>
  C.loop [(.int .i64 0)] w fun dv_3 vs_3 w again_3 =>
  C.step (sBin .lss 3 (.tmp 79) (.tmp 78) (vs_3.getD 0 undef) v78_1) w fun v80_1 w =>
  C.bool v80_1
  (C.step (sIndexAddr 42 v77_1 (vs_3.getD 0 undef)) w fun v81_1 w =>
  C.step (sLoad 3 v81_1) w fun v82_1 w =>
  C.step (sBuild 53 [(0, v40_1), (1, v82_1)]) w fun v86_1 w =>
  C.step (sCallV a1 [v86_1]) w fun v87_1 w =>
  C.step (sBin .add 3 (.tmp 79) (.const (.int .i64 1)) (vs_3.getD 0 undef) (.int .i64 1)) w fun v88_1 w =>
  again_3 [v88_1] w)
  (lock_Table_edges_k1 C vs_2 again_2 w Q)
def lock_Table_edges_x (C : Comb) (a0 : Value) (a1 : Value) (w : World) (Q : Value → World → Prop) : Prop :=
  C.step (sNil a0) w fun v15_1 w =>
  C.step (sFieldAddr 65 v15_1 0) w fun v16_1 w =>
  C.step (sLoad 61 v16_1) w fun v17_1 w =>
  C.step (sRange 61 v17_1) w fun v18_1 w =>
  C.loop [] w fun dv_1 vs_1 w again_1 =>
  C.step (sNext v18_1 false 0) w fun v19_1 w =>
  C.step (sExtract v19_1 0) w fun v20_1 w =>
  C.bool v20_1
  (C.step (sEntry v18_1) w fun v21_1 w =>
  C.step (sExtract v21_1 1) w fun v22_1 w =>
  C.draw w fun S_1 w =>
  C.stepS S_1 (sNil v22_1) fun v25_1 =>
  C.stepS S_1 (sFieldAddr 69 v25_1 1) fun v26_1 =>
  C.stepS S_1 (sLoad 42 v26_1) fun v27_1 =>
  C.stepS S_1 (sNil v22_1) fun v30_1 =>
  C.stepS S_1 (sFieldAddr 69 v30_1 2) fun v31_1 =>
  C.stepS S_1 (sLoad 42 v31_1) fun v32_1 =>
  C.step (sBuildSlice 42 0 []) w fun v23_1 w =>
  C.keepS S_1 w fun S_2 =>
  C.step (sBuiltin .append #[42, 42] 42 [false, false] [v23_1, v27_1]) w fun v28_1 w =>
  C.keepS S_2 w fun S_3 =>
  C.step (sBuiltin .append #[42, 42] 42 [false, false] [v28_1, v32_1]) w fun v33_1 w =>
  C.keepT w fun S_4 =>
  C.step (sBuiltin .len #[42] 3 [false] [v33_1]) w fun v35_1 w =>
  C.loop [(.int .i64 0)] w fun dv_2 vs_2 w again_2 =>
  C.step (sBin .lss 3 (.tmp 36) (.tmp 35) (vs_2.getD 0 undef) v35_1) w fun v37_1 w =>
  C.bool v37_1
  (C.step (sIndexAddr 42 v33_1 (vs_2.getD 0 undef)) w fun v39_1 w =>
  C.step (sLoad 3 v39_1) w fun v40_1 w =>
  C.step (sNil a0) w fun v44_1 w =>
  C.step (sFieldAddr 65 v44_1 1) w fun v45_1 w =>
  C.step (sLoad 63 v45_1) w fun v46_1 w =>
  C.step (sLookup 63 v46_1 v40_1 false) w fun v48_1 w =>
  C.step (sField 30 v48_1 1) w fun v49_1 w =>
  C.calls 25 #[v22_1, v40_1, v49_1] w fun v50_1 w =>
  C.step (sNil v22_1) w fun v52_1 w =>
  C.step (sFieldAddr 69 v52_1 0) w fun v53_1 w =>
  C.step (sLoad 67 v53_1) w fun v54_1 w =>
  C.step (sRange 67 v54_1) w fun v55_1 w =>
  C.loop [] w fun dv_4 vs_4 w again_4 =>
  C.step (sNext v55_1 false 0) w fun v56_1 w =>
  C.step (sExtract v56_1 0) w fun v57_1 w =>
  C.bool v57_1
  (C.step (sEntry v55_1) w fun v58_1 w =>
  C.step (sExtract v58_1 0) w fun v59_1 w =>
  C.step (sExtract v58_1 1) w fun v60_1 w =>
  C.step (sBin .neq 3 (.tmp 61) (.tmp 62) v59_1 v40_1) w fun v63_1 w =>
  C.bool v63_1
  (C.calls 42 #[v60_1, v50_1] w fun v67_1 w =>
  C.step (sUn .not v67_1) w fun v68_1 w =>
  C.bool v68_1
  (C.step (sBuild 53 [(0, v40_1), (1, v59_1)]) w fun v73_1 w =>
  C.step (sCallV a1 [v73_1]) w fun v74_1 w =>
  again_4 [] w)
  (again_4 [] w))
  (again_4 [] w))
  (lock_Table_edges_k2 C a1 v33_1 vs_2 again_2 v40_1 w Q))
  (again_1 [] w))
  (Q (.tuple #[]) w)
theorem lock_Table_edges_eq (C : Comb) (a0 : Value) (a1 : Value) (w : World) (Q : Value → World → Prop) : lock_Table_edges_x C a0 a1 w Q = FunY Try.prog C 2 [] Try.f32 [a0, a1] w Q := by kernel_rfl
theorem lock_Table_edges_sound (a0 : Value) (a1 : Value) {w : World} {Q : Value → World → Prop} (h : lock_Table_edges_x (std Try.prog) a0 a1 w Q) : CallsR Try.prog 32 #[a0, a1] w Q :=
  calls_of_funY mixed Try.func32 (Eq.mp (lock_Table_edges_eq _ a0 a1 w Q) h)

def lock_Table_Edges_1_x (C : Comb) (a0 : Value) (a1 : Value) (w : World) (Q : Value → World → Prop) : Prop :=
  C.step (sBox 53 a0) w fun v2_1 w =>
  C.step (sLoad 49 a1) w fun v3_1 w =>
  C.step (sLoad 53 v2_1) w fun v4_1 w =>
  C.step (sBuildSlice 49 1 [(0, v4_1)]) w fun v5_1 w =>
  C.step (sBuiltin .append #[49, 49] 49 [false, false] [v3_1, v5_1]) w fun v6_1 w =>
  C.step (sStore 49 a1 v6_1) w fun vx_1 w =>
  Q (.tuple #[]) w
theorem lock_Table_Edges_1_eq (C : Comb) (a0 : Value) (a1 : Value) (w : World) (Q : Value → World → Prop) : lock_Table_Edges_1_x C a0 a1 w Q = FunY Try.prog C 3 [] Try.f33 [a0, a1] w Q := by kernel_rfl
theorem lock_Table_Edges_1_sound (a0 : Value) (a1 : Value) {w : World} {Q : Value → World → Prop} (h : lock_Table_Edges_1_x (std Try.prog) a0 a1 w Q) : CallsR Try.prog 33 #[a0, a1] w Q :=
  calls_of_funY mixed Try.func33 (Eq.mp (lock_Table_Edges_1_eq _ a0 a1 w Q) h)

def lock_Table_Edges_2_x (C : Comb) (a0 : Value) (a1 : Value) (w : World) (Q : Value → World → Prop) : Prop :=
  C.step (sBox 53 a0) w fun v2_1 w =>
  C.step (sBox 53 a1) w fun v3_1 w =>
  C.step (sFieldAddr 53 v2_1 0) w fun v5_1 w =>
  C.step (sLoad 3 v5_1) w fun v6_1 w =>
  C.step (sFieldAddr 53 v3_1 0) w fun v7_1 w =>
  C.step (sLoad 3 v7_1) w fun v8_1 w =>
  C.step (sBin .neq 3 (.tmp 6) (.tmp 8) v6_1 v8_1) w fun v9_1 w =>
  C.bool v9_1
  (C.step (sFieldAddr 53 v2_1 0) w fun v10_1 w =>
  C.step (sLoad 3 v10_1) w fun v11_1 w =>
  C.step (sFieldAddr 53 v3_1 0) w fun v12_1 w =>
  C.step (sLoad 3 v12_1) w fun v13_1 w =>
  C.step (sBin .sub 3 (.tmp 11) (.tmp 13) v11_1 v13_1) w fun v14_1 w =>
  Q v14_1 w)
  (C.step (sFieldAddr 53 v2_1 1) w fun v15_1 w =>
  C.step (sLoad 3 v15_1) w fun v16_1 w =>
  C.step (sFieldAddr 53 v3_1 1) w fun v17_1 w =>
  C.step (sLoad 3 v17_1) w fun v18_1 w =>
  C.step (sBin .sub 3 (.tmp 16) (.tmp 18) v16_1 v18_1) w fun v19_1 w =>
  Q v19_1 w)
theorem lock_Table_Edges_2_eq (C : Comb) (a0 : Value) (a1 : Value) (w : World) (Q : Value → World → Prop) : lock_Table_Edges_2_x C a0 a1 w Q = FunY Try.prog C 4 [] Try.f35 [a0, a1] w Q := by kernel_rfl
theorem lock_Table_Edges_2_sound (a0 : Value) (a1 : Value) {w : World} {Q : Value → World → Prop} (h : lock_Table_Edges_2_x (std Try.prog) a0 a1 w Q) : CallsR Try.prog 35 #[a0, a1] w Q :=
  calls_of_funY mixed Try.func35 (Eq.mp (lock_Table_Edges_2_eq _ a0 a1 w Q) h)

def api_Edge_k1 (C : Comb) (a0 : Value) (w : World) (Q : Value → World → Prop) : Prop :=
  Q a0 w
def api_Edge_k2 (C : Comb) (a0 : Value) (u3_2 : Value) (w : World) (Q : Value → World → Prop) : Prop :=
  C.step (sSlice 49 a0 (some u3_2) none none) w fun v56_1 w =>
  C.step (sBuiltin .clear #[49] 0 [false] [v56_1]) w fun vx_1 w =>
  C.step (sSlice 49 a0 none (some u3_2) none) w fun v59_1 w =>
  Q v59_1 w
def api_Edge_k3 (C : Comb) (vs_2 : List Value) (again_2 : List Value → World → Prop) (u3_3 : Value) (w : World) (Q : Value → World → Prop) : Prop :=
  C.step (sBin .add 3 (.tmp 33) (.const (.int .i64 1)) (vs_2.getD 1 undef) (.int .i64 1)) w fun v34_1 w =>
  again_2 [u3_3, v34_1] w
def api_Edge_x (C : Comb) (a0 : Value) (w : World) (Q : Value → World → Prop) : Prop :=
  C.step (sBuiltin .len #[49] 3 [false] [a0]) w fun v7_1 w =>
  C.step (sBin .lss 3 (.tmp 7) (.const (.int .i64 2)) v7_1 (.int .i64 2)) w fun v8_1 w =>
  C.bool v8_1
  (Q a0 w)
  (C.loop [undef, undef, (.slice none 0 0), (.int .i64 1)] w fun dv_1 vs_1 w again_1 =>
  C.step (sBuiltin .len #[49] 3 [false] [a0]) w fun v12_1 w =>
  C.step (sBin .lss 3 (.tmp 10) (.tmp 12) (vs_1.getD 3 undef) v12_1) w fun v13_1 w =>
  C.bool v13_1
  (C.draw w fun S_1 w =>
  C.stepS S_1 (sIndexAddr 49 a0 (vs_1.getD 3 undef)) fun v18_1 =>
  C.stepS S_1 (sLoad 53 v18_1) fun v19_1 =>
  C.stepS S_1 (sBin .sub 3 (.tmp 21) (.const (.int .i64 1)) (vs_1.getD 3 undef) (.int .i64 1)) fun v22_1 =>
  C.stepS S_1 (sIndexAddr 49 a0 v22_1) fun v23_1 =>
  C.stepS S_1 (sLoad 53 v23_1) fun v24_1 =>
  C.stepS S_1 (sBin .eql 53 (.tmp 19) (.tmp 24) v19_1 v24_1) fun v25_1 =>
  C.bool v25_1
  (C.step (sSlice 49 a0 (some (vs_1.getD 3 undef)) none none) w fun v28_1 w =>
  C.loop [(vs_1.getD 3 undef), (.int .i64 1)] w fun dv_2 vs_2 w again_2 =>
  C.step (sBuiltin .len #[49] 3 [false] [v28_1]) w fun v31_1 w =>
  C.step (sBin .lss 3 (.tmp 29) (.tmp 31) (vs_2.getD 1 undef) v31_1) w fun v32_1 w =>
  C.bool v32_1
  (C.draw w fun S_2 w =>
  C.stepS S_2 (sIndexAddr 49 v28_1 (vs_2.getD 1 undef)) fun v37_1 =>
  C.stepS S_2 (sLoad 53 v37_1) fun v38_1 =>
  C.stepS S_2 (sBin .sub 3 (.tmp 40) (.const (.int .i64 1)) (vs_2.getD 1 undef) (.int .i64 1)) fun v41_1 =>
  C.stepS S_2 (sIndexAddr 49 v28_1 v41_1) fun v42_1 =>
  C.stepS S_2 (sLoad 53 v42_1) fun v43_1 =>
  C.stepS S_2 (sBin .neq 53 (.tmp 38) (.tmp 43) v38_1 v43_1) fun v44_1 =>
  C.bool v44_1
  (C.step (sIndexAddr 49 v28_1 (vs_2.getD 1 undef)) w fun v49_1 w =>
  C.step (sLoad 53 v49_1) w fun v50_1 w =>
  C.step (sIndexAddr 49 a0 (vs_2.getD 0 undef)) w fun v51_1 w =>
  C.step (sStore 53 v51_1 v50_1) w fun vx_2 w =>
  C.step (sBin .add 3 (.tmp 52) (.const (.int .i64 1)) (vs_2.getD 0 undef) (.int .i64 1)) w fun v53_1 w =>
  api_Edge_k3 C vs_2 again_2 v53_1 w Q)
  (api_Edge_k3 C vs_2 again_2 (vs_2.getD 0 undef) w Q))
  (api_Edge_k2 C a0 (vs_2.getD 0 undef) w Q))
  (C.step (sBin .add 3 (.tmp 14) (.const (.int .i64 1)) (vs_1.getD 3 undef) (.int .i64 1)) w fun v15_1 w =>
  again_1 [(vs_1.getD 0 undef), (vs_1.getD 1 undef), (vs_1.getD 2 undef), v15_1] w))
  (api_Edge_k1 C a0 w Q))
theorem api_Edge_eq (C : Comb) (a0 : Value) (w : World) (Q : Value → World → Prop) : api_Edge_x C a0 w Q = FunY Try.prog C 6 [] Try.f36 [a0] w Q := by kernel_rfl
theorem api_Edge_sound (a0 : Value) {w : World} {Q : Value → World → Prop} (h : api_Edge_x (std Try.prog) a0 w Q) : CallsR Try.prog 36 #[a0] w Q :=
  calls_of_funY mixed Try.func36 (Eq.mp (api_Edge_eq _ a0 w Q) h)

def mode_Join_k2 (C : Comb) (w : World) (Q : Value → World → Prop) : Prop :=
  Q (.int .i64 5) w
def mode_Join_k1 (C : Comb) (v5_1 : Value) (v6_1 : Value) (w : World) (Q : Value → World → Prop) : Prop :=
  C.loop [undef, (.int .i64 0), (.int .i64 0)] w fun dv_1 vs_1 w again_1 =>
  C.step (sBin .lss 3 (.tmp 30) (.const (.int .i64 6)) (vs_1.getD 2 undef) (.int .i64 6)) w fun v31_1 w =>
  C.bool v31_1
  (C.draw w fun S_1 w =>
  C.stepS S_1 (sIndexAddr 102 v5_1 (vs_1.getD 2 undef)) fun v34_1 =>
  C.stepS S_1 (sLoad 101 v34_1) fun v35_1 =>
  C.stepS S_1 (sLoad 101 v6_1) fun v36_1 =>
  C.stepS S_1 (sBin .eql 101 (.tmp 35) (.tmp 36) v35_1 v36_1) fun v37_1 =>
  C.bool v37_1
  (Q (vs_1.getD 2 undef) w)
  (C.step (sBin .add 3 (.tmp 30) (.const (.int .i64 1)) (vs_1.getD 2 undef) (.int .i64 1)) w fun v39_1 w =>
  again_1 [(vs_1.getD 2 undef), (vs_1.getD 1 undef), v39_1] w))
  (mode_Join_k2 C w Q)
def mode_Join_k3 (C : Comb) (vs_2 : List Value) (again_2 : List Value → World → Prop) (u7_3 : Value) (w : World) (Q : Value → World → Prop) : Prop :=
  C.step (sBin .add 3 (.tmp 10) (.const (.int .i64 1)) (vs_2.getD 1 undef) (.int .i64 1)) w fun v29_1 w =>
  again_2 [u7_3, v29_1] w
def mode_Join_x (C : Comb) (a0 : Value) (a1 : Value) (w : World) (Q : Value → World → Prop) : Prop :=
  C.calls 53 #[] w fun v9_1 w =>
  C.step (sAlloc 102) w fun v5_1 w =>
  C.step (sStore 102 v5_1 v9_1) w fun vx_1 w =>
  C.step (sAlloc 101) w fun v6_1 w =>
  C.loop [undef, (.int .i64 0)] w fun dv_2 vs_2 w again_2 =>
  C.step (sBin .lss 3 (.tmp 10) (.const (.int .i64 6)) (vs_2.getD 1 undef) (.int .i64 6)) w fun v11_1 w =>
  C.bool v11_1
  (C.calls 41 #[a0] w fun v15_1 w =>
  C.step (sIndexAddr 102 v5_1 v15_1) w fun v17_1 w =>
  C.step (sIndexAddr 101 v17_1 (vs_2.getD 1 undef)) w fun v18_1 w =>
  C.step (sLoad 4 v18_1) w fun v19_1 w =>
  C.bool v19_1
  (C.calls 41 #[a1] w fun v22_1 w =>
  C.step (sIndexAddr 102 v5_1 v22_1) w fun v24_1 w =>
  C.step (sIndexAddr 101 v24_1 (vs_2.getD 1 undef)) w fun v25_1 w =>
  C.step (sLoad 4 v25_1) w fun v26_1 w =>
  C.step (sIndexAddr 101 v6_1 (vs_2.getD 1 undef)) w fun v28_1 w =>
  C.step (sStore 4 v28_1 v26_1) w fun vx_2 w =>
  mode_Join_k3 C vs_2 again_2 (vs_2.getD 1 undef) w Q)
  (C.step (sIndexAddr 101 v6_1 (vs_2.getD 1 undef)) w fun v28_2 w =>
  C.step (sStore 4 v28_2 (.bool false)) w fun vx_3 w =>
  mode_Join_k3 C vs_2 again_2 (vs_2.getD 1 undef) w Q))
  (mode_Join_k1 C v5_1 v6_1 w Q)
theorem mode_Join_eq (C : Comb) (a0 : Value) (a1 : Value) (w : World) (Q : Value → World → Prop) : mode_Join_x C a0 a1 w Q = FunY Try.prog C 9 [] Try.f40 [a0, a1] w Q := by kernel_rfl
theorem mode_Join_sound (a0 : Value) (a1 : Value) {w : World} {Q : Value → World → Prop} (h : mode_Join_x (std Try.prog) a0 a1 w Q) : CallsR Try.prog 40 #[a0, a1] w Q :=
  calls_of_funY mixed Try.func40 (Eq.mp (mode_Join_eq _ a0 a1 w Q) h)

def mode_sure_x (C : Comb) (a0 : Value) (w : World) (Q : Value → World → Prop) : Prop :=
  C.calls 23 #[a0] w fun v4_1 w =>
  C.step (sUn .not v4_1) w fun v5_1 w =>
  C.bool v5_1
  (Q (.int .i64 5) w)
  (Q a0 w)
theorem mode_sure_eq (C : Comb) (a0 : Value) (w : World) (Q : Value → World → Prop) : mode_sure_x C a0 w Q = FunY Try.prog C 2 [] Try.f41 [a0] w Q := by kernel_rfl
theorem mode_sure_sound (a0 : Value) {w : World} {Q : Value → World → Prop} (h : mode_sure_x (std Try.prog) a0 w Q) : CallsR Try.prog 41 #[a0] w Q :=
  calls_of_funY mixed Try.func41 (Eq.mp (mode_sure_eq _ a0 w Q) h)

def mode_Beside_x (C : Comb) (a0 : Value) (a1 : Value) (w : World) (Q : Value → World → Prop) : Prop :=
  C.draw w fun S_1 w =>
  C.calls 53 #[] w fun v5_1 w =>
  C.keepS S_1 w fun S_2 =>
  C.calls 41 #[a0] w fun v7_1 w =>
  C.keepS S_2 w fun S_3 =>
  C.stepS S_3 (sIndex 102 v5_1 v7_1) fun v8_1 =>
  C.calls 41 #[a1] w fun v10_1 w =>
  C.keepS S_3 w fun S_4 =>
  C.stepS S_4 (sIndex 101 v8_1 v10_1) fun v11_1 =>
  Q v11_1 w
theorem mode_Beside_eq (C : Comb) (a0 : Value) (a1 : Value) (w : World) (Q : Value → World → Prop) : mode_Beside_x C a0 a1 w Q = FunY Try.prog C 4 [] Try.f42 [a0, a1] w Q := by kernel_rfl
theorem mode_Beside_sound (a0 : Value) (a1 : Value) {w : World} {Q : Value → World → Prop} (h : mode_Beside_x (std Try.prog) a0 a1 w Q) : CallsR Try.prog 42 #[a0, a1] w Q :=
  calls_of_funY mixed Try.func42 (Eq.mp (mode_Beside_eq _ a0 a1 w Q) h)

def lock_name_leave_x (C : Comb) (a0 : Value) (a1 : Value) (w : World) (Q : Value → World → Prop) : Prop :=
  C.step (sBox 3 a1) w fun v3_1 w =>
  C.draw w fun S_1 w =>
  C.stepS S_1 (sNil a0) fun v8_1 =>
  C.stepS S_1 (sFieldAddr 69 v8_1 1) fun v9_1 =>
  C.stepS S_1 (sLoad 42 v9_1) fun v10_1 =>
  C.stepS S_1 (sBuiltin .len #[42] 3 [false] [v10_1]) fun v11_1 =>
  C.stepS S_1 (sNil a0) fun v13_1 =>
  C.stepS S_1 (sFieldAddr 69 v13_1 2) fun v14_1 =>
  C.stepS S_1 (sLoad 42 v14_1) fun v15_1 =>
  C.stepS S_1 (sBuiltin .len #[42] 3 [false] [v15_1]) fun v16_1 =>
  C.stepS S_1 (sBin .add 3 (.tmp 11) (.tmp 16) v11_1 v16_1) fun v17_1 =>
  C.step (sMakeFunc (.func 54) [] [v3_1]) w fun v18_1 w =>
  C.step (sNil a0) w fun v21_1 w =>
  C.step (sFieldAddr 69 v21_1 1) w fun v22_1 w =>
  C.step (sLoad 42 v22_1) w fun v23_1 w =>
  C.calls 55 #[v23_1, v18_1] w fun v25_1 w =>
  C.step (sNil a0) w fun v26_1 w =>
  C.step (sFieldAddr 69 v26_1 1) w fun v27_1 w =>
  C.step (sStore 42 v27_1 v25_1) w fun vx_1 w =>
  C.step (sNil a0) w fun v30_1 w =>
  C.step (sFieldAddr 69 v30_1 2) w fun v31_1 w =>
  C.step (sLoad 42 v31_1) w fun v32_1 w =>
  C.calls 55 #[v32_1, v18_1] w fun v34_1 w =>
  C.step (sNil a0) w fun v35_1 w =>
  C.step (sFieldAddr 69 v35_1 2) w fun v36_1 w =>
  C.step (sStore 42 v36_1 v34_1) w fun vx_2 w =>
  C.draw w fun S_2 w =>
  C.stepS S_2 (sNil a0) fun v38_1 =>
  C.stepS S_2 (sFieldAddr 69 v38_1 1) fun v39_1 =>
  C.stepS S_2 (sLoad 42 v39_1) fun v40_1 =>
  C.stepS S_2 (sBuiltin .len #[42] 3 [false] [v40_1]) fun v41_1 =>
  C.stepS S_2 (sNil a0) fun v43_1 =>
  C.stepS S_2 (sFieldAddr 69 v43_1 2) fun v44_1 =>
  C.stepS S_2 (sLoad 42 v44_1) fun v45_1 =>
  C.stepS S_2 (sBuiltin .len #[42] 3 [false] [v45_1]) fun v46_1 =>
  C.stepS S_2 (sBin .add 3 (.tmp 41) (.tmp 46) v41_1 v46_1) fun v47_1 =>
  C.stepS S_2 (sBin .lss 3 (.tmp 47) (.tmp 48) v47_1 v17_1) fun v49_1 =>
  Q v49_1 w
theorem lock_name_leave_eq (C : Comb) (a0 : Value) (a1 : Value) (w : World) (Q : Value → World → Prop) : lock_name_leave_x C a0 a1 w Q = FunY Try.prog C 7 [] Try.f43 [a0, a1] w Q := by kernel_rfl
theorem lock_name_leave_sound (a0 : Value) (a1 : Value) {w : World} {Q : Value → World → Prop} (h : lock_name_leave_x (std Try.prog) a0 a1 w Q) : CallsR Try.prog 43 #[a0, a1] w Q :=
  calls_of_funY mixed Try.func43 (Eq.mp (lock_name_leave_eq _ a0 a1 w Q) h)

def lock_Table_pass_k1 (C : Comb) (a0 : Value) (a1 : Value) (v15_1 : Value) (w : World) (Q : Value → World → Prop) : Prop :=
  C.step (sNil v15_1) w fun v58_1 w =>
  C.step (sFieldAddr 69 v58_1 0) w fun v59_1 w =>
  C.step (sLoad 67 v59_1) w fun v60_1 w =>
  C.step (sBuiltin .len #[67] 3 [false] [v60_1]) w fun v61_1 w =>
  C.step (sBin .eql 3 (.tmp 61) (.const (.int .i64 0)) v61_1 (.int .i64 0)) w fun v62_1 w =>
  C.bool v62_1
  (C.step (sNil a0) w fun v64_1 w =>
  C.step (sFieldAddr 65 v64_1 0) w fun v65_1 w =>
  C.step (sLoad 61 v65_1) w fun v66_1 w =>
  C.step (sBuiltin .delete #[61, 9] 0 [false, false] [v66_1, a1]) w fun vx_1 w =>
  Q (.tuple #[]) w)
  (Q (.tuple #[]) w)
def lock_Table_pass_x (C : Comb) (a0 : Value) (a1 : Value) (a2 : Value) (w : World) (Q : Value → World → Prop) : Prop :=
  C.step (sNil a0) w fun v11_1 w =>
  C.step (sFieldAddr 65 v11_1 0) w fun v12_1 w =>
  C.step (sLoad 61 v12_1) w fun v13_1 w =>
  C.step (sLookup 61 v13_1 a1 false) w fun v15_1 w =>
  C.calls 56 #[v15_1] w fun v17_1 w =>
  C.loop [v17_1] w fun dv_1 vs_1 w again_1 =>
  C.step (sBin .neq 3 (.tmp 18) (.const (.int .i64 0)) (vs_1.getD 0 undef) (.int .i64 0)) w fun v19_1 w =>
  C.bool v19_1
  (C.step (sNil a0) w fun v23_1 w =>
  C.step (sFieldAddr 65 v23_1 1) w fun v24_1 w =>
  C.step (sLoad 63 v24_1) w fun v25_1 w =>
  C.step (sLookup 63 v25_1 (vs_1.getD 0 undef) false) w fun v27_1 w =>
  C.step (sAlloc 30) w fun v8_1 w =>
  C.step (sStore 30 v8_1 v27_1) w fun vx_2 w =>
  C.step (sFieldAddr 30 v8_1 1) w fun v30_1 w =>
  C.step (sLoad 28 v30_1) w fun v31_1 w =>
  C.calls 25 #[v15_1, (vs_1.getD 0 undef), v31_1] w fun v32_1 w =>
  C.calls 26 #[v15_1, (vs_1.getD 0 undef), v32_1] w fun v36_1 w =>
  C.step (sUn .not v36_1) w fun v37_1 w =>
  C.bool v37_1
  (lock_Table_pass_k1 C a0 a1 v15_1 w Q)
  (C.calls 43 #[v15_1, (vs_1.getD 0 undef)] w fun v40_1 w =>
  C.step (sNil a0) w fun v42_1 w =>
  C.step (sFieldAddr 65 v42_1 1) w fun v43_1 w =>
  C.step (sLoad 63 v43_1) w fun v44_1 w =>
  C.step (sBuiltin .delete #[63, 3] 0 [false, false] [v44_1, (vs_1.getD 0 undef)]) w fun vx_3 w =>
  C.step (sNil v15_1) w fun v47_1 w =>
  C.step (sFieldAddr 69 v47_1 0) w fun v48_1 w =>
  C.step (sLoad 67 v48_1) w fun v49_1 w =>
  C.step (sMapUpdate 67 v49_1 (vs_1.getD 0 undef) v32_1) w fun vx_4 w =>
  C.step (sLoad 30 v8_1) w fun v54_1 w =>
  C.step (sBuild 76 [(0, (vs_1.getD 0 undef)), (1, v54_1)]) w fun v55_1 w =>
  C.step (sCallV a2 [v55_1]) w fun v56_1 w =>
  C.calls 56 #[v15_1] w fun v21_1 w =>
  again_1 [v21_1] w))
  (lock_Table_pass_k1 C a0 a1 v15_1 w Q)
theorem lock_Table_pass_eq (C : Comb) (a0 : Value) (a1 : Value) (a2 : Value) (w : World) (Q : Value → World → Prop) : lock_Table_pass_x C a0 a1 a2 w Q = FunY Try.prog C 2 [] Try.f44 [a0, a1, a2] w Q := by kernel_rfl
theorem lock_Table_pass_sound (a0 : Value) (a1 : Value) (a2 : Value) {w : World} {Q : Value → World → Prop} (h : lock_Table_pass_x (std Try.prog) a0 a1 a2 w Q) : CallsR Try.prog 44 #[a0, a1, a2] w Q :=
  calls_of_funY mixed Try.func44 (Eq.mp (lock_Table_pass_eq _ a0 a1 a2 w Q) h)

def lock_Table_gone_1_x (C : Comb) (a0 : Value) (a1 : Value) (w : World) (Q : Value → World → Prop) : Prop :=
  C.step (sBox 76 a0) w fun v2_1 w =>
  C.step (sLoad 36 a1) w fun v3_1 w =>
  C.step (sLoad 76 v2_1) w fun v4_1 w =>
  C.step (sBuildSlice 36 1 [(0, v4_1)]) w fun v5_1 w =>
  C.step (sBuiltin .append #[36, 36] 36 [false, false] [v3_1, v5_1]) w fun v6_1 w =>
  C.step (sStore 36 a1 v6_1) w fun vx_1 w =>
  Q (.tuple #[]) w
theorem lock_Table_gone_1_eq (C : Comb) (a0 : Value) (a1 : Value) (w : World) (Q : Value → World → Prop) : lock_Table_gone_1_x C a0 a1 w Q = FunY Try.prog C 3 [] Try.f45 [a0, a1] w Q := by kernel_rfl
theorem lock_Table_gone_1_sound (a0 : Value) (a1 : Value) {w : World} {Q : Value → World → Prop} (h : lock_Table_gone_1_x (std Try.prog) a0 a1 w Q) : CallsR Try.prog 45 #[a0, a1] w Q :=
  calls_of_funY mixed Try.func45 (Eq.mp (lock_Table_gone_1_eq _ a0 a1 w Q) h)

def mode_table_x (C : Comb) (w : World) (Q : Value → World → Prop) : Prop :=
  C.step (sAlloc 102) w fun v0_1 w =>
  C.step (sBuild 101 [(0, (.bool true)), (1, (.bool true)), (2, (.bool true)), (3, (.bool true)), (4, (.bool true)), (5, (.bool true))]) w fun v1_1 w =>
  C.step (sBuild 101 [(0, (.bool true)), (1, (.bool true)), (2, (.bool true)), (3, (.bool true)), (4, (.bool true)), (5, (.bool false))]) w fun v2_1 w =>
  C.step (sBuild 101 [(0, (.bool true)), (1, (.bool true)), (2, (.bool true)), (3, (.bool false)), (4, (.bool false)), (5, (.bool false))]) w fun v3_1 w =>
  C.step (sBuild 101 [(0, (.bool true)), (1, (.bool true)), (2, (.bool false)), (3, (.bool true)), (4, (.bool false)), (5, (.bool false))]) w fun v4_1 w =>
  C.step (sBuild 101 [(0, (.bool true)), (1, (.bool true)), (2, (.bool false)), (3, (.bool false)), (4, (.bool false)), (5, (.bool false))]) w fun v5_1 w =>
  C.step (sBuild 101 [(0, (.bool true)), (1, (.bool false)), (2, (.bool false)), (3, (.bool false)), (4, (.bool false)), (5, (.bool false))]) w fun v6_1 w =>
  C.step (sBuild 102 [(0, v1_1), (1, v2_1), (2, v3_1), (3, v4_1), (4, v5_1), (5, v6_1)]) w fun v7_1 w =>
  C.step (sStore 102 v0_1 v7_1) w fun vx_1 w =>
  C.loadR 102 v0_1 w fun r_1 =>
  Q r_1 w
theorem mode_table_eq (C : Comb) (w : World) (Q : Value → World → Prop) : mode_table_x C w Q = FunY Try.prog C 0 [] Try.f53 [] w Q := by kernel_rfl
theorem mode_table_sound {w : World} {Q : Value → World → Prop} (h : mode_table_x (std Try.prog) w Q) : CallsR Try.prog 53 #[] w Q :=
  calls_of_funY mixed Try.func53 (Eq.mp (mode_table_eq _ w Q) h)

def lock_name_leave_1_x (C : Comb) (a0 : Value) (a1 : Value) (w : World) (Q : Value → World → Prop) : Prop :=
  C.step (sLoad 3 a1) w fun v5_1 w =>
  C.step (sBin .eql 3 (.tmp 4) (.tmp 5) a0 v5_1) w fun v6_1 w =>
  Q v6_1 w
theorem lock_name_leave_1_eq (C : Comb) (a0 : Value) (a1 : Value) (w : World) (Q : Value → World → Prop) : lock_name_leave_1_x C a0 a1 w Q = FunY Try.prog C 3 [] Try.f54 [a0, a1] w Q := by kernel_rfl
theorem lock_name_leave_1_sound (a0 : Value) (a1 : Value) {w : World} {Q : Value → World → Prop} (h : lock_name_leave_1_x (std Try.prog) a0 a1 w Q) : CallsR Try.prog 54 #[a0, a1] w Q :=
  calls_of_funY mixed Try.func54 (Eq.mp (lock_name_leave_1_eq _ a0 a1 w Q) h)

def slices_DeleteFunc_int_int_k1 (C : Comb) (a0 : Value) (u5_1 : Value) (w : World) (Q : Value → World → Prop) : Prop :=
  C.step (sSlice 42 a0 (some u5_1) none none) w fun v38_1 w =>
  C.step (sBuiltin .clear #[42] 0 [false] [v38_1]) w fun vx_1 w =>
  C.step (sSlice 42 a0 none (some u5_1) none) w fun v41_1 w =>
  Q v41_1 w
def slices_DeleteFunc_int_int_k2 (C : Comb) (vs_1 : List Value) (again_1 : List Value → World → Prop) (u7_2 : Value) (u5_2 : Value) (w : World) (Q : Value → World → Prop) : Prop :=
  C.step (sBin .add 3 (.tmp 20) (.const (.int .i64 1)) (vs_1.getD 2 undef) (.int .i64 1)) w fun v21_1 w =>
  again_1 [u7_2, u5_2, v21_1] w
def slices_DeleteFunc_int_int_x (C : Comb) (a0 : Value) (a1 : Value) (w : World) (Q : Value → World → Prop) : Prop :=
  C.calls 78 #[a0, a1] w fun v10_1 w =>
  C.step (sBin .eql 3 (.tmp 11) (.const (.int .i64 (-1))) v10_1 (.int .i64 (-1))) w fun v12_1 w =>
  C.bool v12_1
  (Q a0 w)
  (C.step (sBin .add 3 (.tmp 14) (.const (.int .i64 1)) v10_1 (.int .i64 1)) w fun v15_1 w =>
  C.loop [undef, v10_1, v15_1] w fun dv_1 vs_1 w again_1 =>
  C.step (sBuiltin .len #[42] 3 [false] [a0]) w fun v18_1 w =>
  C.step (sBin .lss 3 (.tmp 16) (.tmp 18) (vs_1.getD 2 undef) v18_1) w fun v19_1 w =>
  C.bool v19_1
  (C.step (sIndexAddr 42 a0 (vs_1.getD 2 undef)) w fun v24_1 w =>
  C.step (sLoad 3 v24_1) w fun v25_1 w =>
  C.step (sCallV a1 [v25_1]) w fun v28_1 w =>
  C.step (sUn .not v28_1) w fun v29_1 w =>
  C.bool v29_1
  (C.step (sIndexAddr 42 a0 (vs_1.getD 1 undef)) w fun v33_1 w =>
  C.step (sStore 3 v33_1 v25_1) w fun vx_2 w =>
  C.step (sBin .add 3 (.tmp 34) (.const (.int .i64 1)) (vs_1.getD 1 undef) (.int .i64 1)) w fun v35_1 w =>
  slices_DeleteFunc_int_int_k2 C vs_1 again_1 v25_1 v35_1 w Q)
  (slices_DeleteFunc_int_int_k2 C vs_1 again_1 v25_1 (vs_1.getD 1 undef) w Q))
  (slices_DeleteFunc_int_int_k1 C a0 (vs_1.getD 1 undef) w Q))
theorem slices_DeleteFunc_int_int_eq (C : Comb) (a0 : Value) (a1 : Value) (w : World) (Q : Value → World → Prop) : slices_DeleteFunc_int_int_x C a0 a1 w Q = FunY Try.prog C 8 [] Try.f55 [a0, a1] w Q := by kernel_rfl
theorem slices_DeleteFunc_int_int_sound (a0 : Value) (a1 : Value) {w : World} {Q : Value → World → Prop} (h : slices_DeleteFunc_int_int_x (std Try.prog) a0 a1 w Q) : CallsR Try.prog 55 #[a0, a1] w Q :=
  calls_of_funY mixed Try.func55 (Eq.mp (slices_DeleteFunc_int_int_eq _ a0 a1 w Q) h)

def lock_name_first_x (C : Comb) (a0 : Value) (w : World) (Q : Value → World → Prop) : Prop :=
  C.step (sNil a0) w fun v4_1 w =>
  C.step (sFieldAddr 69 v4_1 1) w fun v5_1 w =>
  C.step (sLoad 42 v5_1) w fun v6_1 w =>
  C.step (sBuiltin .len #[42] 3 [false] [v6_1]) w fun v7_1 w =>
  C.step (sBin .gtr 3 (.tmp 7) (.const (.int .i64 0)) v7_1 (.int .i64 0)) w fun v8_1 w =>
  C.bool v8_1
  (C.step (sNil a0) w fun v10_1 w =>
  C.step (sFieldAddr 69 v10_1 1) w fun v11_1 w =>
  C.step (sLoad 42 v11_1) w fun v12_1 w =>
  C.step (sIndexAddr 42 v12_1 (.int .i64 0)) w fun v13_1 w =>
  C.step (sLoad 3 v13_1) w fun v14_1 w =>
  Q v14_1 w)
  (C.step (sNil a0) w fun v16_1 w =>
  C.step (sFieldAddr 69 v16_1 2) w fun v17_1 w =>
  C.step (sLoad 42 v17_1) w fun v18_1 w =>
  C.step (sBuiltin .len #[42] 3 [false] [v18_1]) w fun v19_1 w =>
  C.step (sBin .gtr 3 (.tmp 19) (.const (.int .i64 0)) v19_1 (.int .i64 0)) w fun v20_1 w =>
  C.bool v20_1
  (C.step (sNil a0) w fun v22_1 w =>
  C.step (sFieldAddr 69 v22_1 2) w fun v23_1 w =>
  C.step (sLoad 42 v23_1) w fun v24_1 w =>
  C.step (sIndexAddr 42 v24_1 (.int .i64 0)) w fun v25_1 w =>
  C.step (sLoad 3 v25_1) w fun v26_1 w =>
  Q v26_1 w)
  (Q (.int .i64 0) w))
theorem lock_name_first_eq (C : Comb) (a0 : Value) (w : World) (Q : Value → World → Prop) : lock_name_first_x C a0 w Q = FunY Try.prog C 2 [] Try.f56 [a0] w Q := by kernel_rfl
theorem lock_name_first_sound (a0 : Value) {w : World} {Q : Value → World → Prop} (h : lock_name_first_x (std Try.prog) a0 w Q) : CallsR Try.prog 56 #[a0] w Q :=
  calls_of_funY mixed Try.func56 (Eq.mp (lock_name_first_eq _ a0 w Q) h)

def slices_IndexFunc_int_int_k1 (C : Comb) (w : World) (Q : Value → World → Prop) : Prop :=
  Q (.int .i64 (-1)) w
def slices_IndexFunc_int_int_x (C : Comb) (a0 : Value) (a1 : Value) (w : World) (Q : Value → World → Prop) : Prop :=
  C.step (sBuiltin .len #[42] 3 [false] [a0]) w fun v7_1 w =>
  C.loop [undef, (.int .i64 0), (.int .i64 0)] w fun dv_1 vs_1 w again_1 =>
  C.step (sBin .lss 3 (.tmp 8) (.tmp 7) (vs_1.getD 2 undef) v7_1) w fun v9_1 w =>
  C.bool v9_1
  (C.step (sIndexAddr 42 a0 (vs_1.getD 2 undef)) w fun v14_1 w =>
  C.step (sLoad 3 v14_1) w fun v15_1 w =>
  C.step (sCallV a1 [v15_1]) w fun v16_1 w =>
  C.bool v16_1
  (Q (vs_1.getD 2 undef) w)
  (C.step (sBin .add 3 (.tmp 8) (.const (.int .i64 1)) (vs_1.getD 2 undef) (.int .i64 1)) w fun v18_1 w =>
  again_1 [(vs_1.getD 2 undef), (vs_1.getD 1 undef), v18_1] w))
  (slices_IndexFunc_int_int_k1 C w Q)
theorem slices_IndexFunc_int_int_eq (C : Comb) (a0 : Value) (a1 : Value) (w : World) (Q : Value → World → Prop) : slices_IndexFunc_int_int_x C a0 a1 w Q = FunY Try.prog C 6 [] Try.f78 [a0, a1] w Q := by kernel_rfl
theorem slices_IndexFunc_int_int_sound (a0 : Value) (a1 : Value) {w : World} {Q : Value → World → Prop} (h : slices_IndexFunc_int_int_x (std Try.prog) a0 a1 w Q) : CallsR Try.prog 78 #[a0, a1] w Q :=
  calls_of_funY mixed Try.func78 (Eq.mp (slices_IndexFunc_int_int_eq _ a0 a1 w Q) h)

end Go.Proofs.Ytakifgecgmdjcaa
