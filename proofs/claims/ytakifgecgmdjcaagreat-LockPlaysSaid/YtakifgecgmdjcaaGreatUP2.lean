/- Texts of this work, put together: D, Rf. -/
import Derived.Test.YtakifgecgmdjcaaGreatUP1
import Derived.Test.YtakifgecgmdjcaaGreatProg
import Derived.KernelRfl
import Derived.WalkKit
import Derived.Maps.AppendAt
/- Functions of the program, read as statements without slots. Written by a program of this work. -/
namespace Go.Proofs.YtakifgecgmdjcaaGreat
open Go Xf
set_option maxRecDepth 100000
set_option linter.unusedVariables false

theorem mixed : Tryz.prog.follows .mixedOrders = true := by kernel_rfl

def flotillalaw13_LockPlays_k1 (C : Comb) (v7_1 : Value) (w : World) (Q : Value → World → Prop) : Prop :=
  C.step (sBin .neq 23 (.tmp 61) (.const (.pointer none)) v7_1 (.pointer none)) w fun v62_1 w =>
  C.bool v62_1
  (C.calls 8 #[] w fun v64_1 w =>
  Q v64_1 w)
  (Q (.bool false) w)
def flotillalaw13_LockPlays_k2 (C : Comb) (v7_1 : Value) (w : World) (Q : Value → World → Prop) : Prop :=
  flotillalaw13_LockPlays_k1 C v7_1 w Q
def flotillalaw13_LockPlays_k3 (C : Comb) (w : World) (Q : Value → World → Prop) : Prop :=
  Q (.bool false) w
def flotillalaw13_LockPlays_x (C : Comb) (a0 : Value) (w : World) (Q : Value → World → Prop) : Prop :=
  C.calls 6 #[] w fun v7_1 w =>
  C.step (sBuild 27 []) w fun v8_1 w =>
  C.step (sAlloc 27) w fun v4_1 w =>
  C.step (sStore 27 v4_1 v8_1) w fun vx_1 w =>
  C.loop [(.int .i64 0)] w fun dv_1 vs_1 w again_1 =>
  C.step (sBuiltin .len #[22] 3 [false] [a0]) w fun v11_1 w =>
  C.step (sBin .lss 3 (.tmp 9) (.tmp 11) (vs_1.getD 0 undef) v11_1) w fun v12_1 w =>
  C.bool v12_1
  (C.step (sBin .lss 3 (.tmp 14) (.const (.int .i64 60)) (vs_1.getD 0 undef) (.int .i64 60)) w fun v15_1 w =>
  C.bool v15_1
  (C.step (sBin .neq 23 (.tmp 18) (.const (.pointer none)) v7_1 (.pointer none)) w fun v19_1 w =>
  C.bool v19_1
  (C.step (sIndexAddr 22 a0 (vs_1.getD 0 undef)) w fun v25_1 w =>
  C.step (sLoad 33 v25_1) w fun v26_1 w =>
  C.calls 7 #[v26_1] w fun v27_1 w =>
  C.step (sUn .not v27_1) w fun v28_1 w =>
  C.bool v28_1
  (C.calls 8 #[] w fun v29_1 w =>
  Q v29_1 w)
  (C.draw w fun S_1 w =>
  C.stepS S_1 (sLoad 27 v4_1) fun v32_1 =>
  C.stepS S_1 (sIndexAddr 22 a0 (vs_1.getD 0 undef)) fun v35_1 =>
  C.stepS S_1 (sLoad 33 v35_1) fun v36_1 =>
  C.calls 9 #[v7_1, v32_1, v36_1] w fun v37_1 w =>
  C.keepT w fun S_2 =>
  C.stepS S_2 (sExtract v37_1 0) fun v38_1 =>
  C.stepS S_2 (sExtract v37_1 1) fun v39_1 =>
  C.step (sStore 27 v4_1 v38_1) w fun vx_2 w =>
  C.keepS S_2 w fun S_3 =>
  C.draw w fun S_4 w =>
  C.stepS S_4 (sUn .not v39_1) fun v41_1 =>
  C.bool v41_1
  (flotillalaw13_LockPlays_k3 C w Q)
  (C.stepS S_4 (sLoad 27 v4_1) fun v44_1 =>
  C.stepS S_4 (sIndexAddr 22 a0 (vs_1.getD 0 undef)) fun v47_1 =>
  C.stepS S_4 (sFieldAddr 33 v47_1 1) fun v48_1 =>
  C.stepS S_4 (sLoad 3 v48_1) fun v49_1 =>
  C.calls 10 #[v7_1, v44_1, v49_1] w fun v50_1 w =>
  C.keepT w fun S_5 =>
  C.stepS S_5 (sUn .not v50_1) fun v51_1 =>
  C.bool v51_1
  (flotillalaw13_LockPlays_k3 C w Q)
  (C.stepS S_5 (sLoad 27 v4_1) fun v56_1 =>
  C.calls 12 #[v7_1] w fun v55_1 w =>
  C.keepS S_5 w fun S_6 =>
  C.calls 13 #[v56_1] w fun v57_1 w =>
  C.keepT w fun S_7 =>
  C.calls 11 #[v55_1, v57_1] w fun v58_1 w =>
  C.keepT w fun S_8 =>
  C.stepS S_8 (sUn .not v58_1) fun v59_1 =>
  C.bool v59_1
  (Q (.bool false) w)
  (C.step (sBin .add 3 (.tmp 21) (.const (.int .i64 1)) (vs_1.getD 0 undef) (.int .i64 1)) w fun v22_1 w =>
  again_1 [v22_1] w)))))
  (flotillalaw13_LockPlays_k1 C v7_1 w Q))
  (flotillalaw13_LockPlays_k2 C v7_1 w Q))
  (flotillalaw13_LockPlays_k2 C v7_1 w Q)
theorem flotillalaw13_LockPlays_eq (C : Comb) (a0 : Value) (w : World) (Q : Value → World → Prop) : flotillalaw13_LockPlays_x C a0 w Q = FunY Tryz.prog C 2 [] Tryz.f3 [a0] w Q := by kernel_rfl
theorem flotillalaw13_LockPlays_sound (a0 : Value) {w : World} {Q : Value → World → Prop} (h : flotillalaw13_LockPlays_x (std Tryz.prog) a0 w Q) : CallsR Tryz.prog 3 #[a0] w Q :=
  calls_of_funY mixed Tryz.func3 (Eq.mp (flotillalaw13_LockPlays_eq _ a0 w Q) h)

def flotillalaw13_LockEnds_k1 (C : Comb) (w : World) (Q : Value → World → Prop) : Prop :=
  Q (.bool false) w
def flotillalaw13_LockEnds_k5 (C : Comb) (v19_1 : Value) (vs_1 : List Value) (again_1 : List Value → World → Prop) (v27_1 : Value) (u6_2 : Value) (u7_2 : Value) (u13_4 : Value) (u2_5 : Value) (w : World) (Q : Value → World → Prop) : Prop :=
  C.calls 15 #[v19_1] w fun v126_1 w =>
  C.calls 20 #[v126_1, u13_4] w fun v128_1 w =>
  C.bool v128_1
  (Q (.bool false) w)
  (C.step (sBin .add 3 (.tmp 24) (.const (.int .i64 1)) (vs_1.getD 4 undef) (.int .i64 1)) w fun v25_1 w =>
  again_1 [v27_1, u6_2, u7_2, u2_5, v25_1] w)
def flotillalaw13_LockEnds_k6 (C : Comb) (w : World) (Q : Value → World → Prop) : Prop :=
  Q (.bool false) w
def flotillalaw13_LockEnds_k4 (C : Comb) (v19_1 : Value) (vs_1 : List Value) (again_1 : List Value → World → Prop) (v27_1 : Value) (u6_2 : Value) (u7_2 : Value) (u2_3 : Value) (u13_4 : Value) (w : World) (Q : Value → World → Prop) : Prop :=
  C.calls 18 #[v19_1, u13_4] w fun v82_1 w =>
  C.loop [u2_3, (.int .i64 0)] w fun dv_2 vs_2 w again_2 =>
  C.step (sBuiltin .len #[50] 3 [false] [v82_1]) w fun v85_1 w =>
  C.step (sBin .lss 3 (.tmp 83) (.tmp 85) (vs_2.getD 1 undef) v85_1) w fun v86_1 w =>
  C.bool v86_1
  (C.step (sIndexAddr 50 v82_1 (vs_2.getD 1 undef)) w fun v93_1 w =>
  C.step (sFieldAddr 53 v93_1 0) w fun v94_1 w =>
  C.step (sLoad 3 v94_1) w fun v95_1 w =>
  C.calls 17 #[v19_1, v95_1] w fun v96_1 w =>
  C.step (sExtract v96_1 0) w fun v97_1 w =>
  C.step (sExtract v96_1 1) w fun v98_1 w =>
  C.step (sAlloc 31) w fun v16_1 w =>
  C.step (sStore 31 v16_1 v97_1) w fun vx_1 w =>
  C.draw w fun S_1 w =>
  C.stepS S_1 (sIndexAddr 50 v82_1 (vs_2.getD 1 undef)) fun v101_1 =>
  C.stepS S_1 (sFieldAddr 53 v101_1 0) fun v102_1 =>
  C.stepS S_1 (sLoad 3 v102_1) fun v103_1 =>
  C.stepS S_1 (sBin .eql 3 (.tmp 103) (.tmp 104) v103_1 u13_4) fun v105_1 =>
  C.bool v105_1
  (flotillalaw13_LockEnds_k6 C w Q)
  (C.bool v98_1
  (flotillalaw13_LockEnds_k6 C w Q)
  (C.stepS S_1 (sIndexAddr 50 v82_1 (vs_2.getD 1 undef)) fun v113_1 =>
  C.stepS S_1 (sFieldAddr 53 v113_1 0) fun v114_1 =>
  C.stepS S_1 (sLoad 3 v114_1) fun v115_1 =>
  C.stepS S_1 (sIndexAddr 50 v82_1 (vs_2.getD 1 undef)) fun v118_1 =>
  C.stepS S_1 (sFieldAddr 53 v118_1 1) fun v119_1 =>
  C.stepS S_1 (sFieldAddr 31 v119_1 0) fun v120_1 =>
  C.stepS S_1 (sLoad 9 v120_1) fun v121_1 =>
  C.calls 19 #[v19_1, v115_1, v121_1] w fun v122_1 w =>
  C.keepT w fun S_2 =>
  C.stepS S_2 (sUn .not v122_1) fun v123_1 =>
  C.bool v123_1
  (Q (.bool false) w)
  (C.step (sBin .add 3 (.tmp 87) (.const (.int .i64 1)) (vs_2.getD 1 undef) (.int .i64 1)) w fun v88_1 w =>
  again_2 [(vs_2.getD 0 undef), v88_1] w))))
  (flotillalaw13_LockEnds_k5 C v19_1 vs_1 again_1 v27_1 u6_2 u7_2 u13_4 (vs_2.getD 0 undef) w Q)
def flotillalaw13_LockEnds_k3 (C : Comb) (v19_1 : Value) (vs_1 : List Value) (again_1 : List Value → World → Prop) (v27_1 : Value) (u6_2 : Value) (u7_2 : Value) (u2_3 : Value) (w : World) (Q : Value → World → Prop) : Prop :=
  C.step (sBin .eql 3 (.tmp 77) (.const (.int .i64 0)) u6_2 (.int .i64 0)) w fun v78_1 w =>
  C.bool v78_1
  (flotillalaw13_LockEnds_k4 C v19_1 vs_1 again_1 v27_1 u6_2 u7_2 u2_3 u7_2 w Q)
  (flotillalaw13_LockEnds_k4 C v19_1 vs_1 again_1 v27_1 u6_2 u7_2 u2_3 u6_2 w Q)
def flotillalaw13_LockEnds_k2 (C : Comb) (v19_1 : Value) (vs_1 : List Value) (again_1 : List Value → World → Prop) (v27_1 : Value) (u6_2 : Value) (u7_2 : Value) (w : World) (Q : Value → World → Prop) : Prop :=
  C.step (sBin .eql 3 (.tmp 70) (.const (.int .i64 0)) u6_2 (.int .i64 0)) w fun v71_1 w =>
  C.bool v71_1
  (C.step (sBin .eql 3 (.tmp 73) (.const (.int .i64 0)) u7_2 (.int .i64 0)) w fun v74_1 w =>
  C.bool v74_1
  (Q (.bool false) w)
  (flotillalaw13_LockEnds_k3 C v19_1 vs_1 again_1 v27_1 u6_2 u7_2 (vs_1.getD 3 undef) w Q))
  (flotillalaw13_LockEnds_k3 C v19_1 vs_1 again_1 v27_1 u6_2 u7_2 (vs_1.getD 3 undef) w Q)
def flotillalaw13_LockEnds_k7 (C : Comb) (vs_3 : List Value) (again_3 : List Value → World → Prop) (u6_7 : Value) (u7_7 : Value) (w : World) (Q : Value → World → Prop) : Prop :=
  C.step (sBin .add 3 (.tmp 42) (.const (.int .i64 1)) (vs_3.getD 2 undef) (.int .i64 1)) w fun v43_1 w =>
  again_3 [u6_7, u7_7, v43_1] w
def flotillalaw13_LockEnds_k8 (C : Comb) (v19_1 : Value) (v27_1 : Value) (vs_3 : List Value) (again_3 : List Value → World → Prop) (u6_8 : Value) (w : World) (Q : Value → World → Prop) : Prop :=
  C.step (sIndexAddr 44 v27_1 (vs_3.getD 2 undef)) w fun v59_1 w =>
  C.step (sLoad 3 v59_1) w fun v60_1 w =>
  C.calls 17 #[v19_1, v60_1] w fun v61_1 w =>
  C.step (sExtract v61_1 0) w fun v62_1 w =>
  C.step (sExtract v61_1 1) w fun v63_1 w =>
  C.step (sAlloc 31) w fun v11_1 w =>
  C.step (sStore 31 v11_1 v62_1) w fun vx_2 w =>
  C.step (sUn .not v63_1) w fun v65_1 w =>
  C.bool v65_1
  (C.step (sIndexAddr 44 v27_1 (vs_3.getD 2 undef)) w fun v68_1 w =>
  C.step (sLoad 3 v68_1) w fun v69_1 w =>
  flotillalaw13_LockEnds_k7 C vs_3 again_3 u6_8 v69_1 w Q)
  (flotillalaw13_LockEnds_k7 C vs_3 again_3 u6_8 (vs_3.getD 1 undef) w Q)
def flotillalaw13_LockEnds_x (C : Comb) (a0 : Value) (w : World) (Q : Value → World → Prop) : Prop :=
  C.calls 14 #[a0] w fun v19_1 w =>
  C.step (sBin .eql 23 (.tmp 20) (.const (.pointer none)) v19_1 (.pointer none)) w fun v21_1 w =>
  C.bool v21_1
  (Q (.bool false) w)
  (C.loop [undef, undef, undef, (.bool false), (.int .i64 0)] w fun dv_1 vs_1 w again_1 =>
  C.step (sBin .leq 3 (.tmp 22) (.const (.int .i64 200)) (vs_1.getD 4 undef) (.int .i64 200)) w fun v23_1 w =>
  C.bool v23_1
  (C.calls 15 #[v19_1] w fun v27_1 w =>
  C.step (sBuiltin .len #[44] 3 [false] [v27_1]) w fun v29_1 w =>
  C.step (sBin .eql 3 (.tmp 29) (.const (.int .i64 0)) v29_1 (.int .i64 0)) w fun v30_1 w =>
  C.bool v30_1
  (C.calls 12 #[v19_1] w fun v32_1 w =>
  C.step (sBuiltin .len #[39] 3 [false] [v32_1]) w fun v33_1 w =>
  C.step (sBin .eql 3 (.tmp 33) (.const (.int .i64 0)) v33_1 (.int .i64 0)) w fun v34_1 w =>
  C.bool v34_1
  (C.calls 8 #[] w fun v36_1 w =>
  Q v36_1 w)
  (Q (.bool false) w))
  (C.loop [(.int .i64 0), (.int .i64 0), (.int .i64 0)] w fun dv_3 vs_3 w again_3 =>
  C.step (sBuiltin .len #[44] 3 [false] [v27_1]) w fun v40_1 w =>
  C.step (sBin .lss 3 (.tmp 38) (.tmp 40) (vs_3.getD 2 undef) v40_1) w fun v41_1 w =>
  C.bool v41_1
  (C.step (sIndexAddr 44 v27_1 (vs_3.getD 2 undef)) w fun v48_1 w =>
  C.step (sLoad 3 v48_1) w fun v49_1 w =>
  C.calls 16 #[v19_1, v49_1] w fun v50_1 w =>
  C.step (sExtract v50_1 0) w fun v51_1 w =>
  C.step (sExtract v50_1 1) w fun v52_1 w =>
  C.bool v52_1
  (flotillalaw13_LockEnds_k8 C v19_1 v27_1 vs_3 again_3 v51_1 w Q)
  (flotillalaw13_LockEnds_k8 C v19_1 v27_1 vs_3 again_3 (vs_3.getD 0 undef) w Q))
  (flotillalaw13_LockEnds_k2 C v19_1 vs_1 again_1 v27_1 (vs_3.getD 0 undef) (vs_3.getD 1 undef) w Q)))
  (flotillalaw13_LockEnds_k1 C w Q))
theorem flotillalaw13_LockEnds_eq (C : Comb) (a0 : Value) (w : World) (Q : Value → World → Prop) : flotillalaw13_LockEnds_x C a0 w Q = FunY Tryz.prog C 8 [] Tryz.f4 [a0] w Q := by kernel_rfl
theorem flotillalaw13_LockEnds_sound (a0 : Value) {w : World} {Q : Value → World → Prop} (h : flotillalaw13_LockEnds_x (std Tryz.prog) a0 w Q) : CallsR Tryz.prog 4 #[a0] w Q :=
  calls_of_funY mixed Tryz.func4 (Eq.mp (flotillalaw13_LockEnds_eq _ a0 w Q) h)

def flotillalaw13_LockNils_k1 (C : Comb) (w : World) (Q : Value → World → Prop) : Prop :=
  Q (.bool false) w
def flotillalaw13_LockNils_k2 (C : Comb) (w : World) (Q : Value → World → Prop) : Prop :=
  Q (.bool false) w
def flotillalaw13_LockNils_x (C : Comb) (a0 : Value) (a1 : Value) (w : World) (Q : Value → World → Prop) : Prop :=
  C.step (sBox 33 a1) w fun v3_1 w =>
  C.step (sBuild 31 [(0, (.string ⟨#[97]⟩)), (1, (.int .i64 3))]) w fun v18_1 w =>
  C.calls 21 #[(.pointer none), (.int .i64 1), v18_1] w fun v19_1 w =>
  C.step (sExtract v19_1 0) w fun v20_1 w =>
  C.step (sExtract v19_1 1) w fun v21_1 w =>
  C.calls 17 #[(.pointer none), (.int .i64 1)] w fun v24_1 w =>
  C.step (sExtract v24_1 0) w fun v25_1 w =>
  C.step (sExtract v24_1 1) w fun v26_1 w =>
  C.step (sAlloc 31) w fun v8_1 w =>
  C.step (sStore 31 v8_1 v25_1) w fun vx_1 w =>
  C.calls 16 #[(.pointer none), (.int .i64 1)] w fun v29_1 w =>
  C.step (sExtract v29_1 0) w fun v30_1 w =>
  C.step (sExtract v29_1 1) w fun v31_1 w =>
  C.bool v20_1
  (flotillalaw13_LockNils_k1 C w Q)
  (C.step (sBin .neq 56 (.tmp 34) (.const (.int .i64 1)) v21_1 (.int .i64 1)) w fun v35_1 w =>
  C.bool v35_1
  (flotillalaw13_LockNils_k1 C w Q)
  (C.bool v26_1
  (flotillalaw13_LockNils_k1 C w Q)
  (C.bool v31_1
  (flotillalaw13_LockNils_k1 C w Q)
  (C.calls 18 #[(.pointer none), (.int .i64 1)] w fun v46_1 w =>
  C.step (sBuiltin .len #[50] 3 [false] [v46_1]) w fun v47_1 w =>
  C.step (sBin .add 3 (.tmp 44) (.tmp 47) v30_1 v47_1) w fun v48_1 w =>
  C.calls 22 #[(.pointer none), (.int .i64 1)] w fun v50_1 w =>
  C.step (sBuiltin .len #[50] 3 [false] [v50_1]) w fun v51_1 w =>
  C.step (sBin .add 3 (.tmp 48) (.tmp 51) v48_1 v51_1) w fun v52_1 w =>
  C.calls 23 #[(.pointer none), (.int .i64 1)] w fun v54_1 w =>
  C.step (sBuiltin .len #[59] 3 [false] [v54_1]) w fun v55_1 w =>
  C.step (sBin .add 3 (.tmp 52) (.tmp 55) v52_1 v55_1) w fun v56_1 w =>
  C.calls 12 #[(.pointer none)] w fun v58_1 w =>
  C.step (sBuiltin .len #[39] 3 [false] [v58_1]) w fun v59_1 w =>
  C.step (sBin .add 3 (.tmp 56) (.tmp 59) v56_1 v59_1) w fun v60_1 w =>
  C.calls 15 #[(.pointer none)] w fun v62_1 w =>
  C.step (sBuiltin .len #[44] 3 [false] [v62_1]) w fun v63_1 w =>
  C.step (sBin .add 3 (.tmp 60) (.tmp 63) v60_1 v63_1) w fun v64_1 w =>
  C.step (sBin .neq 3 (.tmp 64) (.const (.int .i64 0)) v64_1 (.int .i64 0)) w fun v65_1 w =>
  C.bool v65_1
  (Q (.bool false) w)
  (C.calls 14 #[a0] w fun v68_1 w =>
  C.step (sBin .eql 23 (.tmp 69) (.const (.pointer none)) v68_1 (.pointer none)) w fun v70_1 w =>
  C.bool v70_1
  (C.step (sBin .neq 23 (.tmp 76) (.const (.pointer none)) v68_1 (.pointer none)) w fun v77_1 w =>
  C.bool v77_1
  (C.calls 8 #[] w fun v79_1 w =>
  Q v79_1 w)
  (Q (.bool false) w))
  (C.step (sLoad 33 v3_1) w fun v72_1 w =>
  C.calls 7 #[v72_1] w fun v73_1 w =>
  C.step (sUn .not v73_1) w fun v74_1 w =>
  C.bool v74_1
  (C.step (sBin .neq 23 (.tmp 76) (.const (.pointer none)) v68_1 (.pointer none)) w fun v77_2 w =>
  C.bool v77_2
  (C.calls 8 #[] w fun v79_2 w =>
  Q v79_2 w)
  (Q (.bool false) w))
  (C.draw w fun S_1 w =>
  C.stepS S_1 (sFieldAddr 33 v3_1 1) fun v86_1 =>
  C.stepS S_1 (sLoad 3 v86_1) fun v87_1 =>
  C.calls 12 #[v68_1] w fun v82_1 w =>
  C.keepS S_1 w fun S_2 =>
  C.calls 15 #[v68_1] w fun v84_1 w =>
  C.keepS S_2 w fun S_3 =>
  C.calls 23 #[v68_1, v87_1] w fun v88_1 w =>
  C.keepT w fun S_4 =>
  C.step (sFieldAddr 33 v3_1 1) w fun v91_1 w =>
  C.step (sLoad 3 v91_1) w fun v92_1 w =>
  C.step (sFieldAddr 33 v3_1 2) w fun v93_1 w =>
  C.step (sLoad 31 v93_1) w fun v94_1 w =>
  C.calls 21 #[v68_1, v92_1, v94_1] w fun v95_1 w =>
  C.step (sExtract v95_1 0) w fun v96_1 w =>
  C.step (sExtract v95_1 1) w fun v97_1 w =>
  C.step (sBin .eql 56 (.tmp 98) (.const (.int .i64 0)) v97_1 (.int .i64 0)) w fun v99_1 w =>
  C.bool v99_1
  (C.calls 8 #[] w fun v100_1 w =>
  Q v100_1 w)
  (C.step (sUn .not v96_1) w fun v102_1 w =>
  C.bool v102_1
  (C.calls 12 #[v68_1] w fun v105_1 w =>
  C.calls 11 #[v105_1, v82_1] w fun v107_1 w =>
  C.bool v107_1
  (C.calls 15 #[v68_1] w fun v111_1 w =>
  C.calls 24 #[v111_1, v84_1] w fun v113_1 w =>
  C.bool v113_1
  (C.step (sFieldAddr 33 v3_1 1) w fun v117_1 w =>
  C.step (sLoad 3 v117_1) w fun v118_1 w =>
  C.calls 23 #[v68_1, v118_1] w fun v119_1 w =>
  C.calls 25 #[v119_1, v88_1] w fun v121_1 w =>
  C.bool v121_1
  (C.calls 8 #[] w fun v124_1 w =>
  Q v124_1 w)
  (flotillalaw13_LockNils_k2 C w Q))
  (flotillalaw13_LockNils_k2 C w Q))
  (flotillalaw13_LockNils_k2 C w Q))
  (flotillalaw13_LockNils_k2 C w Q)))))))))
theorem flotillalaw13_LockNils_eq (C : Comb) (a0 : Value) (a1 : Value) (w : World) (Q : Value → World → Prop) : flotillalaw13_LockNils_x C a0 a1 w Q = FunY Tryz.prog C 2 [] Tryz.f5 [a0, a1] w Q := by kernel_rfl
theorem flotillalaw13_LockNils_sound (a0 : Value) (a1 : Value) {w : World} {Q : Value → World → Prop} (h : flotillalaw13_LockNils_x (std Tryz.prog) a0 a1 w Q) : CallsR Tryz.prog 5 #[a0, a1] w Q :=
  calls_of_funY mixed Tryz.func5 (Eq.mp (flotillalaw13_LockNils_eq _ a0 a1 w Q) h)

def lock_New_x (C : Comb) (w : World) (Q : Value → World → Prop) : Prop :=
  C.step (sMakeMap 64 none) w fun v1_1 w =>
  C.step (sMakeMap 65 none) w fun v2_1 w =>
  C.step (sBuild 67 [(0, v1_1), (1, v2_1)]) w fun v3_1 w =>
  C.step (sBox 67 v3_1) w fun v4_1 w =>
  Q v4_1 w
theorem lock_New_eq (C : Comb) (w : World) (Q : Value → World → Prop) : lock_New_x C w Q = FunY Tryz.prog C 0 [] Tryz.f6 [] w Q := by kernel_rfl
theorem lock_New_sound {w : World} {Q : Value → World → Prop} (h : lock_New_x (std Tryz.prog) w Q) : CallsR Tryz.prog 6 #[] w Q :=
  calls_of_funY mixed Tryz.func6 (Eq.mp (lock_New_eq _ w Q) h)

def flotillalaw13_short_x (C : Comb) (a0 : Value) (w : World) (Q : Value → World → Prop) : Prop :=
  C.step (sBox 33 a0) w fun v1_1 w =>
  C.step (sFieldAddr 33 v1_1 2) w fun v3_1 w =>
  C.step (sFieldAddr 31 v3_1 0) w fun v4_1 w =>
  C.step (sLoad 9 v4_1) w fun v5_1 w =>
  C.step (sBuiltin .len #[9] 3 [false] [v5_1]) w fun v6_1 w =>
  C.step (sBin .leq 3 (.tmp 6) (.const (.int .i64 1000)) v6_1 (.int .i64 1000)) w fun v7_1 w =>
  Q v7_1 w
theorem flotillalaw13_short_eq (C : Comb) (a0 : Value) (w : World) (Q : Value → World → Prop) : flotillalaw13_short_x C a0 w Q = FunY Tryz.prog C 2 [] Tryz.f7 [a0] w Q := by kernel_rfl
theorem flotillalaw13_short_sound (a0 : Value) {w : World} {Q : Value → World → Prop} (h : flotillalaw13_short_x (std Tryz.prog) a0 w Q) : CallsR Tryz.prog 7 #[a0] w Q :=
  calls_of_funY mixed Tryz.func7 (Eq.mp (flotillalaw13_short_eq _ a0 w Q) h)

def flotillalaw13_lives_k1 (C : Comb) (w : World) (Q : Value → World → Prop) : Prop :=
  Q (.bool false) w
def flotillalaw13_lives_x (C : Comb) (w : World) (Q : Value → World → Prop) : Prop :=
  C.calls 6 #[] w fun v9_1 w =>
  C.step (sBin .eql 23 (.tmp 10) (.const (.pointer none)) v9_1 (.pointer none)) w fun v11_1 w =>
  C.bool v11_1
  (Q (.bool false) w)
  (C.step (sBuild 31 [(0, (.string ⟨#[97]⟩)), (1, (.int .i64 3))]) w fun v14_1 w =>
  C.calls 21 #[v9_1, (.int .i64 1), v14_1] w fun v15_1 w =>
  C.step (sExtract v15_1 0) w fun v16_1 w =>
  C.step (sExtract v15_1 1) w fun v17_1 w =>
  C.step (sBuild 31 [(0, (.string ⟨#[97]⟩)), (1, (.int .i64 5))]) w fun v20_1 w =>
  C.calls 21 #[v9_1, (.int .i64 2), v20_1] w fun v21_1 w =>
  C.step (sExtract v21_1 0) w fun v22_1 w =>
  C.step (sExtract v21_1 1) w fun v23_1 w =>
  C.step (sBuild 31 [(0, (.string ⟨#[97]⟩)), (1, (.int .i64 3))]) w fun v26_1 w =>
  C.calls 21 #[v9_1, (.int .i64 3), v26_1] w fun v27_1 w =>
  C.step (sExtract v27_1 0) w fun v28_1 w =>
  C.step (sExtract v27_1 1) w fun v29_1 w =>
  C.calls 18 #[v9_1, (.int .i64 1)] w fun v31_1 w =>
  C.bool v16_1
  (C.step (sUn .not v22_1) w fun v35_1 w =>
  C.bool v35_1
  (C.step (sUn .not v28_1) w fun v39_1 w =>
  C.bool v39_1
  (C.step (sBin .eql 56 (.tmp 42) (.const (.int .i64 0)) v17_1 (.int .i64 0)) w fun v43_1 w =>
  C.bool v43_1
  (C.step (sBin .eql 56 (.tmp 46) (.const (.int .i64 0)) v23_1 (.int .i64 0)) w fun v47_1 w =>
  C.bool v47_1
  (C.step (sBin .eql 56 (.tmp 50) (.const (.int .i64 0)) v29_1 (.int .i64 0)) w fun v51_1 w =>
  C.bool v51_1
  (C.step (sBuiltin .len #[50] 3 [false] [v31_1]) w fun v55_1 w =>
  C.step (sBin .eql 3 (.tmp 55) (.const (.int .i64 1)) v55_1 (.int .i64 1)) w fun v56_1 w =>
  C.bool v56_1
  (C.step (sIndexAddr 50 v31_1 (.int .i64 0)) w fun v60_1 w =>
  C.step (sFieldAddr 53 v60_1 0) w fun v61_1 w =>
  C.step (sLoad 3 v61_1) w fun v62_1 w =>
  C.step (sBin .eql 3 (.tmp 62) (.const (.int .i64 2)) v62_1 (.int .i64 2)) w fun v63_1 w =>
  C.bool v63_1
  (C.step (sIndexAddr 50 v31_1 (.int .i64 0)) w fun v67_1 w =>
  C.step (sFieldAddr 53 v67_1 1) w fun v68_1 w =>
  C.step (sFieldAddr 31 v68_1 1) w fun v69_1 w =>
  C.step (sLoad 29 v69_1) w fun v70_1 w =>
  C.step (sBin .eql 29 (.tmp 70) (.const (.int .i64 5)) v70_1 (.int .i64 5)) w fun v71_1 w =>
  Q v71_1 w)
  (flotillalaw13_lives_k1 C w Q))
  (flotillalaw13_lives_k1 C w Q))
  (flotillalaw13_lives_k1 C w Q))
  (flotillalaw13_lives_k1 C w Q))
  (flotillalaw13_lives_k1 C w Q))
  (flotillalaw13_lives_k1 C w Q))
  (flotillalaw13_lives_k1 C w Q))
  (flotillalaw13_lives_k1 C w Q))
theorem flotillalaw13_lives_eq (C : Comb) (w : World) (Q : Value → World → Prop) : flotillalaw13_lives_x C w Q = FunY Tryz.prog C 2 [] Tryz.f8 [] w Q := by kernel_rfl
theorem flotillalaw13_lives_sound {w : World} {Q : Value → World → Prop} (h : flotillalaw13_lives_x (std Tryz.prog) w Q) : CallsR Tryz.prog 8 #[] w Q :=
  calls_of_funY mixed Tryz.func8 (Eq.mp (flotillalaw13_lives_eq _ w Q) h)

def flotillalaw13_step_x (C : Comb) (a0 : Value) (a1 : Value) (a2 : Value) (w : World) (Q : Value → World → Prop) : Prop :=
  C.step (sBox 27 a1) w fun v4_1 w =>
  C.step (sBox 33 a2) w fun v5_1 w =>
  C.step (sAlloc 27) w fun v6_1 w =>
  C.step (sFieldAddr 33 v5_1 0) w fun v17_1 w =>
  C.step (sLoad 3 v17_1) w fun v18_1 w =>
  C.step (sBin .eql 3 (.tmp 18) (.const (.int .i64 0)) v18_1 (.int .i64 0)) w fun v20_1 w =>
  C.bool v20_1
  (C.step (sLoad 27 v4_1) w fun v22_1 w =>
  C.step (sFieldAddr 33 v5_1 1) w fun v23_1 w =>
  C.step (sLoad 3 v23_1) w fun v24_1 w =>
  C.step (sFieldAddr 33 v5_1 2) w fun v25_1 w =>
  C.step (sLoad 31 v25_1) w fun v26_1 w =>
  C.calls 26 #[v22_1, v24_1, v26_1] w fun v27_1 w =>
  C.step (sExtract v27_1 0) w fun v28_1 w =>
  C.step (sExtract v27_1 1) w fun v29_1 w =>
  C.step (sExtract v27_1 2) w fun v30_1 w =>
  C.step (sAlloc 27) w fun v8_1 w =>
  C.step (sStore 27 v8_1 v28_1) w fun vx_1 w =>
  C.step (sFieldAddr 33 v5_1 1) w fun v33_1 w =>
  C.step (sLoad 3 v33_1) w fun v34_1 w =>
  C.step (sFieldAddr 33 v5_1 2) w fun v35_1 w =>
  C.step (sLoad 31 v35_1) w fun v36_1 w =>
  C.calls 21 #[a0, v34_1, v36_1] w fun v37_1 w =>
  C.step (sExtract v37_1 0) w fun v38_1 w =>
  C.step (sExtract v37_1 1) w fun v39_1 w =>
  C.step (sLoad 27 v8_1) w fun v40_1 w =>
  C.step (sBin .eql 4 (.tmp 41) (.tmp 42) v29_1 v38_1) w fun v43_1 w =>
  C.bool v43_1
  (C.step (sBin .eql 56 (.tmp 45) (.tmp 46) v30_1 v39_1) w fun v47_1 w =>
  C.step (sStore 27 v6_1 v40_1) w fun vx_2 w =>
  C.loadR 27 v6_1 w fun r_1 =>
  Q (.tuple #[r_1, v47_1]) w)
  (C.step (sStore 27 v6_1 v40_1) w fun vx_3 w =>
  C.loadR 27 v6_1 w fun r_2 =>
  Q (.tuple #[r_2, (.bool false)]) w))
  (C.step (sBin .eql 3 (.tmp 18) (.const (.int .i64 1)) v18_1 (.int .i64 1)) w fun v50_1 w =>
  C.bool v50_1
  (C.step (sLoad 27 v4_1) w fun v52_1 w =>
  C.step (sFieldAddr 33 v5_1 1) w fun v53_1 w =>
  C.step (sLoad 3 v53_1) w fun v54_1 w =>
  C.calls 27 #[v52_1, v54_1, (.bool true)] w fun v55_1 w =>
  C.step (sExtract v55_1 0) w fun v56_1 w =>
  C.step (sExtract v55_1 1) w fun v57_1 w =>
  C.step (sAlloc 27) w fun v13_1 w =>
  C.step (sStore 27 v13_1 v56_1) w fun vx_4 w =>
  C.draw w fun S_1 w =>
  C.stepS S_1 (sLoad 27 v13_1) fun v58_1 =>
  C.stepS S_1 (sFieldAddr 33 v5_1 1) fun v60_1 =>
  C.stepS S_1 (sLoad 3 v60_1) fun v61_1 =>
  C.calls 18 #[a0, v61_1] w fun v62_1 w =>
  C.keepS S_1 w fun S_2 =>
  C.calls 28 #[v62_1, v57_1] w fun v64_1 w =>
  C.keepS S_2 w fun S_3 =>
  C.step (sStore 27 v6_1 v58_1) w fun vx_5 w =>
  C.keepT w fun S_4 =>
  C.loadR 27 v6_1 w fun r_3 =>
  Q (.tuple #[r_3, v64_1]) w)
  (C.step (sBin .eql 3 (.tmp 18) (.const (.int .i64 2)) v18_1 (.int .i64 2)) w fun v66_1 w =>
  C.bool v66_1
  (C.step (sLoad 27 v4_1) w fun v68_1 w =>
  C.step (sFieldAddr 33 v5_1 1) w fun v69_1 w =>
  C.step (sLoad 3 v69_1) w fun v70_1 w =>
  C.calls 27 #[v68_1, v70_1, (.bool false)] w fun v71_1 w =>
  C.step (sExtract v71_1 0) w fun v72_1 w =>
  C.step (sExtract v71_1 1) w fun v73_1 w =>
  C.step (sAlloc 27) w fun v15_1 w =>
  C.step (sStore 27 v15_1 v72_1) w fun vx_6 w =>
  C.draw w fun S_5 w =>
  C.stepS S_5 (sLoad 27 v15_1) fun v74_1 =>
  C.stepS S_5 (sFieldAddr 33 v5_1 1) fun v76_1 =>
  C.stepS S_5 (sLoad 3 v76_1) fun v77_1 =>
  C.calls 22 #[a0, v77_1] w fun v78_1 w =>
  C.keepS S_5 w fun S_6 =>
  C.calls 28 #[v78_1, v73_1] w fun v80_1 w =>
  C.keepS S_6 w fun S_7 =>
  C.step (sStore 27 v6_1 v74_1) w fun vx_7 w =>
  C.keepT w fun S_8 =>
  C.loadR 27 v6_1 w fun r_4 =>
  Q (.tuple #[r_4, v80_1]) w)
  (C.step (sLoad 27 v4_1) w fun v81_1 w =>
  C.step (sStore 27 v6_1 v81_1) w fun vx_8 w =>
  C.loadR 27 v6_1 w fun r_5 =>
  Q (.tuple #[r_5, (.bool true)]) w)))
theorem flotillalaw13_step_eq (C : Comb) (a0 : Value) (a1 : Value) (a2 : Value) (w : World) (Q : Value → World → Prop) : flotillalaw13_step_x C a0 a1 a2 w Q = FunY Tryz.prog C 2 [] Tryz.f9 [a0, a1, a2] w Q := by kernel_rfl
theorem flotillalaw13_step_sound (a0 : Value) (a1 : Value) (a2 : Value) {w : World} {Q : Value → World → Prop} (h : flotillalaw13_step_x (std Tryz.prog) a0 a1 a2 w Q) : CallsR Tryz.prog 9 #[a0, a1, a2] w Q :=
  calls_of_funY mixed Tryz.func9 (Eq.mp (flotillalaw13_step_eq _ a0 a1 a2 w Q) h)

def flotillalaw13_alike_k1 (C : Comb) (w : World) (Q : Value → World → Prop) : Prop :=
  Q (.bool false) w
def flotillalaw13_alike_x (C : Comb) (a0 : Value) (a1 : Value) (a2 : Value) (w : World) (Q : Value → World → Prop) : Prop :=
  C.step (sBox 27 a1) w fun v4_1 w =>
  C.calls 17 #[a0, a2] w fun v17_1 w =>
  C.step (sExtract v17_1 0) w fun v18_1 w =>
  C.step (sExtract v17_1 1) w fun v19_1 w =>
  C.step (sAlloc 31) w fun v7_1 w =>
  C.step (sStore 31 v7_1 v18_1) w fun vx_1 w =>
  C.step (sLoad 27 v4_1) w fun v21_1 w =>
  C.calls 29 #[v21_1, a2] w fun v23_1 w =>
  C.step (sExtract v23_1 0) w fun v24_1 w =>
  C.step (sExtract v23_1 1) w fun v25_1 w =>
  C.step (sAlloc 31) w fun v9_1 w =>
  C.step (sStore 31 v9_1 v24_1) w fun vx_2 w =>
  C.calls 16 #[a0, a2] w fun v29_1 w =>
  C.step (sExtract v29_1 0) w fun v30_1 w =>
  C.step (sExtract v29_1 1) w fun v31_1 w =>
  C.step (sLoad 27 v4_1) w fun v32_1 w =>
  C.calls 30 #[v32_1, a2] w fun v34_1 w =>
  C.draw w fun S_1 w =>
  C.stepS S_1 (sLoad 31 v7_1) fun v35_1 =>
  C.stepS S_1 (sLoad 31 v9_1) fun v36_1 =>
  C.stepS S_1 (sBin .eql 31 (.tmp 35) (.tmp 36) v35_1 v36_1) fun v37_1 =>
  C.bool v37_1
  (C.stepS S_1 (sBin .eql 4 (.tmp 39) (.tmp 40) v19_1 v25_1) fun v41_1 =>
  C.bool v41_1
  (C.stepS S_1 (sBin .eql 3 (.tmp 44) (.tmp 45) v30_1 v34_1) fun v46_1 =>
  C.bool v46_1
  (C.stepS S_1 (sBin .gtr 3 (.tmp 50) (.const (.int .i64 0)) v34_1 (.int .i64 0)) fun v51_1 =>
  C.stepS S_1 (sBin .eql 4 (.tmp 49) (.tmp 51) v31_1 v51_1) fun v52_1 =>
  C.bool v52_1
  (C.stepS S_1 (sLoad 27 v4_1) fun v58_1 =>
  C.calls 23 #[a0, a2] w fun v57_1 w =>
  C.keepS S_1 w fun S_2 =>
  C.calls 31 #[v58_1, a2] w fun v60_1 w =>
  C.keepT w fun S_3 =>
  C.calls 25 #[v57_1, v60_1] w fun v61_1 w =>
  C.keepT w fun S_4 =>
  C.bool v61_1
  (C.stepS S_4 (sLoad 27 v4_1) fun v66_1 =>
  C.calls 15 #[a0] w fun v65_1 w =>
  C.keepS S_4 w fun S_5 =>
  C.calls 32 #[v66_1] w fun v67_1 w =>
  C.keepT w fun S_6 =>
  C.calls 24 #[v65_1, v67_1] w fun v68_1 w =>
  C.keepT w fun S_7 =>
  Q v68_1 w)
  (flotillalaw13_alike_k1 C w Q))
  (flotillalaw13_alike_k1 C w Q))
  (flotillalaw13_alike_k1 C w Q))
  (flotillalaw13_alike_k1 C w Q))
  (flotillalaw13_alike_k1 C w Q)
theorem flotillalaw13_alike_eq (C : Comb) (a0 : Value) (a1 : Value) (a2 : Value) (w : World) (Q : Value → World → Prop) : flotillalaw13_alike_x C a0 a1 a2 w Q = FunY Tryz.prog C 2 [] Tryz.f10 [a0, a1, a2] w Q := by kernel_rfl
theorem flotillalaw13_alike_sound (a0 : Value) (a1 : Value) (a2 : Value) {w : World} {Q : Value → World → Prop} (h : flotillalaw13_alike_x (std Tryz.prog) a0 a1 a2 w Q) : CallsR Tryz.prog 10 #[a0, a1, a2] w Q :=
  calls_of_funY mixed Tryz.func10 (Eq.mp (flotillalaw13_alike_eq _ a0 a1 a2 w Q) h)

def flotillalaw13_sameEdges_k1 (C : Comb) (w : World) (Q : Value → World → Prop) : Prop :=
  Q (.bool true) w
def flotillalaw13_sameEdges_x (C : Comb) (a0 : Value) (a1 : Value) (w : World) (Q : Value → World → Prop) : Prop :=
  C.step (sBuiltin .len #[39] 3 [false] [a0]) w fun v7_1 w =>
  C.step (sBuiltin .len #[39] 3 [false] [a1]) w fun v9_1 w =>
  C.step (sBin .neq 3 (.tmp 7) (.tmp 9) v7_1 v9_1) w fun v10_1 w =>
  C.bool v10_1
  (Q (.bool false) w)
  (C.loop [(.bool false), (.int .i64 0)] w fun dv_1 vs_1 w again_1 =>
  C.step (sBuiltin .len #[39] 3 [false] [a0]) w fun v13_1 w =>
  C.step (sBin .lss 3 (.tmp 11) (.tmp 13) (vs_1.getD 1 undef) v13_1) w fun v14_1 w =>
  C.bool v14_1
  (C.draw w fun S_1 w =>
  C.stepS S_1 (sIndexAddr 39 a0 (vs_1.getD 1 undef)) fun v19_1 =>
  C.stepS S_1 (sLoad 78 v19_1) fun v20_1 =>
  C.stepS S_1 (sIndexAddr 39 a1 (vs_1.getD 1 undef)) fun v23_1 =>
  C.stepS S_1 (sLoad 78 v23_1) fun v24_1 =>
  C.stepS S_1 (sBin .neq 78 (.tmp 20) (.tmp 24) v20_1 v24_1) fun v25_1 =>
  C.bool v25_1
  (Q (.bool false) w)
  (C.step (sBin .add 3 (.tmp 15) (.const (.int .i64 1)) (vs_1.getD 1 undef) (.int .i64 1)) w fun v16_1 w =>
  again_1 [(vs_1.getD 0 undef), v16_1] w))
  (flotillalaw13_sameEdges_k1 C w Q))
theorem flotillalaw13_sameEdges_eq (C : Comb) (a0 : Value) (a1 : Value) (w : World) (Q : Value → World → Prop) : flotillalaw13_sameEdges_x C a0 a1 w Q = FunY Tryz.prog C 6 [] Tryz.f11 [a0, a1] w Q := by kernel_rfl
theorem flotillalaw13_sameEdges_sound (a0 : Value) (a1 : Value) {w : World} {Q : Value → World → Prop} (h : flotillalaw13_sameEdges_x (std Tryz.prog) a0 a1 w Q) : CallsR Tryz.prog 11 #[a0, a1] w Q :=
  calls_of_funY mixed Tryz.func11 (Eq.mp (flotillalaw13_sameEdges_eq _ a0 a1 w Q) h)

def lock_Table_Edges_x (C : Comb) (a0 : Value) (w : World) (Q : Value → World → Prop) : Prop :=
  C.step (sAlloc 39) w fun v3_1 w =>
  C.step (sBin .eql 23 (.tmp 4) (.const (.pointer none)) a0 (.pointer none)) w fun v5_1 w =>
  C.bool v5_1
  (C.step (sLoad 39 v3_1) w fun v6_1 w =>
  Q v6_1 w)
  (C.step (sMakeFunc (.func 34) [] [v3_1]) w fun v8_1 w =>
  C.calls 33 #[a0, v8_1] w fun v9_1 w =>
  C.step (sLoad 39 v3_1) w fun v10_1 w =>
  C.calls 35 #[v10_1, (.func (.func 36) #[] #[])] w fun v11_1 w =>
  C.step (sLoad 39 v3_1) w fun v12_1 w =>
  C.calls 37 #[v12_1] w fun v13_1 w =>
  Q v13_1 w)
theorem lock_Table_Edges_eq (C : Comb) (a0 : Value) (w : World) (Q : Value → World → Prop) : lock_Table_Edges_x C a0 w Q = FunY Tryz.prog C 4 [] Tryz.f12 [a0] w Q := by kernel_rfl
theorem lock_Table_Edges_sound (a0 : Value) {w : World} {Q : Value → World → Prop} (h : lock_Table_Edges_x (std Tryz.prog) a0 w Q) : CallsR Tryz.prog 12 #[a0] w Q :=
  calls_of_funY mixed Tryz.func12 (Eq.mp (lock_Table_Edges_eq _ a0 w Q) h)

def flotillaref13_Edges_k1 (C : Comb) (u3_1 : Value) (w : World) (Q : Value → World → Prop) : Prop :=
  Q u3_1 w
def flotillaref13_Edges_k2 (C : Comb) (vs_1 : List Value) (again_1 : List Value → World → Prop) (u3_2 : Value) (w : World) (Q : Value → World → Prop) : Prop :=
  C.step (sBin .add 3 (.tmp 16) (.const (.int .i64 1)) (vs_1.getD 1 undef) (.int .i64 1)) w fun v17_1 w =>
  again_1 [u3_2, v17_1] w
def flotillaref13_Edges_k3 (C : Comb) (v1_1 : Value) (vs_1 : List Value) (again_1 : List Value → World → Prop) (v5_1 : Value) (u3_3 : Value) (w : World) (Q : Value → World → Prop) : Prop :=
  C.step (sLoad 27 v1_1) w fun v70_1 w =>
  C.step (sFieldAddr 85 v5_1 1) w fun v71_1 w =>
  C.step (sLoad 9 v71_1) w fun v72_1 w =>
  C.calls 42 #[v70_1, v72_1] w fun v73_1 w =>
  C.loop [u3_3, (.int .i64 0)] w fun dv_2 vs_2 w again_2 =>
  C.draw w fun S_4 w =>
  C.stepS S_4 (sBuiltin .len #[25] 3 [false] [v73_1]) fun v76_1 =>
  C.stepS S_4 (sBin .lss 3 (.tmp 74) (.tmp 76) (vs_2.getD 1 undef) v76_1) fun v77_1 =>
  C.bool v77_1
  (C.stepS S_4 (sIndexAddr 25 v73_1 (vs_2.getD 1 undef)) fun v81_1 =>
  C.stepS S_4 (sFieldAddr 85 v81_1 0) fun v82_1 =>
  C.stepS S_4 (sLoad 3 v82_1) fun v83_1 =>
  C.stepS S_4 (sFieldAddr 85 v5_1 0) fun v84_1 =>
  C.stepS S_4 (sLoad 3 v84_1) fun v85_1 =>
  C.stepS S_4 (sBin .neq 3 (.tmp 83) (.tmp 85) v83_1 v85_1) fun v86_1 =>
  C.bool v86_1
  (C.draw w fun S_5 w =>
  C.stepS S_5 (sFieldAddr 85 v5_1 0) fun v91_1 =>
  C.stepS S_5 (sLoad 3 v91_1) fun v92_1 =>
  C.stepS S_5 (sIndexAddr 25 v73_1 (vs_2.getD 1 undef)) fun v95_1 =>
  C.stepS S_5 (sFieldAddr 85 v95_1 0) fun v96_1 =>
  C.stepS S_5 (sLoad 3 v96_1) fun v97_1 =>
  C.step (sBuild 78 [(0, v92_1), (1, v97_1)]) w fun v98_1 w =>
  C.keepT w fun S_6 =>
  C.calls 41 #[(vs_2.getD 0 undef), v98_1] w fun v99_1 w =>
  C.keepT w fun S_7 =>
  C.step (sBin .add 3 (.tmp 88) (.const (.int .i64 1)) (vs_2.getD 1 undef) (.int .i64 1)) w fun v89_1 w =>
  again_2 [v99_1, v89_1] w)
  (flotillaref13_Edges_k2 C vs_1 again_1 (vs_2.getD 0 undef) w Q))
  (flotillaref13_Edges_k2 C vs_1 again_1 (vs_2.getD 0 undef) w Q)
def flotillaref13_Edges_k4 (C : Comb) (vs_3 : List Value) (again_3 : List Value → World → Prop) (u3_4 : Value) (w : World) (Q : Value → World → Prop) : Prop :=
  C.step (sBin .add 3 (.tmp 37) (.const (.int .i64 1)) (vs_3.getD 1 undef) (.int .i64 1)) w fun v38_1 w =>
  again_3 [u3_4, v38_1] w
def flotillaref13_Edges_k5 (C : Comb) (vs_3 : List Value) (again_3 : List Value → World → Prop) (w : World) (Q : Value → World → Prop) : Prop :=
  flotillaref13_Edges_k4 C vs_3 again_3 (vs_3.getD 0 undef) w Q
def flotillaref13_Edges_x (C : Comb) (a0 : Value) (w : World) (Q : Value → World → Prop) : Prop :=
  C.step (sBox 27 a0) w fun v1_1 w =>
  C.loop [(.slice none 0 0), (.int .i64 0)] w fun dv_1 vs_1 w again_1 =>
  C.step (sFieldAddr 27 v1_1 1) w fun v12_1 w =>
  C.step (sLoad 25 v12_1) w fun v13_1 w =>
  C.step (sBuiltin .len #[25] 3 [false] [v13_1]) w fun v14_1 w =>
  C.step (sBin .lss 3 (.tmp 11) (.tmp 14) (vs_1.getD 1 undef) v14_1) w fun v15_1 w =>
  C.bool v15_1
  (C.step (sFieldAddr 27 v1_1 1) w fun v18_1 w =>
  C.step (sLoad 25 v18_1) w fun v19_1 w =>
  C.step (sIndexAddr 25 v19_1 (vs_1.getD 1 undef)) w fun v21_1 w =>
  C.step (sLoad 85 v21_1) w fun v22_1 w =>
  C.step (sAlloc 85) w fun v5_1 w =>
  C.step (sStore 85 v5_1 v22_1) w fun vx_1 w =>
  C.draw w fun S_1 w =>
  C.stepS S_1 (sLoad 27 v1_1) fun v23_1 =>
  C.stepS S_1 (sFieldAddr 85 v5_1 0) fun v24_1 =>
  C.stepS S_1 (sLoad 3 v24_1) fun v25_1 =>
  C.stepS S_1 (sFieldAddr 85 v5_1 1) fun v26_1 =>
  C.stepS S_1 (sLoad 9 v26_1) fun v27_1 =>
  C.stepS S_1 (sFieldAddr 85 v5_1 2) fun v29_1 =>
  C.stepS S_1 (sLoad 29 v29_1) fun v30_1 =>
  C.calls 39 #[v23_1, v25_1, v27_1] w fun v28_1 w =>
  C.keepS S_1 w fun S_2 =>
  C.calls 38 #[v28_1, v30_1] w fun v31_1 w =>
  C.keepT w fun S_3 =>
  C.loop [(vs_1.getD 0 undef), (.int .i64 0)] w fun dv_3 vs_3 w again_3 =>
  C.step (sFieldAddr 27 v1_1 0) w fun v33_1 w =>
  C.step (sLoad 25 v33_1) w fun v34_1 w =>
  C.step (sBuiltin .len #[25] 3 [false] [v34_1]) w fun v35_1 w =>
  C.step (sBin .lss 3 (.tmp 32) (.tmp 35) (vs_3.getD 1 undef) v35_1) w fun v36_1 w =>
  C.bool v36_1
  (C.step (sFieldAddr 27 v1_1 0) w fun v39_1 w =>
  C.step (sLoad 25 v39_1) w fun v40_1 w =>
  C.step (sIndexAddr 25 v40_1 (vs_3.getD 1 undef)) w fun v42_1 w =>
  C.step (sLoad 85 v42_1) w fun v43_1 w =>
  C.step (sAlloc 85) w fun v8_1 w =>
  C.step (sStore 85 v8_1 v43_1) w fun vx_2 w =>
  C.step (sFieldAddr 85 v8_1 0) w fun v44_1 w =>
  C.step (sLoad 3 v44_1) w fun v45_1 w =>
  C.step (sFieldAddr 85 v5_1 0) w fun v46_1 w =>
  C.step (sLoad 3 v46_1) w fun v47_1 w =>
  C.step (sBin .neq 3 (.tmp 45) (.tmp 47) v45_1 v47_1) w fun v48_1 w =>
  C.bool v48_1
  (C.step (sFieldAddr 85 v8_1 1) w fun v50_1 w =>
  C.step (sLoad 9 v50_1) w fun v51_1 w =>
  C.step (sFieldAddr 85 v5_1 1) w fun v52_1 w =>
  C.step (sLoad 9 v52_1) w fun v53_1 w =>
  C.step (sBin .eql 9 (.tmp 51) (.tmp 53) v51_1 v53_1) w fun v54_1 w =>
  C.bool v54_1
  (C.step (sFieldAddr 85 v8_1 2) w fun v57_1 w =>
  C.step (sLoad 29 v57_1) w fun v58_1 w =>
  C.calls 40 #[v58_1, v31_1] w fun v60_1 w =>
  C.step (sUn .not v60_1) w fun v61_1 w =>
  C.bool v61_1
  (C.step (sFieldAddr 85 v5_1 0) w fun v64_1 w =>
  C.step (sLoad 3 v64_1) w fun v65_1 w =>
  C.step (sFieldAddr 85 v8_1 0) w fun v66_1 w =>
  C.step (sLoad 3 v66_1) w fun v67_1 w =>
  C.step (sBuild 78 [(0, v65_1), (1, v67_1)]) w fun v68_1 w =>
  C.calls 41 #[(vs_3.getD 0 undef), v68_1] w fun v69_1 w =>
  flotillaref13_Edges_k4 C vs_3 again_3 v69_1 w Q)
  (flotillaref13_Edges_k4 C vs_3 again_3 (vs_3.getD 0 undef) w Q))
  (flotillaref13_Edges_k5 C vs_3 again_3 w Q))
  (flotillaref13_Edges_k5 C vs_3 again_3 w Q))
  (flotillaref13_Edges_k3 C v1_1 vs_1 again_1 v5_1 (vs_3.getD 0 undef) w Q))
  (flotillaref13_Edges_k1 C (vs_1.getD 0 undef) w Q)
theorem flotillaref13_Edges_eq (C : Comb) (a0 : Value) (w : World) (Q : Value → World → Prop) : flotillaref13_Edges_x C a0 w Q = FunY Tryz.prog C 2 [] Tryz.f13 [a0] w Q := by kernel_rfl
theorem flotillaref13_Edges_sound (a0 : Value) {w : World} {Q : Value → World → Prop} (h : flotillaref13_Edges_x (std Tryz.prog) a0 w Q) : CallsR Tryz.prog 13 #[a0] w Q :=
  calls_of_funY mixed Tryz.func13 (Eq.mp (flotillaref13_Edges_eq _ a0 w Q) h)

def flotillalaw13_led_k1 (C : Comb) (v5_1 : Value) (w : World) (Q : Value → World → Prop) : Prop :=
  Q v5_1 w
def flotillalaw13_led_k2 (C : Comb) (v5_1 : Value) (w : World) (Q : Value → World → Prop) : Prop :=
  flotillalaw13_led_k1 C v5_1 w Q
def flotillalaw13_led_k3 (C : Comb) (vs_1 : List Value) (again_1 : List Value → World → Prop) (w : World) (Q : Value → World → Prop) : Prop :=
  C.step (sBin .add 3 (.tmp 18) (.const (.int .i64 1)) (vs_1.getD 0 undef) (.int .i64 1)) w fun v19_1 w =>
  again_1 [v19_1] w
def flotillalaw13_led_x (C : Comb) (a0 : Value) (w : World) (Q : Value → World → Prop) : Prop :=
  C.calls 6 #[] w fun v5_1 w =>
  C.loop [(.int .i64 0)] w fun dv_1 vs_1 w again_1 =>
  C.step (sBuiltin .len #[22] 3 [false] [a0]) w fun v8_1 w =>
  C.step (sBin .lss 3 (.tmp 6) (.tmp 8) (vs_1.getD 0 undef) v8_1) w fun v9_1 w =>
  C.bool v9_1
  (C.step (sBin .lss 3 (.tmp 11) (.const (.int .i64 60)) (vs_1.getD 0 undef) (.int .i64 60)) w fun v12_1 w =>
  C.bool v12_1
  (C.step (sBin .neq 23 (.tmp 15) (.const (.pointer none)) v5_1 (.pointer none)) w fun v16_1 w =>
  C.bool v16_1
  (C.step (sIndexAddr 22 a0 (vs_1.getD 0 undef)) w fun v22_1 w =>
  C.step (sLoad 33 v22_1) w fun v23_1 w =>
  C.calls 7 #[v23_1] w fun v24_1 w =>
  C.step (sUn .not v24_1) w fun v25_1 w =>
  C.bool v25_1
  (flotillalaw13_led_k3 C vs_1 again_1 w Q)
  (C.step (sIndexAddr 22 a0 (vs_1.getD 0 undef)) w fun v28_1 w =>
  C.step (sFieldAddr 33 v28_1 0) w fun v29_1 w =>
  C.step (sLoad 3 v29_1) w fun v30_1 w =>
  C.step (sBin .eql 3 (.tmp 30) (.const (.int .i64 0)) v30_1 (.int .i64 0)) w fun v32_1 w =>
  C.bool v32_1
  (C.draw w fun S_1 w =>
  C.stepS S_1 (sIndexAddr 22 a0 (vs_1.getD 0 undef)) fun v36_1 =>
  C.stepS S_1 (sFieldAddr 33 v36_1 1) fun v37_1 =>
  C.stepS S_1 (sLoad 3 v37_1) fun v38_1 =>
  C.stepS S_1 (sIndexAddr 22 a0 (vs_1.getD 0 undef)) fun v41_1 =>
  C.stepS S_1 (sFieldAddr 33 v41_1 2) fun v42_1 =>
  C.stepS S_1 (sLoad 31 v42_1) fun v43_1 =>
  C.calls 21 #[v5_1, v38_1, v43_1] w fun v44_1 w =>
  C.keepT w fun S_2 =>
  flotillalaw13_led_k3 C vs_1 again_1 w Q)
  (C.step (sBin .eql 3 (.tmp 30) (.const (.int .i64 1)) v30_1 (.int .i64 1)) w fun v46_1 w =>
  C.bool v46_1
  (C.step (sIndexAddr 22 a0 (vs_1.getD 0 undef)) w fun v50_1 w =>
  C.step (sFieldAddr 33 v50_1 1) w fun v51_1 w =>
  C.step (sLoad 3 v51_1) w fun v52_1 w =>
  C.calls 18 #[v5_1, v52_1] w fun v53_1 w =>
  flotillalaw13_led_k3 C vs_1 again_1 w Q)
  (C.step (sBin .eql 3 (.tmp 30) (.const (.int .i64 2)) v30_1 (.int .i64 2)) w fun v55_1 w =>
  C.bool v55_1
  (C.step (sIndexAddr 22 a0 (vs_1.getD 0 undef)) w fun v59_1 w =>
  C.step (sFieldAddr 33 v59_1 1) w fun v60_1 w =>
  C.step (sLoad 3 v60_1) w fun v61_1 w =>
  C.calls 22 #[v5_1, v61_1] w fun v62_1 w =>
  flotillalaw13_led_k3 C vs_1 again_1 w Q)
  (flotillalaw13_led_k3 C vs_1 again_1 w Q)))))
  (flotillalaw13_led_k1 C v5_1 w Q))
  (flotillalaw13_led_k2 C v5_1 w Q))
  (flotillalaw13_led_k2 C v5_1 w Q)
theorem flotillalaw13_led_eq (C : Comb) (a0 : Value) (w : World) (Q : Value → World → Prop) : flotillalaw13_led_x C a0 w Q = FunY Tryz.prog C 5 [] Tryz.f14 [a0] w Q := by kernel_rfl
theorem flotillalaw13_led_sound (a0 : Value) {w : World} {Q : Value → World → Prop} (h : flotillalaw13_led_x (std Tryz.prog) a0 w Q) : CallsR Tryz.prog 14 #[a0] w Q :=
  calls_of_funY mixed Tryz.func14 (Eq.mp (flotillalaw13_led_eq _ a0 w Q) h)

def lock_Table_Txns_k2 (C : Comb) (v8_1 : Value) (w : World) (Q : Value → World → Prop) : Prop :=
  C.calls 44 #[v8_1] w fun v43_1 w =>
  C.calls 43 #[v43_1] w fun v44_1 w =>
  Q v44_1 w
def lock_Table_Txns_k1 (C : Comb) (a0 : Value) (v8_1 : Value) (w : World) (Q : Value → World → Prop) : Prop :=
  C.step (sNil a0) w fun v23_1 w =>
  C.step (sFieldAddr 67 v23_1 0) w fun v24_1 w =>
  C.step (sLoad 64 v24_1) w fun v25_1 w =>
  C.step (sRange 64 v25_1) w fun v26_1 w =>
  C.loop [undef, undef] w fun dv_1 vs_1 w again_1 =>
  C.step (sNext v26_1 false 0) w fun v27_1 w =>
  C.step (sExtract v27_1 0) w fun v28_1 w =>
  C.bool v28_1
  (C.step (sEntry v26_1) w fun v29_1 w =>
  C.step (sExtract v29_1 1) w fun v30_1 w =>
  C.step (sNil v30_1) w fun v32_1 w =>
  C.step (sFieldAddr 95 v32_1 0) w fun v33_1 w =>
  C.step (sLoad 93 v33_1) w fun v34_1 w =>
  C.step (sRange 93 v34_1) w fun v35_1 w =>
  C.loop [(vs_1.getD 1 undef)] w fun dv_2 vs_2 w again_2 =>
  C.step (sNext v35_1 false 0) w fun v36_1 w =>
  C.step (sExtract v36_1 0) w fun v37_1 w =>
  C.bool v37_1
  (C.step (sEntry v35_1) w fun v38_1 w =>
  C.step (sExtract v38_1 0) w fun v39_1 w =>
  C.step (sMapUpdate 91 v8_1 v39_1 (.bool true)) w fun vx_1 w =>
  again_2 [v39_1] w)
  (again_1 [v30_1, (vs_2.getD 0 undef)] w))
  (lock_Table_Txns_k2 C v8_1 w Q)
def lock_Table_Txns_x (C : Comb) (a0 : Value) (w : World) (Q : Value → World → Prop) : Prop :=
  C.step (sMakeMap 91 none) w fun v8_1 w =>
  C.step (sBin .eql 23 (.tmp 9) (.const (.pointer none)) a0 (.pointer none)) w fun v10_1 w =>
  C.bool v10_1
  (Q (.slice none 0 0) w)
  (C.step (sNil a0) w fun v12_1 w =>
  C.step (sFieldAddr 67 v12_1 1) w fun v13_1 w =>
  C.step (sLoad 65 v13_1) w fun v14_1 w =>
  C.step (sRange 65 v14_1) w fun v15_1 w =>
  C.loop [undef] w fun dv_3 vs_3 w again_3 =>
  C.step (sNext v15_1 false 0) w fun v16_1 w =>
  C.step (sExtract v16_1 0) w fun v17_1 w =>
  C.bool v17_1
  (C.step (sEntry v15_1) w fun v18_1 w =>
  C.step (sExtract v18_1 0) w fun v19_1 w =>
  C.step (sMapUpdate 91 v8_1 v19_1 (.bool true)) w fun vx_2 w =>
  again_3 [v19_1] w)
  (lock_Table_Txns_k1 C a0 v8_1 w Q))
theorem lock_Table_Txns_eq (C : Comb) (a0 : Value) (w : World) (Q : Value → World → Prop) : lock_Table_Txns_x C a0 w Q = FunY Tryz.prog C 8 [] Tryz.f15 [a0] w Q := by kernel_rfl
theorem lock_Table_Txns_sound (a0 : Value) {w : World} {Q : Value → World → Prop} (h : lock_Table_Txns_x (std Tryz.prog) a0 w Q) : CallsR Tryz.prog 15 #[a0] w Q :=
  calls_of_funY mixed Tryz.func15 (Eq.mp (lock_Table_Txns_eq _ a0 w Q) h)

def lock_Table_Victim_k1 (C : Comb) (a1 : Value) (v9_1 : Value) (w : World) (Q : Value → World → Prop) : Prop :=
  C.calls 47 #[v9_1, a1] w fun v26_1 w =>
  C.step (sExtract v26_1 0) w fun v27_1 w =>
  C.step (sExtract v26_1 1) w fun v28_1 w =>
  Q (.tuple #[v27_1, v28_1]) w
def lock_Table_Victim_x (C : Comb) (a0 : Value) (a1 : Value) (w : World) (Q : Value → World → Prop) : Prop :=
  C.calls 45 #[] w fun v9_1 w =>
  C.calls 12 #[a0] w fun v11_1 w =>
  C.step (sBuiltin .len #[39] 3 [false] [v11_1]) w fun v12_1 w =>
  C.loop [undef, (.int .i64 0)] w fun dv_1 vs_1 w again_1 =>
  C.step (sBin .lss 3 (.tmp 13) (.tmp 12) (vs_1.getD 1 undef) v12_1) w fun v14_1 w =>
  C.bool v14_1
  (C.step (sIndexAddr 39 v11_1 (vs_1.getD 1 undef)) w fun v15_1 w =>
  C.step (sLoad 78 v15_1) w fun v16_1 w =>
  C.step (sAlloc 78) w fun v8_1 w =>
  C.step (sStore 78 v8_1 v16_1) w fun vx_1 w =>
  C.step (sFieldAddr 78 v8_1 0) w fun v18_1 w =>
  C.step (sLoad 3 v18_1) w fun v19_1 w =>
  C.step (sFieldAddr 78 v8_1 1) w fun v20_1 w =>
  C.step (sLoad 3 v20_1) w fun v21_1 w =>
  C.calls 46 #[v9_1, v19_1, v21_1] w fun v22_1 w =>
  C.step (sBin .add 3 (.tmp 13) (.const (.int .i64 1)) (vs_1.getD 1 undef) (.int .i64 1)) w fun v23_1 w =>
  again_1 [v8_1, v23_1] w)
  (lock_Table_Victim_k1 C a1 v9_1 w Q)
theorem lock_Table_Victim_eq (C : Comb) (a0 : Value) (a1 : Value) (w : World) (Q : Value → World → Prop) : lock_Table_Victim_x C a0 a1 w Q = FunY Tryz.prog C 9 [] Tryz.f16 [a0, a1] w Q := by kernel_rfl
theorem lock_Table_Victim_sound (a0 : Value) (a1 : Value) {w : World} {Q : Value → World → Prop} (h : lock_Table_Victim_x (std Tryz.prog) a0 a1 w Q) : CallsR Tryz.prog 16 #[a0, a1] w Q :=
  calls_of_funY mixed Tryz.func16 (Eq.mp (lock_Table_Victim_eq _ a0 a1 w Q) h)

def lock_Table_Waits_x (C : Comb) (a0 : Value) (a1 : Value) (w : World) (Q : Value → World → Prop) : Prop :=
  C.step (sAlloc 31) w fun v4_1 w =>
  C.step (sBin .eql 23 (.tmp 8) (.const (.pointer none)) a0 (.pointer none)) w fun v9_1 w =>
  C.bool v9_1
  (C.step (sBuild 31 []) w fun v10_1 w =>
  C.step (sStore 31 v4_1 v10_1) w fun vx_1 w =>
  C.loadR 31 v4_1 w fun r_1 =>
  Q (.tuple #[r_1, (.bool false)]) w)
  (C.step (sNil a0) w fun v13_1 w =>
  C.step (sFieldAddr 67 v13_1 1) w fun v14_1 w =>
  C.step (sLoad 65 v14_1) w fun v15_1 w =>
  C.step (sLookup 65 v15_1 a1 true) w fun v17_1 w =>
  C.step (sExtract v17_1 0) w fun v18_1 w =>
  C.step (sExtract v17_1 1) w fun v19_1 w =>
  C.step (sAlloc 31) w fun v6_1 w =>
  C.step (sStore 31 v6_1 v18_1) w fun vx_2 w =>
  C.step (sLoad 31 v6_1) w fun v20_1 w =>
  C.step (sStore 31 v4_1 v20_1) w fun vx_3 w =>
  C.loadR 31 v4_1 w fun r_2 =>
  Q (.tuple #[r_2, v19_1]) w)
theorem lock_Table_Waits_eq (C : Comb) (a0 : Value) (a1 : Value) (w : World) (Q : Value → World → Prop) : lock_Table_Waits_x C a0 a1 w Q = FunY Tryz.prog C 8 [] Tryz.f17 [a0, a1] w Q := by kernel_rfl
theorem lock_Table_Waits_sound (a0 : Value) (a1 : Value) {w : World} {Q : Value → World → Prop} (h : lock_Table_Waits_x (std Tryz.prog) a0 a1 w Q) : CallsR Tryz.prog 17 #[a0, a1] w Q :=
  calls_of_funY mixed Tryz.func17 (Eq.mp (lock_Table_Waits_eq _ a0 a1 w Q) h)

def lock_Table_Free_x (C : Comb) (a0 : Value) (a1 : Value) (w : World) (Q : Value → World → Prop) : Prop :=
  C.calls 48 #[a0, a1, (.bool true)] w fun v7_1 w =>
  Q v7_1 w
theorem lock_Table_Free_eq (C : Comb) (a0 : Value) (a1 : Value) (w : World) (Q : Value → World → Prop) : lock_Table_Free_x C a0 a1 w Q = FunY Tryz.prog C 4 [] Tryz.f18 [a0, a1] w Q := by kernel_rfl
theorem lock_Table_Free_sound (a0 : Value) (a1 : Value) {w : World} {Q : Value → World → Prop} (h : lock_Table_Free_x (std Tryz.prog) a0 a1 w Q) : CallsR Tryz.prog 18 #[a0, a1] w Q :=
  calls_of_funY mixed Tryz.func18 (Eq.mp (lock_Table_Free_eq _ a0 a1 w Q) h)

def flotillalaw13_has_k1 (C : Comb) (w : World) (Q : Value → World → Prop) : Prop :=
  Q (.bool false) w
def flotillalaw13_has_x (C : Comb) (a0 : Value) (a1 : Value) (a2 : Value) (w : World) (Q : Value → World → Prop) : Prop :=
  C.calls 23 #[a0, a1] w fun v11_1 w =>
  C.loop [(.bool false), (.int .i64 0)] w fun dv_1 vs_1 w again_1 =>
  C.step (sBuiltin .len #[59] 3 [false] [v11_1]) w fun v14_1 w =>
  C.step (sBin .lss 3 (.tmp 12) (.tmp 14) (vs_1.getD 1 undef) v14_1) w fun v15_1 w =>
  C.bool v15_1
  (C.step (sIndexAddr 59 v11_1 (vs_1.getD 1 undef)) w fun v20_1 w =>
  C.step (sFieldAddr 104 v20_1 0) w fun v21_1 w =>
  C.step (sLoad 9 v21_1) w fun v22_1 w =>
  C.step (sBin .eql 9 (.tmp 22) (.tmp 23) v22_1 a2) w fun v24_1 w =>
  C.bool v24_1
  (Q (.bool true) w)
  (C.step (sBin .add 3 (.tmp 16) (.const (.int .i64 1)) (vs_1.getD 1 undef) (.int .i64 1)) w fun v17_1 w =>
  again_1 [(vs_1.getD 0 undef), v17_1] w))
  (flotillalaw13_has_k1 C w Q)
theorem flotillalaw13_has_eq (C : Comb) (a0 : Value) (a1 : Value) (a2 : Value) (w : World) (Q : Value → World → Prop) : flotillalaw13_has_x C a0 a1 a2 w Q = FunY Tryz.prog C 9 [] Tryz.f19 [a0, a1, a2] w Q := by kernel_rfl
theorem flotillalaw13_has_sound (a0 : Value) (a1 : Value) (a2 : Value) {w : World} {Q : Value → World → Prop} (h : flotillalaw13_has_x (std Tryz.prog) a0 a1 a2 w Q) : CallsR Tryz.prog 19 #[a0, a1, a2] w Q :=
  calls_of_funY mixed Tryz.func19 (Eq.mp (flotillalaw13_has_eq _ a0 a1 a2 w Q) h)

def flotillaref12_Has_k1 (C : Comb) (w : World) (Q : Value → World → Prop) : Prop :=
  Q (.bool false) w
def flotillaref12_Has_x (C : Comb) (a0 : Value) (a1 : Value) (w : World) (Q : Value → World → Prop) : Prop :=
  C.loop [(.bool false), (.int .i64 0)] w fun dv_1 vs_1 w again_1 =>
  C.step (sBuiltin .len #[44] 3 [false] [a0]) w fun v8_1 w =>
  C.step (sBin .lss 3 (.tmp 6) (.tmp 8) (vs_1.getD 1 undef) v8_1) w fun v9_1 w =>
  C.bool v9_1
  (C.step (sIndexAddr 44 a0 (vs_1.getD 1 undef)) w fun v14_1 w =>
  C.step (sLoad 3 v14_1) w fun v15_1 w =>
  C.step (sBin .eql 3 (.tmp 15) (.tmp 16) v15_1 a1) w fun v17_1 w =>
  C.bool v17_1
  (Q (.bool true) w)
  (C.step (sBin .add 3 (.tmp 10) (.const (.int .i64 1)) (vs_1.getD 1 undef) (.int .i64 1)) w fun v11_1 w =>
  again_1 [(vs_1.getD 0 undef), v11_1] w))
  (flotillaref12_Has_k1 C w Q)
theorem flotillaref12_Has_eq (C : Comb) (a0 : Value) (a1 : Value) (w : World) (Q : Value → World → Prop) : flotillaref12_Has_x C a0 a1 w Q = FunY Tryz.prog C 6 [] Tryz.f20 [a0, a1] w Q := by kernel_rfl
theorem flotillaref12_Has_sound (a0 : Value) (a1 : Value) {w : World} {Q : Value → World → Prop} (h : flotillaref12_Has_x (std Tryz.prog) a0 a1 w Q) : CallsR Tryz.prog 20 #[a0, a1] w Q :=
  calls_of_funY mixed Tryz.func20 (Eq.mp (flotillaref12_Has_eq _ a0 a1 w Q) h)

def lock_Table_Ask_k1 (C : Comb) (w : World) (Q : Value → World → Prop) : Prop :=
  Q (.tuple #[(.bool false), (.int .i64 1)]) w
def lock_Table_Ask_k5 (C : Comb) (a0 : Value) (a1 : Value) (v5_1 : Value) (w : World) (Q : Value → World → Prop) : Prop :=
  C.draw w fun S_3 w =>
  C.stepS S_3 (sNil a0) fun v142_1 =>
  C.stepS S_3 (sFieldAddr 67 v142_1 1) fun v143_1 =>
  C.stepS S_3 (sLoad 65 v143_1) fun v144_1 =>
  C.stepS S_3 (sLoad 31 v5_1) fun v146_1 =>
  C.step (sMapUpdate 65 v144_1 a1 v146_1) w fun vx_2 w =>
  C.keepT w fun S_4 =>
  Q (.tuple #[(.bool false), (.int .i64 0)]) w
def lock_Table_Ask_k4 (C : Comb) (a0 : Value) (a1 : Value) (v5_1 : Value) (u10_2 : Value) (v80_1 : Value) (w : World) (Q : Value → World → Prop) : Prop :=
  C.bool v80_1
  (C.step (sNil u10_2) w fun v123_1 w =>
  C.step (sFieldAddr 95 v123_1 1) w fun v124_1 w =>
  C.step (sLoad 44 v124_1) w fun v125_1 w =>
  C.step (sBuildSlice 44 1 [(0, a1)]) w fun v127_1 w =>
  C.step (sBuiltin .append #[44, 44] 44 [false, false] [v125_1, v127_1]) w fun v128_1 w =>
  C.step (sNil u10_2) w fun v129_1 w =>
  C.step (sFieldAddr 95 v129_1 1) w fun v130_1 w =>
  C.step (sStore 44 v130_1 v128_1) w fun vx_3 w =>
  lock_Table_Ask_k5 C a0 a1 v5_1 w Q)
  (C.step (sNil u10_2) w fun v133_1 w =>
  C.step (sFieldAddr 95 v133_1 2) w fun v134_1 w =>
  C.step (sLoad 44 v134_1) w fun v135_1 w =>
  C.step (sBuildSlice 44 1 [(0, a1)]) w fun v137_1 w =>
  C.step (sBuiltin .append #[44, 44] 44 [false, false] [v135_1, v137_1]) w fun v138_1 w =>
  C.step (sNil u10_2) w fun v139_1 w =>
  C.step (sFieldAddr 95 v139_1 2) w fun v140_1 w =>
  C.step (sStore 44 v140_1 v138_1) w fun vx_4 w =>
  lock_Table_Ask_k5 C a0 a1 v5_1 w Q)
def lock_Table_Ask_k3 (C : Comb) (a0 : Value) (a1 : Value) (v5_1 : Value) (u10_2 : Value) (v80_1 : Value) (w : World) (Q : Value → World → Prop) : Prop :=
  C.step (sFieldAddr 31 v5_1 1) w fun v90_1 w =>
  C.step (sLoad 29 v90_1) w fun v91_1 w =>
  C.calls 51 #[u10_2, a1, v91_1] w fun v92_1 w =>
  C.draw w fun S_5 w =>
  C.calls 52 #[u10_2, a1, v92_1] w fun v96_1 w =>
  C.keepT w fun S_6 =>
  C.bool v96_1
  (C.bool v80_1
  (C.step (sNil u10_2) w fun v115_1 w =>
  C.step (sFieldAddr 95 v115_1 0) w fun v116_1 w =>
  C.step (sLoad 93 v116_1) w fun v117_1 w =>
  C.step (sMapUpdate 93 v117_1 a1 v92_1) w fun vx_5 w =>
  Q (.tuple #[(.bool true), (.int .i64 0)]) w)
  (C.stepS S_6 (sNil u10_2) fun v101_1 =>
  C.stepS S_6 (sFieldAddr 95 v101_1 1) fun v102_1 =>
  C.stepS S_6 (sLoad 44 v102_1) fun v103_1 =>
  C.stepS S_6 (sBuiltin .len #[44] 3 [false] [v103_1]) fun v104_1 =>
  C.stepS S_6 (sNil u10_2) fun v106_1 =>
  C.stepS S_6 (sFieldAddr 95 v106_1 2) fun v107_1 =>
  C.stepS S_6 (sLoad 44 v107_1) fun v108_1 =>
  C.stepS S_6 (sBuiltin .len #[44] 3 [false] [v108_1]) fun v109_1 =>
  C.stepS S_6 (sBin .add 3 (.tmp 104) (.tmp 109) v104_1 v109_1) fun v110_1 =>
  C.stepS S_6 (sBin .eql 3 (.tmp 110) (.const (.int .i64 0)) v110_1 (.int .i64 0)) fun v111_1 =>
  C.bool v111_1
  (C.step (sNil u10_2) w fun v115_2 w =>
  C.step (sFieldAddr 95 v115_2 0) w fun v116_2 w =>
  C.step (sLoad 93 v116_2) w fun v117_2 w =>
  C.step (sMapUpdate 93 v117_2 a1 v92_1) w fun vx_6 w =>
  Q (.tuple #[(.bool true), (.int .i64 0)]) w)
  (lock_Table_Ask_k4 C a0 a1 v5_1 u10_2 v80_1 w Q)))
  (lock_Table_Ask_k4 C a0 a1 v5_1 u10_2 v80_1 w Q)
def lock_Table_Ask_k2 (C : Comb) (a0 : Value) (a1 : Value) (v5_1 : Value) (u10_2 : Value) (w : World) (Q : Value → World → Prop) : Prop :=
  C.step (sNil u10_2) w fun v74_1 w =>
  C.step (sFieldAddr 95 v74_1 0) w fun v75_1 w =>
  C.step (sLoad 93 v75_1) w fun v76_1 w =>
  C.step (sLookup 93 v76_1 a1 true) w fun v78_1 w =>
  C.step (sExtract v78_1 0) w fun v79_1 w =>
  C.step (sExtract v78_1 1) w fun v80_1 w =>
  C.bool v80_1
  (C.step (sFieldAddr 31 v5_1 1) w fun v84_1 w =>
  C.step (sLoad 29 v84_1) w fun v85_1 w =>
  C.calls 50 #[v79_1, v85_1] w fun v86_1 w =>
  C.bool v86_1
  (Q (.tuple #[(.bool true), (.int .i64 0)]) w)
  (lock_Table_Ask_k3 C a0 a1 v5_1 u10_2 v80_1 w Q))
  (lock_Table_Ask_k3 C a0 a1 v5_1 u10_2 v80_1 w Q)
def lock_Table_Ask_x (C : Comb) (a0 : Value) (a1 : Value) (a2 : Value) (w : World) (Q : Value → World → Prop) : Prop :=
  C.step (sBox 31 a2) w fun v5_1 w =>
  C.step (sBin .eql 23 (.tmp 14) (.const (.pointer none)) a0 (.pointer none)) w fun v15_1 w =>
  C.bool v15_1
  (lock_Table_Ask_k1 C w Q)
  (C.step (sBin .lss 3 (.tmp 17) (.const (.int .i64 1)) a1 (.int .i64 1)) w fun v18_1 w =>
  C.bool v18_1
  (lock_Table_Ask_k1 C w Q)
  (C.step (sFieldAddr 31 v5_1 0) w fun v21_1 w =>
  C.step (sLoad 9 v21_1) w fun v22_1 w =>
  C.step (sBuiltin .len #[9] 3 [false] [v22_1]) w fun v23_1 w =>
  C.step (sBin .lss 3 (.tmp 23) (.const (.int .i64 1)) v23_1 (.int .i64 1)) w fun v24_1 w =>
  C.bool v24_1
  (lock_Table_Ask_k1 C w Q)
  (C.step (sFieldAddr 31 v5_1 0) w fun v27_1 w =>
  C.step (sLoad 9 v27_1) w fun v28_1 w =>
  C.step (sBuiltin .len #[9] 3 [false] [v28_1]) w fun v29_1 w =>
  C.step (sBin .gtr 3 (.tmp 29) (.const (.int .i64 16)) v29_1 (.int .i64 16)) w fun v30_1 w =>
  C.bool v30_1
  (lock_Table_Ask_k1 C w Q)
  (C.step (sFieldAddr 31 v5_1 1) w fun v33_1 w =>
  C.step (sLoad 29 v33_1) w fun v34_1 w =>
  C.calls 49 #[v34_1] w fun v35_1 w =>
  C.step (sUn .not v35_1) w fun v36_1 w =>
  C.bool v36_1
  (lock_Table_Ask_k1 C w Q)
  (C.step (sFieldAddr 31 v5_1 1) w fun v39_1 w =>
  C.step (sLoad 29 v39_1) w fun v40_1 w =>
  C.step (sBin .eql 29 (.tmp 40) (.const (.int .i64 0)) v40_1 (.int .i64 0)) w fun v41_1 w =>
  C.bool v41_1
  (Q (.tuple #[(.bool false), (.int .i64 1)]) w)
  (C.step (sNil a0) w fun v45_1 w =>
  C.step (sFieldAddr 67 v45_1 1) w fun v46_1 w =>
  C.step (sLoad 65 v46_1) w fun v47_1 w =>
  C.step (sLookup 65 v47_1 a1 true) w fun v49_1 w =>
  C.step (sExtract v49_1 0) w fun v50_1 w =>
  C.step (sExtract v49_1 1) w fun v51_1 w =>
  C.step (sAlloc 31) w fun v8_1 w =>
  C.step (sStore 31 v8_1 v50_1) w fun vx_1 w =>
  C.bool v51_1
  (Q (.tuple #[(.bool false), (.int .i64 10)]) w)
  (C.draw w fun S_1 w =>
  C.stepS S_1 (sNil a0) fun v54_1 =>
  C.stepS S_1 (sFieldAddr 67 v54_1 0) fun v55_1 =>
  C.stepS S_1 (sLoad 64 v55_1) fun v56_1 =>
  C.stepS S_1 (sFieldAddr 31 v5_1 0) fun v57_1 =>
  C.stepS S_1 (sLoad 9 v57_1) fun v58_1 =>
  C.step (sLookup 64 v56_1 v58_1 false) w fun v59_1 w =>
  C.keepT w fun S_2 =>
  C.step (sBin .eql 92 (.tmp 60) (.const (.pointer none)) v59_1 (.pointer none)) w fun v61_1 w =>
  C.bool v61_1
  (C.step (sMakeMap 93 none) w fun v62_1 w =>
  C.step (sBuild 95 [(0, v62_1)]) w fun v63_1 w =>
  C.step (sBox 95 v63_1) w fun v64_1 w =>
  C.draw w fun S_7 w =>
  C.stepS S_7 (sNil a0) fun v66_1 =>
  C.stepS S_7 (sFieldAddr 67 v66_1 0) fun v67_1 =>
  C.stepS S_7 (sLoad 64 v67_1) fun v68_1 =>
  C.stepS S_7 (sFieldAddr 31 v5_1 0) fun v69_1 =>
  C.stepS S_7 (sLoad 9 v69_1) fun v70_1 =>
  C.step (sMapUpdate 64 v68_1 v70_1 v64_1) w fun vx_7 w =>
  C.keepT w fun S_8 =>
  lock_Table_Ask_k2 C a0 a1 v5_1 v64_1 w Q)
  (lock_Table_Ask_k2 C a0 a1 v5_1 v59_1 w Q))))))))
theorem lock_Table_Ask_eq (C : Comb) (a0 : Value) (a1 : Value) (a2 : Value) (w : World) (Q : Value → World → Prop) : lock_Table_Ask_x C a0 a1 a2 w Q = FunY Tryz.prog C 2 [] Tryz.f21 [a0, a1, a2] w Q := by kernel_rfl
theorem lock_Table_Ask_sound (a0 : Value) (a1 : Value) (a2 : Value) {w : World} {Q : Value → World → Prop} (h : lock_Table_Ask_x (std Tryz.prog) a0 a1 a2 w Q) : CallsR Tryz.prog 21 #[a0, a1, a2] w Q :=
  calls_of_funY mixed Tryz.func21 (Eq.mp (lock_Table_Ask_eq _ a0 a1 a2 w Q) h)

def lock_Table_Cancel_x (C : Comb) (a0 : Value) (a1 : Value) (w : World) (Q : Value → World → Prop) : Prop :=
  C.calls 48 #[a0, a1, (.bool false)] w fun v7_1 w =>
  Q v7_1 w
theorem lock_Table_Cancel_eq (C : Comb) (a0 : Value) (a1 : Value) (w : World) (Q : Value → World → Prop) : lock_Table_Cancel_x C a0 a1 w Q = FunY Tryz.prog C 4 [] Tryz.f22 [a0, a1] w Q := by kernel_rfl
theorem lock_Table_Cancel_sound (a0 : Value) (a1 : Value) {w : World} {Q : Value → World → Prop} (h : lock_Table_Cancel_x (std Tryz.prog) a0 a1 w Q) : CallsR Tryz.prog 22 #[a0, a1] w Q :=
  calls_of_funY mixed Tryz.func22 (Eq.mp (lock_Table_Cancel_eq _ a0 a1 w Q) h)

def lock_Table_Held_k1 (C : Comb) (u5_1 : Value) (w : World) (Q : Value → World → Prop) : Prop :=
  Q u5_1 w
def lock_Table_Held_k2 (C : Comb) (vs_1 : List Value) (again_1 : List Value → World → Prop) (u7_2 : Value) (u8_2 : Value) (u9_2 : Value) (u5_2 : Value) (w : World) (Q : Value → World → Prop) : Prop :=
  C.step (sBin .add 3 (.tmp 20) (.const (.int .i64 1)) (vs_1.getD 4 undef) (.int .i64 1)) w fun v45_1 w =>
  again_1 [u7_2, u8_2, u9_2, u5_2, v45_1] w
def lock_Table_Held_x (C : Comb) (a0 : Value) (a1 : Value) (w : World) (Q : Value → World → Prop) : Prop :=
  C.step (sBin .eql 23 (.tmp 10) (.const (.pointer none)) a0 (.pointer none)) w fun v11_1 w =>
  C.bool v11_1
  (Q (.slice none 0 0) w)
  (C.step (sNil a0) w fun v14_1 w =>
  C.step (sFieldAddr 67 v14_1 0) w fun v15_1 w =>
  C.step (sLoad 64 v15_1) w fun v16_1 w =>
  C.calls 54 #[v16_1] w fun v17_1 w =>
  C.calls 53 #[v17_1] w fun v18_1 w =>
  C.step (sBuiltin .len #[109] 3 [false] [v18_1]) w fun v19_1 w =>
  C.loop [undef, undef, undef, (.slice none 0 0), (.int .i64 0)] w fun dv_1 vs_1 w again_1 =>
  C.step (sBin .lss 3 (.tmp 20) (.tmp 19) (vs_1.getD 4 undef) v19_1) w fun v21_1 w =>
  C.bool v21_1
  (C.step (sIndexAddr 109 v18_1 (vs_1.getD 4 undef)) w fun v22_1 w =>
  C.step (sLoad 9 v22_1) w fun v23_1 w =>
  C.step (sNil a0) w fun v26_1 w =>
  C.step (sFieldAddr 67 v26_1 0) w fun v27_1 w =>
  C.step (sLoad 64 v27_1) w fun v28_1 w =>
  C.step (sLookup 64 v28_1 v23_1 false) w fun v30_1 w =>
  C.step (sNil v30_1) w fun v31_1 w =>
  C.step (sFieldAddr 95 v31_1 0) w fun v32_1 w =>
  C.step (sLoad 93 v32_1) w fun v33_1 w =>
  C.step (sLookup 93 v33_1 a1 true) w fun v35_1 w =>
  C.step (sExtract v35_1 0) w fun v36_1 w =>
  C.step (sExtract v35_1 1) w fun v37_1 w =>
  C.bool v37_1
  (C.step (sBuild 104 [(0, v23_1), (1, v36_1)]) w fun v42_1 w =>
  C.step (sBuildSlice 59 1 [(0, v42_1)]) w fun v43_1 w =>
  C.step (sBuiltin .append #[59, 59] 59 [false, false] [(vs_1.getD 3 undef), v43_1]) w fun v44_1 w =>
  lock_Table_Held_k2 C vs_1 again_1 v23_1 v36_1 v37_1 v44_1 w Q)
  (lock_Table_Held_k2 C vs_1 again_1 v23_1 v36_1 v37_1 (vs_1.getD 3 undef) w Q))
  (lock_Table_Held_k1 C (vs_1.getD 3 undef) w Q))
theorem lock_Table_Held_eq (C : Comb) (a0 : Value) (a1 : Value) (w : World) (Q : Value → World → Prop) : lock_Table_Held_x C a0 a1 w Q = FunY Tryz.prog C 10 [] Tryz.f23 [a0, a1] w Q := by kernel_rfl
theorem lock_Table_Held_sound (a0 : Value) (a1 : Value) {w : World} {Q : Value → World → Prop} (h : lock_Table_Held_x (std Tryz.prog) a0 a1 w Q) : CallsR Tryz.prog 23 #[a0, a1] w Q :=
  calls_of_funY mixed Tryz.func23 (Eq.mp (lock_Table_Held_eq _ a0 a1 w Q) h)

def flotillaref12_Same_k1 (C : Comb) (w : World) (Q : Value → World → Prop) : Prop :=
  Q (.bool true) w
def flotillaref12_Same_x (C : Comb) (a0 : Value) (a1 : Value) (w : World) (Q : Value → World → Prop) : Prop :=
  C.step (sBuiltin .len #[44] 3 [false] [a0]) w fun v7_1 w =>
  C.step (sBuiltin .len #[44] 3 [false] [a1]) w fun v9_1 w =>
  C.step (sBin .neq 3 (.tmp 7) (.tmp 9) v7_1 v9_1) w fun v10_1 w =>
  C.bool v10_1
  (Q (.bool false) w)
  (C.loop [(.bool false), (.int .i64 0)] w fun dv_1 vs_1 w again_1 =>
  C.step (sBuiltin .len #[44] 3 [false] [a0]) w fun v13_1 w =>
  C.step (sBin .lss 3 (.tmp 11) (.tmp 13) (vs_1.getD 1 undef) v13_1) w fun v14_1 w =>
  C.bool v14_1
  (C.draw w fun S_1 w =>
  C.stepS S_1 (sIndexAddr 44 a0 (vs_1.getD 1 undef)) fun v19_1 =>
  C.stepS S_1 (sLoad 3 v19_1) fun v20_1 =>
  C.stepS S_1 (sIndexAddr 44 a1 (vs_1.getD 1 undef)) fun v23_1 =>
  C.stepS S_1 (sLoad 3 v23_1) fun v24_1 =>
  C.stepS S_1 (sBin .neq 3 (.tmp 20) (.tmp 24) v20_1 v24_1) fun v25_1 =>
  C.bool v25_1
  (Q (.bool false) w)
  (C.step (sBin .add 3 (.tmp 15) (.const (.int .i64 1)) (vs_1.getD 1 undef) (.int .i64 1)) w fun v16_1 w =>
  again_1 [(vs_1.getD 0 undef), v16_1] w))
  (flotillaref12_Same_k1 C w Q))
theorem flotillaref12_Same_eq (C : Comb) (a0 : Value) (a1 : Value) (w : World) (Q : Value → World → Prop) : flotillaref12_Same_x C a0 a1 w Q = FunY Tryz.prog C 6 [] Tryz.f24 [a0, a1] w Q := by kernel_rfl
theorem flotillaref12_Same_sound (a0 : Value) (a1 : Value) {w : World} {Q : Value → World → Prop} (h : flotillaref12_Same_x (std Tryz.prog) a0 a1 w Q) : CallsR Tryz.prog 24 #[a0, a1] w Q :=
  calls_of_funY mixed Tryz.func24 (Eq.mp (flotillaref12_Same_eq _ a0 a1 w Q) h)

def flotillalaw13_sameHeld_k1 (C : Comb) (w : World) (Q : Value → World → Prop) : Prop :=
  Q (.bool true) w
def flotillalaw13_sameHeld_x (C : Comb) (a0 : Value) (a1 : Value) (w : World) (Q : Value → World → Prop) : Prop :=
  C.step (sBuiltin .len #[59] 3 [false] [a0]) w fun v7_1 w =>
  C.step (sBuiltin .len #[59] 3 [false] [a1]) w fun v9_1 w =>
  C.step (sBin .neq 3 (.tmp 7) (.tmp 9) v7_1 v9_1) w fun v10_1 w =>
  C.bool v10_1
  (Q (.bool false) w)
  (C.loop [(.bool false), (.int .i64 0)] w fun dv_1 vs_1 w again_1 =>
  C.step (sBuiltin .len #[59] 3 [false] [a0]) w fun v13_1 w =>
  C.step (sBin .lss 3 (.tmp 11) (.tmp 13) (vs_1.getD 1 undef) v13_1) w fun v14_1 w =>
  C.bool v14_1
  (C.draw w fun S_1 w =>
  C.stepS S_1 (sIndexAddr 59 a0 (vs_1.getD 1 undef)) fun v19_1 =>
  C.stepS S_1 (sLoad 104 v19_1) fun v20_1 =>
  C.stepS S_1 (sIndexAddr 59 a1 (vs_1.getD 1 undef)) fun v23_1 =>
  C.stepS S_1 (sLoad 104 v23_1) fun v24_1 =>
  C.stepS S_1 (sBin .neq 104 (.tmp 20) (.tmp 24) v20_1 v24_1) fun v25_1 =>
  C.bool v25_1
  (Q (.bool false) w)
  (C.step (sBin .add 3 (.tmp 15) (.const (.int .i64 1)) (vs_1.getD 1 undef) (.int .i64 1)) w fun v16_1 w =>
  again_1 [(vs_1.getD 0 undef), v16_1] w))
  (flotillalaw13_sameHeld_k1 C w Q))
theorem flotillalaw13_sameHeld_eq (C : Comb) (a0 : Value) (a1 : Value) (w : World) (Q : Value → World → Prop) : flotillalaw13_sameHeld_x C a0 a1 w Q = FunY Tryz.prog C 6 [] Tryz.f25 [a0, a1] w Q := by kernel_rfl
theorem flotillalaw13_sameHeld_sound (a0 : Value) (a1 : Value) {w : World} {Q : Value → World → Prop} (h : flotillalaw13_sameHeld_x (std Tryz.prog) a0 a1 w Q) : CallsR Tryz.prog 25 #[a0, a1] w Q :=
  calls_of_funY mixed Tryz.func25 (Eq.mp (flotillalaw13_sameHeld_eq _ a0 a1 w Q) h)

def flotillaref13_Ask_k1 (C : Comb) (v3_1 : Value) (v6_1 : Value) (w : World) (Q : Value → World → Prop) : Prop :=
  C.step (sLoad 27 v3_1) w fun v37_1 w =>
  C.step (sStore 27 v6_1 v37_1) w fun vx_1 w =>
  C.loadR 27 v6_1 w fun r_1 =>
  Q (.tuple #[r_1, (.bool false), (.int .i64 1)]) w
def flotillaref13_Ask_k3 (C : Comb) (a1 : Value) (v3_1 : Value) (v5_1 : Value) (v6_1 : Value) (v50_1 : Value) (w : World) (Q : Value → World → Prop) : Prop :=
  C.step (sFieldAddr 27 v3_1 1) w fun v87_1 w =>
  C.step (sLoad 25 v87_1) w fun v88_1 w =>
  C.step (sBuiltin .append #[25, 25] 25 [false, false] [(.slice none 0 0), v88_1]) w fun v89_1 w =>
  C.step (sFieldAddr 31 v5_1 0) w fun v92_1 w =>
  C.step (sLoad 9 v92_1) w fun v93_1 w =>
  C.step (sFieldAddr 31 v5_1 1) w fun v94_1 w =>
  C.step (sLoad 29 v94_1) w fun v95_1 w =>
  C.step (sBin .neq 29 (.tmp 96) (.const (.int .i64 0)) v50_1 (.int .i64 0)) w fun v97_1 w =>
  C.step (sBuild 85 [(0, a1), (1, v93_1), (2, v95_1), (3, v97_1)]) w fun v98_1 w =>
  C.step (sBuildSlice 25 1 [(0, v98_1)]) w fun v99_1 w =>
  C.step (sBuiltin .append #[25, 25] 25 [false, false] [v89_1, v99_1]) w fun v100_1 w =>
  C.step (sFieldAddr 27 v3_1 0) w fun v101_1 w =>
  C.step (sLoad 25 v101_1) w fun v102_1 w =>
  C.step (sBuild 27 [(0, v102_1), (1, v100_1)]) w fun v104_1 w =>
  C.step (sStore 27 v6_1 v104_1) w fun vx_5 w =>
  C.loadR 27 v6_1 w fun r_4 =>
  Q (.tuple #[r_4, (.bool false), (.int .i64 0)]) w
def flotillaref13_Ask_k2 (C : Comb) (a1 : Value) (v3_1 : Value) (v5_1 : Value) (v6_1 : Value) (v50_1 : Value) (w : World) (Q : Value → World → Prop) : Prop :=
  C.step (sLoad 27 v3_1) w fun v60_1 w =>
  C.step (sFieldAddr 31 v5_1 0) w fun v62_1 w =>
  C.step (sLoad 9 v62_1) w fun v63_1 w =>
  C.step (sFieldAddr 31 v5_1 1) w fun v64_1 w =>
  C.step (sLoad 29 v64_1) w fun v65_1 w =>
  C.calls 56 #[v60_1, a1, v63_1, v65_1] w fun v66_1 w =>
  C.bool v66_1
  (C.step (sBin .neq 29 (.tmp 68) (.const (.int .i64 0)) v50_1 (.int .i64 0)) w fun v69_1 w =>
  C.bool v69_1
  (C.step (sLoad 27 v3_1) w fun v79_1 w =>
  C.step (sFieldAddr 31 v5_1 0) w fun v81_1 w =>
  C.step (sLoad 9 v81_1) w fun v82_1 w =>
  C.step (sFieldAddr 31 v5_1 1) w fun v83_1 w =>
  C.step (sLoad 29 v83_1) w fun v84_1 w =>
  C.calls 57 #[v79_1, a1, v82_1, v84_1] w fun v85_1 w =>
  C.step (sStore 27 v6_1 v85_1) w fun vx_6 w =>
  C.loadR 27 v6_1 w fun r_5 =>
  Q (.tuple #[r_5, (.bool true), (.int .i64 0)]) w)
  (C.step (sLoad 27 v3_1) w fun v71_1 w =>
  C.step (sFieldAddr 31 v5_1 0) w fun v72_1 w =>
  C.step (sLoad 9 v72_1) w fun v73_1 w =>
  C.calls 42 #[v71_1, v73_1] w fun v74_1 w =>
  C.step (sBuiltin .len #[25] 3 [false] [v74_1]) w fun v75_1 w =>
  C.step (sBin .eql 3 (.tmp 75) (.const (.int .i64 0)) v75_1 (.int .i64 0)) w fun v76_1 w =>
  C.bool v76_1
  (C.step (sLoad 27 v3_1) w fun v79_2 w =>
  C.step (sFieldAddr 31 v5_1 0) w fun v81_2 w =>
  C.step (sLoad 9 v81_2) w fun v82_2 w =>
  C.step (sFieldAddr 31 v5_1 1) w fun v83_2 w =>
  C.step (sLoad 29 v83_2) w fun v84_2 w =>
  C.calls 57 #[v79_2, a1, v82_2, v84_2] w fun v85_2 w =>
  C.step (sStore 27 v6_1 v85_2) w fun vx_7 w =>
  C.loadR 27 v6_1 w fun r_6 =>
  Q (.tuple #[r_6, (.bool true), (.int .i64 0)]) w)
  (flotillaref13_Ask_k3 C a1 v3_1 v5_1 v6_1 v50_1 w Q)))
  (flotillaref13_Ask_k3 C a1 v3_1 v5_1 v6_1 v50_1 w Q)
def flotillaref13_Ask_x (C : Comb) (a0 : Value) (a1 : Value) (a2 : Value) (w : World) (Q : Value → World → Prop) : Prop :=
  C.step (sBox 27 a0) w fun v3_1 w =>
  C.step (sBox 31 a2) w fun v5_1 w =>
  C.step (sAlloc 27) w fun v6_1 w =>
  C.step (sBin .lss 3 (.tmp 13) (.const (.int .i64 1)) a1 (.int .i64 1)) w fun v14_1 w =>
  C.bool v14_1
  (flotillaref13_Ask_k1 C v3_1 v6_1 w Q)
  (C.step (sFieldAddr 31 v5_1 0) w fun v16_1 w =>
  C.step (sLoad 9 v16_1) w fun v17_1 w =>
  C.step (sBuiltin .len #[9] 3 [false] [v17_1]) w fun v18_1 w =>
  C.step (sBin .lss 3 (.tmp 18) (.const (.int .i64 1)) v18_1 (.int .i64 1)) w fun v19_1 w =>
  C.bool v19_1
  (flotillaref13_Ask_k1 C v3_1 v6_1 w Q)
  (C.step (sFieldAddr 31 v5_1 0) w fun v22_1 w =>
  C.step (sLoad 9 v22_1) w fun v23_1 w =>
  C.step (sBuiltin .len #[9] 3 [false] [v23_1]) w fun v24_1 w =>
  C.step (sBin .gtr 3 (.tmp 24) (.const (.int .i64 16)) v24_1 (.int .i64 16)) w fun v25_1 w =>
  C.bool v25_1
  (flotillaref13_Ask_k1 C v3_1 v6_1 w Q)
  (C.step (sFieldAddr 31 v5_1 1) w fun v28_1 w =>
  C.step (sLoad 29 v28_1) w fun v29_1 w =>
  C.step (sBin .lss 29 (.tmp 29) (.const (.int .i64 1)) v29_1 (.int .i64 1)) w fun v30_1 w =>
  C.bool v30_1
  (flotillaref13_Ask_k1 C v3_1 v6_1 w Q)
  (C.step (sFieldAddr 31 v5_1 1) w fun v33_1 w =>
  C.step (sLoad 29 v33_1) w fun v34_1 w =>
  C.step (sBin .gtr 29 (.tmp 34) (.const (.int .i64 5)) v34_1 (.int .i64 5)) w fun v35_1 w =>
  C.bool v35_1
  (C.step (sLoad 27 v3_1) w fun v37_2 w =>
  C.step (sStore 27 v6_1 v37_2) w fun vx_2 w =>
  C.loadR 27 v6_1 w fun r_2 =>
  Q (.tuple #[r_2, (.bool false), (.int .i64 1)]) w)
  (C.step (sLoad 27 v3_1) w fun v39_1 w =>
  C.calls 29 #[v39_1, a1] w fun v41_1 w =>
  C.step (sExtract v41_1 0) w fun v42_1 w =>
  C.step (sExtract v41_1 1) w fun v43_1 w =>
  C.step (sAlloc 31) w fun v9_1 w =>
  C.step (sStore 31 v9_1 v42_1) w fun vx_3 w =>
  C.bool v43_1
  (C.step (sLoad 27 v3_1) w fun v45_1 w =>
  C.step (sStore 27 v6_1 v45_1) w fun vx_4 w =>
  C.loadR 27 v6_1 w fun r_3 =>
  Q (.tuple #[r_3, (.bool false), (.int .i64 10)]) w)
  (C.step (sLoad 27 v3_1) w fun v46_1 w =>
  C.step (sFieldAddr 31 v5_1 0) w fun v48_1 w =>
  C.step (sLoad 9 v48_1) w fun v49_1 w =>
  C.calls 39 #[v46_1, a1, v49_1] w fun v50_1 w =>
  C.step (sBin .neq 29 (.tmp 51) (.const (.int .i64 0)) v50_1 (.int .i64 0)) w fun v52_1 w =>
  C.bool v52_1
  (C.step (sFieldAddr 31 v5_1 1) w fun v55_1 w =>
  C.step (sLoad 29 v55_1) w fun v56_1 w =>
  C.calls 55 #[v50_1, v56_1] w fun v57_1 w =>
  C.bool v57_1
  (C.step (sLoad 27 v3_1) w fun v59_1 w =>
  C.step (sStore 27 v6_1 v59_1) w fun vx_8 w =>
  C.loadR 27 v6_1 w fun r_7 =>
  Q (.tuple #[r_7, (.bool true), (.int .i64 0)]) w)
  (flotillaref13_Ask_k2 C a1 v3_1 v5_1 v6_1 v50_1 w Q))
  (flotillaref13_Ask_k2 C a1 v3_1 v5_1 v6_1 v50_1 w Q)))))))
theorem flotillaref13_Ask_eq (C : Comb) (a0 : Value) (a1 : Value) (a2 : Value) (w : World) (Q : Value → World → Prop) : flotillaref13_Ask_x C a0 a1 a2 w Q = FunY Tryz.prog C 2 [] Tryz.f26 [a0, a1, a2] w Q := by kernel_rfl
theorem flotillaref13_Ask_sound (a0 : Value) (a1 : Value) (a2 : Value) {w : World} {Q : Value → World → Prop} (h : flotillaref13_Ask_x (std Tryz.prog) a0 a1 a2 w Q) : CallsR Tryz.prog 26 #[a0, a1, a2] w Q :=
  calls_of_funY mixed Tryz.func26 (Eq.mp (flotillaref13_Ask_eq _ a0 a1 a2 w Q) h)

def flotillaref13_Gone_k2 (C : Comb) (v3_1 : Value) (v6_1 : Value) (u11_2 : Value) (w : World) (Q : Value → World → Prop) : Prop :=
  C.step (sLoad 27 v3_1) w fun v107_1 w =>
  C.step (sStore 27 v6_1 v107_1) w fun vx_2 w =>
  C.loadR 27 v6_1 w fun r_1 =>
  Q (.tuple #[r_1, u11_2]) w
def flotillaref13_Gone_k3 (C : Comb) (vs_1 : List Value) (again_1 : List Value → World → Prop) (u11_3 : Value) (w : World) (Q : Value → World → Prop) : Prop :=
  C.step (sBin .add 3 (.tmp 52) (.const (.int .i64 1)) (vs_1.getD 1 undef) (.int .i64 1)) w fun v53_1 w =>
  again_1 [u11_3, v53_1] w
def flotillaref13_Gone_k1 (C : Comb) (v3_1 : Value) (v6_1 : Value) (v17_1 : Value) (w : World) (Q : Value → World → Prop) : Prop :=
  C.loop [(.slice none 0 0), (.int .i64 0)] w fun dv_1 vs_1 w again_1 =>
  C.step (sBuiltin .len #[109] 3 [false] [v17_1]) w fun v50_1 w =>
  C.step (sBin .lss 3 (.tmp 48) (.tmp 50) (vs_1.getD 1 undef) v50_1) w fun v51_1 w =>
  C.bool v51_1
  (C.loop [(vs_1.getD 0 undef)] w fun dv_2 vs_2 w again_2 =>
  C.draw w fun S_1 w =>
  C.stepS S_1 (sLoad 27 v3_1) fun v54_1 =>
  C.stepS S_1 (sIndexAddr 109 v17_1 (vs_1.getD 1 undef)) fun v57_1 =>
  C.stepS S_1 (sLoad 9 v57_1) fun v58_1 =>
  C.calls 42 #[v54_1, v58_1] w fun v59_1 w =>
  C.keepT w fun S_2 =>
  C.draw w fun S_3 w =>
  C.stepS S_3 (sBuiltin .len #[25] 3 [false] [v59_1]) fun v61_1 =>
  C.stepS S_3 (sBin .eql 3 (.tmp 61) (.const (.int .i64 0)) v61_1 (.int .i64 0)) fun v62_1 =>
  C.bool v62_1
  (flotillaref13_Gone_k3 C vs_1 again_1 (vs_2.getD 0 undef) w Q)
  (C.stepS S_3 (sLoad 27 v3_1) fun v64_1 =>
  C.stepS S_3 (sIndexAddr 25 v59_1 (.int .i64 0)) fun v66_1 =>
  C.stepS S_3 (sFieldAddr 85 v66_1 0) fun v67_1 =>
  C.stepS S_3 (sLoad 3 v67_1) fun v68_1 =>
  C.stepS S_3 (sIndexAddr 109 v17_1 (vs_1.getD 1 undef)) fun v71_1 =>
  C.stepS S_3 (sLoad 9 v71_1) fun v72_1 =>
  C.stepS S_3 (sIndexAddr 25 v59_1 (.int .i64 0)) fun v74_1 =>
  C.stepS S_3 (sFieldAddr 85 v74_1 2) fun v75_1 =>
  C.stepS S_3 (sLoad 29 v75_1) fun v76_1 =>
  C.calls 56 #[v64_1, v68_1, v72_1, v76_1] w fun v77_1 w =>
  C.keepT w fun S_4 =>
  C.stepS S_4 (sUn .not v77_1) fun v78_1 =>
  C.bool v78_1
  (flotillaref13_Gone_k3 C vs_1 again_1 (vs_2.getD 0 undef) w Q)
  (C.draw w fun S_5 w =>
  C.stepS S_5 (sLoad 27 v3_1) fun v80_1 =>
  C.stepS S_5 (sIndexAddr 25 v59_1 (.int .i64 0)) fun v82_1 =>
  C.stepS S_5 (sFieldAddr 85 v82_1 0) fun v83_1 =>
  C.stepS S_5 (sLoad 3 v83_1) fun v84_1 =>
  C.calls 59 #[v80_1, v84_1] w fun v85_1 w =>
  C.keepT w fun S_6 =>
  C.stepS S_6 (sFieldAddr 27 v3_1 1) fun v86_1 =>
  C.step (sStore 25 v86_1 v85_1) w fun vx_3 w =>
  C.keepT w fun S_7 =>
  C.draw w fun S_8 w =>
  C.stepS S_8 (sLoad 27 v3_1) fun v87_1 =>
  C.stepS S_8 (sIndexAddr 25 v59_1 (.int .i64 0)) fun v89_1 =>
  C.stepS S_8 (sFieldAddr 85 v89_1 0) fun v90_1 =>
  C.stepS S_8 (sLoad 3 v90_1) fun v91_1 =>
  C.stepS S_8 (sIndexAddr 109 v17_1 (vs_1.getD 1 undef)) fun v94_1 =>
  C.stepS S_8 (sLoad 9 v94_1) fun v95_1 =>
  C.stepS S_8 (sIndexAddr 25 v59_1 (.int .i64 0)) fun v97_1 =>
  C.stepS S_8 (sFieldAddr 85 v97_1 2) fun v98_1 =>
  C.stepS S_8 (sLoad 29 v98_1) fun v99_1 =>
  C.calls 57 #[v87_1, v91_1, v95_1, v99_1] w fun v100_1 w =>
  C.keepT w fun S_9 =>
  C.step (sStore 27 v3_1 v100_1) w fun vx_4 w =>
  C.keepT w fun S_10 =>
  C.step (sIndexAddr 25 v59_1 (.int .i64 0)) w fun v103_1 w =>
  C.step (sLoad 85 v103_1) w fun v104_1 w =>
  C.step (sBuildSlice 25 1 [(0, v104_1)]) w fun v105_1 w =>
  C.step (sBuiltin .append #[25, 25] 25 [false, false] [(vs_2.getD 0 undef), v105_1]) w fun v106_1 w =>
  again_2 [v106_1] w)))
  (flotillaref13_Gone_k2 C v3_1 v6_1 (vs_1.getD 0 undef) w Q)
def flotillaref13_Gone_k4 (C : Comb) (v3_1 : Value) (v6_1 : Value) (v17_1 : Value) (u9_4 : Value) (w : World) (Q : Value → World → Prop) : Prop :=
  C.step (sFieldAddr 27 v3_1 0) w fun v47_1 w =>
  C.step (sStore 25 v47_1 u9_4) w fun vx_5 w =>
  flotillaref13_Gone_k1 C v3_1 v6_1 v17_1 w Q
def flotillaref13_Gone_k5 (C : Comb) (vs_3 : List Value) (again_3 : List Value → World → Prop) (u9_5 : Value) (w : World) (Q : Value → World → Prop) : Prop :=
  C.step (sBin .add 3 (.tmp 28) (.const (.int .i64 1)) (vs_3.getD 1 undef) (.int .i64 1)) w fun v29_1 w =>
  again_3 [u9_5, v29_1] w
def flotillaref13_Gone_x (C : Comb) (a0 : Value) (a1 : Value) (a2 : Value) (w : World) (Q : Value → World → Prop) : Prop :=
  C.step (sBox 27 a0) w fun v3_1 w =>
  C.step (sAlloc 27) w fun v6_1 w =>
  C.step (sLoad 27 v3_1) w fun v14_1 w =>
  C.calls 58 #[v14_1, a1, a2] w fun v17_1 w =>
  C.step (sLoad 27 v3_1) w fun v18_1 w =>
  C.calls 59 #[v18_1, a1] w fun v20_1 w =>
  C.step (sFieldAddr 27 v3_1 1) w fun v21_1 w =>
  C.step (sStore 25 v21_1 v20_1) w fun vx_1 w =>
  C.bool a2
  (C.loop [(.slice none 0 0), (.int .i64 0)] w fun dv_3 vs_3 w again_3 =>
  C.step (sFieldAddr 27 v3_1 0) w fun v24_1 w =>
  C.step (sLoad 25 v24_1) w fun v25_1 w =>
  C.step (sBuiltin .len #[25] 3 [false] [v25_1]) w fun v26_1 w =>
  C.step (sBin .lss 3 (.tmp 23) (.tmp 26) (vs_3.getD 1 undef) v26_1) w fun v27_1 w =>
  C.bool v27_1
  (C.step (sFieldAddr 27 v3_1 0) w fun v30_1 w =>
  C.step (sLoad 25 v30_1) w fun v31_1 w =>
  C.step (sIndexAddr 25 v31_1 (vs_3.getD 1 undef)) w fun v33_1 w =>
  C.step (sFieldAddr 85 v33_1 0) w fun v34_1 w =>
  C.step (sLoad 3 v34_1) w fun v35_1 w =>
  C.step (sBin .neq 3 (.tmp 35) (.tmp 36) v35_1 a1) w fun v37_1 w =>
  C.bool v37_1
  (C.step (sFieldAddr 27 v3_1 0) w fun v39_1 w =>
  C.step (sLoad 25 v39_1) w fun v40_1 w =>
  C.step (sIndexAddr 25 v40_1 (vs_3.getD 1 undef)) w fun v42_1 w =>
  C.step (sLoad 85 v42_1) w fun v43_1 w =>
  C.step (sBuildSlice 25 1 [(0, v43_1)]) w fun v44_1 w =>
  C.step (sBuiltin .append #[25, 25] 25 [false, false] [(vs_3.getD 0 undef), v44_1]) w fun v45_1 w =>
  flotillaref13_Gone_k5 C vs_3 again_3 v45_1 w Q)
  (flotillaref13_Gone_k5 C vs_3 again_3 (vs_3.getD 0 undef) w Q))
  (flotillaref13_Gone_k4 C v3_1 v6_1 v17_1 (vs_3.getD 0 undef) w Q))
  (flotillaref13_Gone_k1 C v3_1 v6_1 v17_1 w Q)
theorem flotillaref13_Gone_eq (C : Comb) (a0 : Value) (a1 : Value) (a2 : Value) (w : World) (Q : Value → World → Prop) : flotillaref13_Gone_x C a0 a1 a2 w Q = FunY Tryz.prog C 2 [] Tryz.f27 [a0, a1, a2] w Q := by kernel_rfl
theorem flotillaref13_Gone_sound (a0 : Value) (a1 : Value) (a2 : Value) {w : World} {Q : Value → World → Prop} (h : flotillaref13_Gone_x (std Tryz.prog) a0 a1 a2 w Q) : CallsR Tryz.prog 27 #[a0, a1, a2] w Q :=
  calls_of_funY mixed Tryz.func27 (Eq.mp (flotillaref13_Gone_eq _ a0 a1 a2 w Q) h)

def flotillalaw13_sameGrants_k1 (C : Comb) (w : World) (Q : Value → World → Prop) : Prop :=
  Q (.bool true) w
def flotillalaw13_sameGrants_k2 (C : Comb) (w : World) (Q : Value → World → Prop) : Prop :=
  Q (.bool false) w
def flotillalaw13_sameGrants_x (C : Comb) (a0 : Value) (a1 : Value) (w : World) (Q : Value → World → Prop) : Prop :=
  C.step (sBuiltin .len #[50] 3 [false] [a0]) w fun v7_1 w =>
  C.step (sBuiltin .len #[25] 3 [false] [a1]) w fun v9_1 w =>
  C.step (sBin .neq 3 (.tmp 7) (.tmp 9) v7_1 v9_1) w fun v10_1 w =>
  C.bool v10_1
  (Q (.bool false) w)
  (C.loop [(.bool false), (.int .i64 0)] w fun dv_1 vs_1 w again_1 =>
  C.step (sBuiltin .len #[50] 3 [false] [a0]) w fun v13_1 w =>
  C.step (sBin .lss 3 (.tmp 11) (.tmp 13) (vs_1.getD 1 undef) v13_1) w fun v14_1 w =>
  C.bool v14_1
  (C.draw w fun S_1 w =>
  C.stepS S_1 (sIndexAddr 50 a0 (vs_1.getD 1 undef)) fun v19_1 =>
  C.stepS S_1 (sFieldAddr 53 v19_1 0) fun v20_1 =>
  C.stepS S_1 (sLoad 3 v20_1) fun v21_1 =>
  C.stepS S_1 (sIndexAddr 25 a1 (vs_1.getD 1 undef)) fun v24_1 =>
  C.stepS S_1 (sFieldAddr 85 v24_1 0) fun v25_1 =>
  C.stepS S_1 (sLoad 3 v25_1) fun v26_1 =>
  C.stepS S_1 (sBin .neq 3 (.tmp 21) (.tmp 26) v21_1 v26_1) fun v27_1 =>
  C.bool v27_1
  (flotillalaw13_sameGrants_k2 C w Q)
  (C.stepS S_1 (sIndexAddr 50 a0 (vs_1.getD 1 undef)) fun v31_1 =>
  C.stepS S_1 (sFieldAddr 53 v31_1 1) fun v32_1 =>
  C.stepS S_1 (sFieldAddr 31 v32_1 0) fun v33_1 =>
  C.stepS S_1 (sLoad 9 v33_1) fun v34_1 =>
  C.stepS S_1 (sIndexAddr 25 a1 (vs_1.getD 1 undef)) fun v37_1 =>
  C.stepS S_1 (sFieldAddr 85 v37_1 1) fun v38_1 =>
  C.stepS S_1 (sLoad 9 v38_1) fun v39_1 =>
  C.stepS S_1 (sBin .neq 9 (.tmp 34) (.tmp 39) v34_1 v39_1) fun v40_1 =>
  C.bool v40_1
  (flotillalaw13_sameGrants_k2 C w Q)
  (C.stepS S_1 (sIndexAddr 50 a0 (vs_1.getD 1 undef)) fun v45_1 =>
  C.stepS S_1 (sFieldAddr 53 v45_1 1) fun v46_1 =>
  C.stepS S_1 (sFieldAddr 31 v46_1 1) fun v47_1 =>
  C.stepS S_1 (sLoad 29 v47_1) fun v48_1 =>
  C.stepS S_1 (sIndexAddr 25 a1 (vs_1.getD 1 undef)) fun v51_1 =>
  C.stepS S_1 (sFieldAddr 85 v51_1 2) fun v52_1 =>
  C.stepS S_1 (sLoad 29 v52_1) fun v53_1 =>
  C.stepS S_1 (sBin .neq 29 (.tmp 48) (.tmp 53) v48_1 v53_1) fun v54_1 =>
  C.bool v54_1
  (Q (.bool false) w)
  (C.step (sBin .add 3 (.tmp 15) (.const (.int .i64 1)) (vs_1.getD 1 undef) (.int .i64 1)) w fun v16_1 w =>
  again_1 [(vs_1.getD 0 undef), v16_1] w))))
  (flotillalaw13_sameGrants_k1 C w Q))
theorem flotillalaw13_sameGrants_eq (C : Comb) (a0 : Value) (a1 : Value) (w : World) (Q : Value → World → Prop) : flotillalaw13_sameGrants_x C a0 a1 w Q = FunY Tryz.prog C 6 [] Tryz.f28 [a0, a1] w Q := by kernel_rfl
theorem flotillalaw13_sameGrants_sound (a0 : Value) (a1 : Value) {w : World} {Q : Value → World → Prop} (h : flotillalaw13_sameGrants_x (std Tryz.prog) a0 a1 w Q) : CallsR Tryz.prog 28 #[a0, a1] w Q :=
  calls_of_funY mixed Tryz.func28 (Eq.mp (flotillalaw13_sameGrants_eq _ a0 a1 w Q) h)

def flotillaref13_Waits_k1 (C : Comb) (v4_1 : Value) (w : World) (Q : Value → World → Prop) : Prop :=
  C.step (sBuild 31 []) w fun v35_1 w =>
  C.step (sStore 31 v4_1 v35_1) w fun vx_1 w =>
  C.loadR 31 v4_1 w fun r_1 =>
  Q (.tuple #[r_1, (.bool false)]) w
def flotillaref13_Waits_x (C : Comb) (a0 : Value) (a1 : Value) (w : World) (Q : Value → World → Prop) : Prop :=
  C.step (sBox 27 a0) w fun v2_1 w =>
  C.step (sAlloc 31) w fun v4_1 w =>
  C.loop [(.bool false), (.int .i64 0)] w fun dv_1 vs_1 w again_1 =>
  C.step (sFieldAddr 27 v2_1 1) w fun v8_1 w =>
  C.step (sLoad 25 v8_1) w fun v9_1 w =>
  C.step (sBuiltin .len #[25] 3 [false] [v9_1]) w fun v10_1 w =>
  C.step (sBin .lss 3 (.tmp 7) (.tmp 10) (vs_1.getD 1 undef) v10_1) w fun v11_1 w =>
  C.bool v11_1
  (C.step (sFieldAddr 27 v2_1 1) w fun v14_1 w =>
  C.step (sLoad 25 v14_1) w fun v15_1 w =>
  C.step (sIndexAddr 25 v15_1 (vs_1.getD 1 undef)) w fun v17_1 w =>
  C.step (sFieldAddr 85 v17_1 0) w fun v18_1 w =>
  C.step (sLoad 3 v18_1) w fun v19_1 w =>
  C.step (sBin .eql 3 (.tmp 19) (.tmp 20) v19_1 a1) w fun v21_1 w =>
  C.bool v21_1
  (C.draw w fun S_1 w =>
  C.stepS S_1 (sFieldAddr 27 v2_1 1) fun v22_1 =>
  C.stepS S_1 (sLoad 25 v22_1) fun v23_1 =>
  C.stepS S_1 (sIndexAddr 25 v23_1 (vs_1.getD 1 undef)) fun v25_1 =>
  C.stepS S_1 (sFieldAddr 85 v25_1 1) fun v26_1 =>
  C.stepS S_1 (sLoad 9 v26_1) fun v27_1 =>
  C.stepS S_1 (sFieldAddr 27 v2_1 1) fun v28_1 =>
  C.stepS S_1 (sLoad 25 v28_1) fun v29_1 =>
  C.stepS S_1 (sIndexAddr 25 v29_1 (vs_1.getD 1 undef)) fun v31_1 =>
  C.stepS S_1 (sFieldAddr 85 v31_1 2) fun v32_1 =>
  C.stepS S_1 (sLoad 29 v32_1) fun v33_1 =>
  C.step (sBuild 31 [(0, v27_1), (1, v33_1)]) w fun v34_1 w =>
  C.keepT w fun S_2 =>
  C.step (sStore 31 v4_1 v34_1) w fun vx_2 w =>
  C.keepT w fun S_3 =>
  C.loadR 31 v4_1 w fun r_2 =>
  Q (.tuple #[r_2, (.bool true)]) w)
  (C.step (sBin .add 3 (.tmp 12) (.const (.int .i64 1)) (vs_1.getD 1 undef) (.int .i64 1)) w fun v13_1 w =>
  again_1 [(vs_1.getD 0 undef), v13_1] w))
  (flotillaref13_Waits_k1 C v4_1 w Q)
theorem flotillaref13_Waits_eq (C : Comb) (a0 : Value) (a1 : Value) (w : World) (Q : Value → World → Prop) : flotillaref13_Waits_x C a0 a1 w Q = FunY Tryz.prog C 7 [] Tryz.f29 [a0, a1] w Q := by kernel_rfl
theorem flotillaref13_Waits_sound (a0 : Value) (a1 : Value) {w : World} {Q : Value → World → Prop} (h : flotillaref13_Waits_x (std Tryz.prog) a0 a1 w Q) : CallsR Tryz.prog 29 #[a0, a1] w Q :=
  calls_of_funY mixed Tryz.func29 (Eq.mp (flotillaref13_Waits_eq _ a0 a1 w Q) h)

def flotillaref13_Victim_x (C : Comb) (a0 : Value) (a1 : Value) (w : World) (Q : Value → World → Prop) : Prop :=
  C.step (sBox 27 a0) w fun v2_1 w =>
  C.step (sLoad 27 v2_1) w fun v6_1 w =>
  C.calls 13 #[v6_1] w fun v7_1 w =>
  C.calls 60 #[v7_1, a1] w fun v9_1 w =>
  C.step (sBuiltin .len #[44] 3 [false] [v9_1]) w fun v11_1 w =>
  C.step (sBin .eql 3 (.tmp 11) (.const (.int .i64 0)) v11_1 (.int .i64 0)) w fun v12_1 w =>
  C.bool v12_1
  (Q (.int .i64 0) w)
  (C.step (sBuiltin .len #[44] 3 [false] [v9_1]) w fun v15_1 w =>
  C.step (sBin .sub 3 (.tmp 15) (.const (.int .i64 1)) v15_1 (.int .i64 1)) w fun v16_1 w =>
  C.step (sIndexAddr 44 v9_1 v16_1) w fun v17_1 w =>
  C.step (sLoad 3 v17_1) w fun v18_1 w =>
  Q v18_1 w)
theorem flotillaref13_Victim_eq (C : Comb) (a0 : Value) (a1 : Value) (w : World) (Q : Value → World → Prop) : flotillaref13_Victim_x C a0 a1 w Q = FunY Tryz.prog C 6 [] Tryz.f30 [a0, a1] w Q := by kernel_rfl
theorem flotillaref13_Victim_sound (a0 : Value) (a1 : Value) {w : World} {Q : Value → World → Prop} (h : flotillaref13_Victim_x (std Tryz.prog) a0 a1 w Q) : CallsR Tryz.prog 30 #[a0, a1] w Q :=
  calls_of_funY mixed Tryz.func30 (Eq.mp (flotillaref13_Victim_eq _ a0 a1 w Q) h)

def flotillaref13_Held_k1 (C : Comb) (u5_1 : Value) (w : World) (Q : Value → World → Prop) : Prop :=
  Q u5_1 w
def flotillaref13_Held_k2 (C : Comb) (vs_1 : List Value) (again_1 : List Value → World → Prop) (u5_2 : Value) (w : World) (Q : Value → World → Prop) : Prop :=
  C.step (sBin .add 3 (.tmp 13) (.const (.int .i64 1)) (vs_1.getD 1 undef) (.int .i64 1)) w fun v14_1 w =>
  again_1 [u5_2, v14_1] w
def flotillaref13_Held_x (C : Comb) (a0 : Value) (a1 : Value) (w : World) (Q : Value → World → Prop) : Prop :=
  C.step (sBox 27 a0) w fun v2_1 w =>
  C.loop [(.slice none 0 0), (.int .i64 0)] w fun dv_1 vs_1 w again_1 =>
  C.step (sFieldAddr 27 v2_1 0) w fun v9_1 w =>
  C.step (sLoad 25 v9_1) w fun v10_1 w =>
  C.step (sBuiltin .len #[25] 3 [false] [v10_1]) w fun v11_1 w =>
  C.step (sBin .lss 3 (.tmp 8) (.tmp 11) (vs_1.getD 1 undef) v11_1) w fun v12_1 w =>
  C.bool v12_1
  (C.step (sFieldAddr 27 v2_1 0) w fun v15_1 w =>
  C.step (sLoad 25 v15_1) w fun v16_1 w =>
  C.step (sIndexAddr 25 v16_1 (vs_1.getD 1 undef)) w fun v18_1 w =>
  C.step (sFieldAddr 85 v18_1 0) w fun v19_1 w =>
  C.step (sLoad 3 v19_1) w fun v20_1 w =>
  C.step (sBin .neq 3 (.tmp 20) (.tmp 21) v20_1 a1) w fun v22_1 w =>
  C.bool v22_1
  (flotillaref13_Held_k2 C vs_1 again_1 (vs_1.getD 0 undef) w Q)
  (C.step (sBuiltin .len #[59] 3 [false] [(vs_1.getD 0 undef)]) w fun v24_1 w =>
  C.draw w fun S_1 w =>
  C.stepS S_1 (sFieldAddr 27 v2_1 0) fun v26_1 =>
  C.stepS S_1 (sLoad 25 v26_1) fun v27_1 =>
  C.stepS S_1 (sIndexAddr 25 v27_1 (vs_1.getD 1 undef)) fun v29_1 =>
  C.stepS S_1 (sFieldAddr 85 v29_1 1) fun v30_1 =>
  C.stepS S_1 (sLoad 9 v30_1) fun v31_1 =>
  C.stepS S_1 (sFieldAddr 27 v2_1 0) fun v32_1 =>
  C.stepS S_1 (sLoad 25 v32_1) fun v33_1 =>
  C.stepS S_1 (sIndexAddr 25 v33_1 (vs_1.getD 1 undef)) fun v35_1 =>
  C.stepS S_1 (sFieldAddr 85 v35_1 2) fun v36_1 =>
  C.stepS S_1 (sLoad 29 v36_1) fun v37_1 =>
  C.step (sBuild 104 [(0, v31_1), (1, v37_1)]) w fun v38_1 w =>
  C.keepT w fun S_2 =>
  C.step (sBuildSlice 59 1 [(0, v38_1)]) w fun v39_1 w =>
  C.keepT w fun S_3 =>
  C.step (sBuiltin .append #[59, 59] 59 [false, false] [(vs_1.getD 0 undef), v39_1]) w fun v40_1 w =>
  C.keepT w fun S_4 =>
  C.loop [v24_1] w fun dv_2 vs_2 w again_2 =>
  C.draw w fun S_5 w =>
  C.stepS S_5 (sBin .gtr 3 (.tmp 41) (.const (.int .i64 0)) (vs_2.getD 0 undef) (.int .i64 0)) fun v42_1 =>
  C.bool v42_1
  (C.stepS (fun _ => True) (sBin .sub 3 (.tmp 45) (.const (.int .i64 1)) (vs_2.getD 0 undef) (.int .i64 1)) fun v46_1 =>
  C.stepS S_5 (sIndexAddr 59 v40_1 v46_1) fun v47_1 =>
  C.stepS S_5 (sFieldAddr 104 v47_1 0) fun v48_1 =>
  C.stepS S_5 (sLoad 9 v48_1) fun v49_1 =>
  C.stepS S_5 (sFieldAddr 27 v2_1 0) fun v50_1 =>
  C.stepS S_5 (sLoad 25 v50_1) fun v51_1 =>
  C.stepS S_5 (sIndexAddr 25 v51_1 (vs_1.getD 1 undef)) fun v53_1 =>
  C.stepS S_5 (sFieldAddr 85 v53_1 1) fun v54_1 =>
  C.stepS S_5 (sLoad 9 v54_1) fun v55_1 =>
  C.stepS S_5 (sBin .gtr 9 (.tmp 49) (.tmp 55) v49_1 v55_1) fun v56_1 =>
  C.bool v56_1
  (C.draw w fun S_6 w =>
  C.stepS (fun _ => True) (sBin .sub 3 (.tmp 61) (.const (.int .i64 1)) (vs_2.getD 0 undef) (.int .i64 1)) fun v62_1 =>
  C.stepS (fun _ => True) (sBin .sub 3 (.tmp 64) (.const (.int .i64 1)) (vs_2.getD 0 undef) (.int .i64 1)) fun v65_1 =>
  C.stepS S_6 (sIndexAddr 59 v40_1 v65_1) fun v66_1 =>
  C.stepS S_6 (sLoad 104 v66_1) fun v67_1 =>
  C.stepS S_6 (sIndexAddr 59 v40_1 (vs_2.getD 0 undef)) fun v70_1 =>
  C.stepS S_6 (sLoad 104 v70_1) fun v71_1 =>
  C.stepS S_6 (sIndexAddr 59 v40_1 (vs_2.getD 0 undef)) fun v72_1 =>
  C.step (sStore 104 v72_1 v67_1) w fun vx_1 w =>
  C.keepT w fun S_7 =>
  C.stepS S_7 (sIndexAddr 59 v40_1 v62_1) fun v73_1 =>
  C.step (sStore 104 v73_1 v71_1) w fun vx_2 w =>
  C.keepT w fun S_8 =>
  C.step (sBin .sub 3 (.tmp 74) (.const (.int .i64 1)) (vs_2.getD 0 undef) (.int .i64 1)) w fun v75_1 w =>
  again_2 [v75_1] w)
  (flotillaref13_Held_k2 C vs_1 again_1 v40_1 w Q))
  (flotillaref13_Held_k2 C vs_1 again_1 v40_1 w Q)))
  (flotillaref13_Held_k1 C (vs_1.getD 0 undef) w Q)
theorem flotillaref13_Held_eq (C : Comb) (a0 : Value) (a1 : Value) (w : World) (Q : Value → World → Prop) : flotillaref13_Held_x C a0 a1 w Q = FunY Tryz.prog C 2 [] Tryz.f31 [a0, a1] w Q := by kernel_rfl
theorem flotillaref13_Held_sound (a0 : Value) (a1 : Value) {w : World} {Q : Value → World → Prop} (h : flotillaref13_Held_x (std Tryz.prog) a0 a1 w Q) : CallsR Tryz.prog 31 #[a0, a1] w Q :=
  calls_of_funY mixed Tryz.func31 (Eq.mp (flotillaref13_Held_eq _ a0 a1 w Q) h)

def flotillaref13_Txns_k3 (C : Comb) (u6_3 : Value) (w : World) (Q : Value → World → Prop) : Prop :=
  Q u6_3 w
def flotillaref13_Txns_k4 (C : Comb) (vs_1 : List Value) (again_1 : List Value → World → Prop) (u6_4 : Value) (w : World) (Q : Value → World → Prop) : Prop :=
  C.step (sBin .add 3 (.tmp 45) (.const (.int .i64 1)) (vs_1.getD 1 undef) (.int .i64 1)) w fun v46_1 w =>
  again_1 [u6_4, v46_1] w
def flotillaref13_Txns_k2 (C : Comb) (u3_2 : Value) (w : World) (Q : Value → World → Prop) : Prop :=
  C.loop [(.slice none 0 0), (.int .i64 0)] w fun dv_1 vs_1 w again_1 =>
  C.step (sBuiltin .len #[44] 3 [false] [u3_2]) w fun v43_1 w =>
  C.step (sBin .lss 3 (.tmp 41) (.tmp 43) (vs_1.getD 1 undef) v43_1) w fun v44_1 w =>
  C.bool v44_1
  (C.step (sIndexAddr 44 u3_2 (vs_1.getD 1 undef)) w fun v50_1 w =>
  C.step (sLoad 3 v50_1) w fun v51_1 w =>
  C.calls 20 #[(vs_1.getD 0 undef), v51_1] w fun v52_1 w =>
  C.bool v52_1
  (flotillaref13_Txns_k4 C vs_1 again_1 (vs_1.getD 0 undef) w Q)
  (C.step (sBuiltin .len #[44] 3 [false] [(vs_1.getD 0 undef)]) w fun v54_1 w =>
  C.step (sIndexAddr 44 u3_2 (vs_1.getD 1 undef)) w fun v58_1 w =>
  C.step (sLoad 3 v58_1) w fun v59_1 w =>
  C.step (sBuildSlice 44 1 [(0, v59_1)]) w fun v60_1 w =>
  C.step (sBuiltin .append #[44, 44] 44 [false, false] [(vs_1.getD 0 undef), v60_1]) w fun v61_1 w =>
  C.loop [v54_1] w fun dv_2 vs_2 w again_2 =>
  C.draw w fun S_1 w =>
  C.stepS S_1 (sBin .gtr 3 (.tmp 62) (.const (.int .i64 0)) (vs_2.getD 0 undef) (.int .i64 0)) fun v63_1 =>
  C.bool v63_1
  (C.stepS (fun _ => True) (sBin .sub 3 (.tmp 66) (.const (.int .i64 1)) (vs_2.getD 0 undef) (.int .i64 1)) fun v67_1 =>
  C.stepS S_1 (sIndexAddr 44 v61_1 v67_1) fun v68_1 =>
  C.stepS S_1 (sLoad 3 v68_1) fun v69_1 =>
  C.stepS S_1 (sIndexAddr 44 u3_2 (vs_1.getD 1 undef)) fun v72_1 =>
  C.stepS S_1 (sLoad 3 v72_1) fun v73_1 =>
  C.stepS S_1 (sBin .gtr 3 (.tmp 69) (.tmp 73) v69_1 v73_1) fun v74_1 =>
  C.bool v74_1
  (C.draw w fun S_2 w =>
  C.stepS (fun _ => True) (sBin .sub 3 (.tmp 79) (.const (.int .i64 1)) (vs_2.getD 0 undef) (.int .i64 1)) fun v80_1 =>
  C.stepS (fun _ => True) (sBin .sub 3 (.tmp 82) (.const (.int .i64 1)) (vs_2.getD 0 undef) (.int .i64 1)) fun v83_1 =>
  C.stepS S_2 (sIndexAddr 44 v61_1 v83_1) fun v84_1 =>
  C.stepS S_2 (sLoad 3 v84_1) fun v85_1 =>
  C.stepS S_2 (sIndexAddr 44 v61_1 (vs_2.getD 0 undef)) fun v88_1 =>
  C.stepS S_2 (sLoad 3 v88_1) fun v89_1 =>
  C.stepS S_2 (sIndexAddr 44 v61_1 (vs_2.getD 0 undef)) fun v90_1 =>
  C.step (sStore 3 v90_1 v85_1) w fun vx_1 w =>
  C.keepT w fun S_3 =>
  C.stepS S_3 (sIndexAddr 44 v61_1 v80_1) fun v91_1 =>
  C.step (sStore 3 v91_1 v89_1) w fun vx_2 w =>
  C.keepT w fun S_4 =>
  C.step (sBin .sub 3 (.tmp 92) (.const (.int .i64 1)) (vs_2.getD 0 undef) (.int .i64 1)) w fun v93_1 w =>
  again_2 [v93_1] w)
  (flotillaref13_Txns_k4 C vs_1 again_1 v61_1 w Q))
  (flotillaref13_Txns_k4 C vs_1 again_1 v61_1 w Q)))
  (flotillaref13_Txns_k3 C (vs_1.getD 0 undef) w Q)
def flotillaref13_Txns_k1 (C : Comb) (v1_1 : Value) (u3_1 : Value) (w : World) (Q : Value → World → Prop) : Prop :=
  C.loop [u3_1, (.int .i64 0)] w fun dv_3 vs_3 w again_3 =>
  C.step (sFieldAddr 27 v1_1 1) w fun v26_1 w =>
  C.step (sLoad 25 v26_1) w fun v27_1 w =>
  C.step (sBuiltin .len #[25] 3 [false] [v27_1]) w fun v28_1 w =>
  C.step (sBin .lss 3 (.tmp 25) (.tmp 28) (vs_3.getD 1 undef) v28_1) w fun v29_1 w =>
  C.bool v29_1
  (C.step (sFieldAddr 27 v1_1 1) w fun v33_1 w =>
  C.step (sLoad 25 v33_1) w fun v34_1 w =>
  C.step (sIndexAddr 25 v34_1 (vs_3.getD 1 undef)) w fun v36_1 w =>
  C.step (sFieldAddr 85 v36_1 0) w fun v37_1 w =>
  C.step (sLoad 3 v37_1) w fun v38_1 w =>
  C.step (sBuildSlice 44 1 [(0, v38_1)]) w fun v39_1 w =>
  C.step (sBuiltin .append #[44, 44] 44 [false, false] [(vs_3.getD 0 undef), v39_1]) w fun v40_1 w =>
  C.step (sBin .add 3 (.tmp 30) (.const (.int .i64 1)) (vs_3.getD 1 undef) (.int .i64 1)) w fun v31_1 w =>
  again_3 [v40_1, v31_1] w)
  (flotillaref13_Txns_k2 C (vs_3.getD 0 undef) w Q)
def flotillaref13_Txns_x (C : Comb) (a0 : Value) (w : World) (Q : Value → World → Prop) : Prop :=
  C.step (sBox 27 a0) w fun v1_1 w =>
  C.loop [(.slice none 0 0), (.int .i64 0)] w fun dv_4 vs_4 w again_4 =>
  C.step (sFieldAddr 27 v1_1 0) w fun v10_1 w =>
  C.step (sLoad 25 v10_1) w fun v11_1 w =>
  C.step (sBuiltin .len #[25] 3 [false] [v11_1]) w fun v12_1 w =>
  C.step (sBin .lss 3 (.tmp 9) (.tmp 12) (vs_4.getD 1 undef) v12_1) w fun v13_1 w =>
  C.bool v13_1
  (C.step (sFieldAddr 27 v1_1 0) w fun v17_1 w =>
  C.step (sLoad 25 v17_1) w fun v18_1 w =>
  C.step (sIndexAddr 25 v18_1 (vs_4.getD 1 undef)) w fun v20_1 w =>
  C.step (sFieldAddr 85 v20_1 0) w fun v21_1 w =>
  C.step (sLoad 3 v21_1) w fun v22_1 w =>
  C.step (sBuildSlice 44 1 [(0, v22_1)]) w fun v23_1 w =>
  C.step (sBuiltin .append #[44, 44] 44 [false, false] [(vs_4.getD 0 undef), v23_1]) w fun v24_1 w =>
  C.step (sBin .add 3 (.tmp 14) (.const (.int .i64 1)) (vs_4.getD 1 undef) (.int .i64 1)) w fun v15_1 w =>
  again_4 [v24_1, v15_1] w)
  (flotillaref13_Txns_k1 C v1_1 (vs_4.getD 0 undef) w Q)
theorem flotillaref13_Txns_eq (C : Comb) (a0 : Value) (w : World) (Q : Value → World → Prop) : flotillaref13_Txns_x C a0 w Q = FunY Tryz.prog C 2 [] Tryz.f32 [a0] w Q := by kernel_rfl
theorem flotillaref13_Txns_sound (a0 : Value) {w : World} {Q : Value → World → Prop} (h : flotillaref13_Txns_x (std Tryz.prog) a0 w Q) : CallsR Tryz.prog 32 #[a0] w Q :=
  calls_of_funY mixed Tryz.func32 (Eq.mp (flotillaref13_Txns_eq _ a0 w Q) h)

def lock_Table_edges_k1 (C : Comb) (vs_2 : List Value) (again_2 : List Value → World → Prop) (w : World) (Q : Value → World → Prop) : Prop :=
  C.step (sBin .add 3 (.tmp 36) (.const (.int .i64 1)) (vs_2.getD 0 undef) (.int .i64 1)) w fun v89_1 w =>
  again_2 [v89_1] w
def lock_Table_edges_k2 (C : Comb) (a1 : Value) (v33_1 : Value) (vs_2 : List Value) (again_2 : List Value → World → Prop) (v40_1 : Value) (w : World) (Q : Value → World → Prop) : Prop :=
  C.step (sSlice 44 v33_1 none (some (vs_2.getD 0 undef)) none) w fun v77_1 w =>
  C.step (sBuiltin .len #[44] 3 [false] [v77_1]) w fun v78_1 w =>
  C.loop [(.int .i64 0)] w fun dv_3 vs_3 w again_3 =>
  C.step (sBin .lss 3 (.tmp 79) (.tmp 78) (vs_3.getD 0 undef) v78_1) w fun v80_1 w =>
  C.bool v80_1
  (C.step (sIndexAddr 44 v77_1 (vs_3.getD 0 undef)) w fun v81_1 w =>
  C.step (sLoad 3 v81_1) w fun v82_1 w =>
  C.step (sBuild 78 [(0, v40_1), (1, v82_1)]) w fun v86_1 w =>
  C.step (sCallV a1 [v86_1]) w fun v87_1 w =>
  C.step (sBin .add 3 (.tmp 79) (.const (.int .i64 1)) (vs_3.getD 0 undef) (.int .i64 1)) w fun v88_1 w =>
  again_3 [v88_1] w)
  (lock_Table_edges_k1 C vs_2 again_2 w Q)
def lock_Table_edges_x (C : Comb) (a0 : Value) (a1 : Value) (w : World) (Q : Value → World → Prop) : Prop :=
  C.step (sNil a0) w fun v15_1 w =>
  C.step (sFieldAddr 67 v15_1 0) w fun v16_1 w =>
  C.step (sLoad 64 v16_1) w fun v17_1 w =>
  C.step (sRange 64 v17_1) w fun v18_1 w =>
  C.loop [] w fun dv_1 vs_1 w again_1 =>
  C.step (sNext v18_1 false 0) w fun v19_1 w =>
  C.step (sExtract v19_1 0) w fun v20_1 w =>
  C.bool v20_1
  (C.step (sEntry v18_1) w fun v21_1 w =>
  C.step (sExtract v21_1 1) w fun v22_1 w =>
  C.draw w fun S_1 w =>
  C.stepS S_1 (sNil v22_1) fun v25_1 =>
  C.stepS S_1 (sFieldAddr 95 v25_1 1) fun v26_1 =>
  C.stepS S_1 (sLoad 44 v26_1) fun v27_1 =>
  C.stepS S_1 (sNil v22_1) fun v30_1 =>
  C.stepS S_1 (sFieldAddr 95 v30_1 2) fun v31_1 =>
  C.stepS S_1 (sLoad 44 v31_1) fun v32_1 =>
  C.step (sBuildSlice 44 0 []) w fun v23_1 w =>
  C.keepS S_1 w fun S_2 =>
  C.step (sBuiltin .append #[44, 44] 44 [false, false] [v23_1, v27_1]) w fun v28_1 w =>
  C.keepS S_2 w fun S_3 =>
  C.step (sBuiltin .append #[44, 44] 44 [false, false] [v28_1, v32_1]) w fun v33_1 w =>
  C.keepT w fun S_4 =>
  C.step (sBuiltin .len #[44] 3 [false] [v33_1]) w fun v35_1 w =>
  C.loop [(.int .i64 0)] w fun dv_2 vs_2 w again_2 =>
  C.step (sBin .lss 3 (.tmp 36) (.tmp 35) (vs_2.getD 0 undef) v35_1) w fun v37_1 w =>
  C.bool v37_1
  (C.step (sIndexAddr 44 v33_1 (vs_2.getD 0 undef)) w fun v39_1 w =>
  C.step (sLoad 3 v39_1) w fun v40_1 w =>
  C.step (sNil a0) w fun v44_1 w =>
  C.step (sFieldAddr 67 v44_1 1) w fun v45_1 w =>
  C.step (sLoad 65 v45_1) w fun v46_1 w =>
  C.step (sLookup 65 v46_1 v40_1 false) w fun v48_1 w =>
  C.step (sField 31 v48_1 1) w fun v49_1 w =>
  C.calls 51 #[v22_1, v40_1, v49_1] w fun v50_1 w =>
  C.step (sNil v22_1) w fun v52_1 w =>
  C.step (sFieldAddr 95 v52_1 0) w fun v53_1 w =>
  C.step (sLoad 93 v53_1) w fun v54_1 w =>
  C.step (sRange 93 v54_1) w fun v55_1 w =>
  C.loop [] w fun dv_4 vs_4 w again_4 =>
  C.step (sNext v55_1 false 0) w fun v56_1 w =>
  C.step (sExtract v56_1 0) w fun v57_1 w =>
  C.bool v57_1
  (C.step (sEntry v55_1) w fun v58_1 w =>
  C.step (sExtract v58_1 0) w fun v59_1 w =>
  C.step (sExtract v58_1 1) w fun v60_1 w =>
  C.step (sBin .neq 3 (.tmp 61) (.tmp 62) v59_1 v40_1) w fun v63_1 w =>
  C.bool v63_1
  (C.calls 61 #[v60_1, v50_1] w fun v67_1 w =>
  C.step (sUn .not v67_1) w fun v68_1 w =>
  C.bool v68_1
  (C.step (sBuild 78 [(0, v40_1), (1, v59_1)]) w fun v73_1 w =>
  C.step (sCallV a1 [v73_1]) w fun v74_1 w =>
  again_4 [] w)
  (again_4 [] w))
  (again_4 [] w))
  (lock_Table_edges_k2 C a1 v33_1 vs_2 again_2 v40_1 w Q))
  (again_1 [] w))
  (Q (.tuple #[]) w)
theorem lock_Table_edges_eq (C : Comb) (a0 : Value) (a1 : Value) (w : World) (Q : Value → World → Prop) : lock_Table_edges_x C a0 a1 w Q = FunY Tryz.prog C 2 [] Tryz.f33 [a0, a1] w Q := by kernel_rfl
theorem lock_Table_edges_sound (a0 : Value) (a1 : Value) {w : World} {Q : Value → World → Prop} (h : lock_Table_edges_x (std Tryz.prog) a0 a1 w Q) : CallsR Tryz.prog 33 #[a0, a1] w Q :=
  calls_of_funY mixed Tryz.func33 (Eq.mp (lock_Table_edges_eq _ a0 a1 w Q) h)

def lock_Table_Edges_1_x (C : Comb) (a0 : Value) (a1 : Value) (w : World) (Q : Value → World → Prop) : Prop :=
  C.step (sBox 78 a0) w fun v2_1 w =>
  C.step (sLoad 39 a1) w fun v3_1 w =>
  C.step (sLoad 78 v2_1) w fun v4_1 w =>
  C.step (sBuildSlice 39 1 [(0, v4_1)]) w fun v5_1 w =>
  C.step (sBuiltin .append #[39, 39] 39 [false, false] [v3_1, v5_1]) w fun v6_1 w =>
  C.step (sStore 39 a1 v6_1) w fun vx_1 w =>
  Q (.tuple #[]) w
theorem lock_Table_Edges_1_eq (C : Comb) (a0 : Value) (a1 : Value) (w : World) (Q : Value → World → Prop) : lock_Table_Edges_1_x C a0 a1 w Q = FunY Tryz.prog C 3 [] Tryz.f34 [a0, a1] w Q := by kernel_rfl
theorem lock_Table_Edges_1_sound (a0 : Value) (a1 : Value) {w : World} {Q : Value → World → Prop} (h : lock_Table_Edges_1_x (std Tryz.prog) a0 a1 w Q) : CallsR Tryz.prog 34 #[a0, a1] w Q :=
  calls_of_funY mixed Tryz.func34 (Eq.mp (lock_Table_Edges_1_eq _ a0 a1 w Q) h)

def lock_Table_Edges_2_x (C : Comb) (a0 : Value) (a1 : Value) (w : World) (Q : Value → World → Prop) : Prop :=
  C.step (sBox 78 a0) w fun v2_1 w =>
  C.step (sBox 78 a1) w fun v3_1 w =>
  C.step (sFieldAddr 78 v2_1 0) w fun v5_1 w =>
  C.step (sLoad 3 v5_1) w fun v6_1 w =>
  C.step (sFieldAddr 78 v3_1 0) w fun v7_1 w =>
  C.step (sLoad 3 v7_1) w fun v8_1 w =>
  C.step (sBin .neq 3 (.tmp 6) (.tmp 8) v6_1 v8_1) w fun v9_1 w =>
  C.bool v9_1
  (C.step (sFieldAddr 78 v2_1 0) w fun v10_1 w =>
  C.step (sLoad 3 v10_1) w fun v11_1 w =>
  C.step (sFieldAddr 78 v3_1 0) w fun v12_1 w =>
  C.step (sLoad 3 v12_1) w fun v13_1 w =>
  C.step (sBin .sub 3 (.tmp 11) (.tmp 13) v11_1 v13_1) w fun v14_1 w =>
  Q v14_1 w)
  (C.step (sFieldAddr 78 v2_1 1) w fun v15_1 w =>
  C.step (sLoad 3 v15_1) w fun v16_1 w =>
  C.step (sFieldAddr 78 v3_1 1) w fun v17_1 w =>
  C.step (sLoad 3 v17_1) w fun v18_1 w =>
  C.step (sBin .sub 3 (.tmp 16) (.tmp 18) v16_1 v18_1) w fun v19_1 w =>
  Q v19_1 w)
theorem lock_Table_Edges_2_eq (C : Comb) (a0 : Value) (a1 : Value) (w : World) (Q : Value → World → Prop) : lock_Table_Edges_2_x C a0 a1 w Q = FunY Tryz.prog C 4 [] Tryz.f36 [a0, a1] w Q := by kernel_rfl
theorem lock_Table_Edges_2_sound (a0 : Value) (a1 : Value) {w : World} {Q : Value → World → Prop} (h : lock_Table_Edges_2_x (std Tryz.prog) a0 a1 w Q) : CallsR Tryz.prog 36 #[a0, a1] w Q :=
  calls_of_funY mixed Tryz.func36 (Eq.mp (lock_Table_Edges_2_eq _ a0 a1 w Q) h)

def api_Edge_k1 (C : Comb) (a0 : Value) (w : World) (Q : Value → World → Prop) : Prop :=
  Q a0 w
def api_Edge_k2 (C : Comb) (a0 : Value) (u3_2 : Value) (w : World) (Q : Value → World → Prop) : Prop :=
  C.step (sSlice 39 a0 (some u3_2) none none) w fun v56_1 w =>
  C.step (sBuiltin .clear #[39] 0 [false] [v56_1]) w fun vx_1 w =>
  C.step (sSlice 39 a0 none (some u3_2) none) w fun v59_1 w =>
  Q v59_1 w
def api_Edge_k3 (C : Comb) (vs_2 : List Value) (again_2 : List Value → World → Prop) (u3_3 : Value) (w : World) (Q : Value → World → Prop) : Prop :=
  C.step (sBin .add 3 (.tmp 33) (.const (.int .i64 1)) (vs_2.getD 1 undef) (.int .i64 1)) w fun v34_1 w =>
  again_2 [u3_3, v34_1] w
def api_Edge_x (C : Comb) (a0 : Value) (w : World) (Q : Value → World → Prop) : Prop :=
  C.step (sBuiltin .len #[39] 3 [false] [a0]) w fun v7_1 w =>
  C.step (sBin .lss 3 (.tmp 7) (.const (.int .i64 2)) v7_1 (.int .i64 2)) w fun v8_1 w =>
  C.bool v8_1
  (Q a0 w)
  (C.loop [undef, undef, (.slice none 0 0), (.int .i64 1)] w fun dv_1 vs_1 w again_1 =>
  C.step (sBuiltin .len #[39] 3 [false] [a0]) w fun v12_1 w =>
  C.step (sBin .lss 3 (.tmp 10) (.tmp 12) (vs_1.getD 3 undef) v12_1) w fun v13_1 w =>
  C.bool v13_1
  (C.draw w fun S_1 w =>
  C.stepS S_1 (sIndexAddr 39 a0 (vs_1.getD 3 undef)) fun v18_1 =>
  C.stepS S_1 (sLoad 78 v18_1) fun v19_1 =>
  C.stepS (fun _ => True) (sBin .sub 3 (.tmp 21) (.const (.int .i64 1)) (vs_1.getD 3 undef) (.int .i64 1)) fun v22_1 =>
  C.stepS S_1 (sIndexAddr 39 a0 v22_1) fun v23_1 =>
  C.stepS S_1 (sLoad 78 v23_1) fun v24_1 =>
  C.stepS S_1 (sBin .eql 78 (.tmp 19) (.tmp 24) v19_1 v24_1) fun v25_1 =>
  C.bool v25_1
  (C.step (sSlice 39 a0 (some (vs_1.getD 3 undef)) none none) w fun v28_1 w =>
  C.loop [(vs_1.getD 3 undef), (.int .i64 1)] w fun dv_2 vs_2 w again_2 =>
  C.step (sBuiltin .len #[39] 3 [false] [v28_1]) w fun v31_1 w =>
  C.step (sBin .lss 3 (.tmp 29) (.tmp 31) (vs_2.getD 1 undef) v31_1) w fun v32_1 w =>
  C.bool v32_1
  (C.draw w fun S_2 w =>
  C.stepS S_2 (sIndexAddr 39 v28_1 (vs_2.getD 1 undef)) fun v37_1 =>
  C.stepS S_2 (sLoad 78 v37_1) fun v38_1 =>
  C.stepS (fun _ => True) (sBin .sub 3 (.tmp 40) (.const (.int .i64 1)) (vs_2.getD 1 undef) (.int .i64 1)) fun v41_1 =>
  C.stepS S_2 (sIndexAddr 39 v28_1 v41_1) fun v42_1 =>
  C.stepS S_2 (sLoad 78 v42_1) fun v43_1 =>
  C.stepS S_2 (sBin .neq 78 (.tmp 38) (.tmp 43) v38_1 v43_1) fun v44_1 =>
  C.bool v44_1
  (C.step (sIndexAddr 39 v28_1 (vs_2.getD 1 undef)) w fun v49_1 w =>
  C.step (sLoad 78 v49_1) w fun v50_1 w =>
  C.step (sIndexAddr 39 a0 (vs_2.getD 0 undef)) w fun v51_1 w =>
  C.step (sStore 78 v51_1 v50_1) w fun vx_2 w =>
  C.step (sBin .add 3 (.tmp 52) (.const (.int .i64 1)) (vs_2.getD 0 undef) (.int .i64 1)) w fun v53_1 w =>
  api_Edge_k3 C vs_2 again_2 v53_1 w Q)
  (api_Edge_k3 C vs_2 again_2 (vs_2.getD 0 undef) w Q))
  (api_Edge_k2 C a0 (vs_2.getD 0 undef) w Q))
  (C.step (sBin .add 3 (.tmp 14) (.const (.int .i64 1)) (vs_1.getD 3 undef) (.int .i64 1)) w fun v15_1 w =>
  again_1 [(vs_1.getD 0 undef), (vs_1.getD 1 undef), (vs_1.getD 2 undef), v15_1] w))
  (api_Edge_k1 C a0 w Q))
theorem api_Edge_eq (C : Comb) (a0 : Value) (w : World) (Q : Value → World → Prop) : api_Edge_x C a0 w Q = FunY Tryz.prog C 6 [] Tryz.f37 [a0] w Q := by kernel_rfl
theorem api_Edge_sound (a0 : Value) {w : World} {Q : Value → World → Prop} (h : api_Edge_x (std Tryz.prog) a0 w Q) : CallsR Tryz.prog 37 #[a0] w Q :=
  calls_of_funY mixed Tryz.func37 (Eq.mp (api_Edge_eq _ a0 w Q) h)

def flotillaref04_Join_k1 (C : Comb) (w : World) (Q : Value → World → Prop) : Prop :=
  Q (.int .i64 5) w
def flotillaref04_Join_k2 (C : Comb) (vs_1 : List Value) (again_1 : List Value → World → Prop) (u4_2 : Value) (w : World) (Q : Value → World → Prop) : Prop :=
  C.step (sBin .add 3 (.tmp 8) (.const (.int .i64 1)) (vs_1.getD 1 undef) (.int .i64 1)) w fun v9_1 w =>
  again_1 [u4_2, v9_1] w
def flotillaref04_Join_x (C : Comb) (a0 : Value) (a1 : Value) (w : World) (Q : Value → World → Prop) : Prop :=
  C.loop [(.int .i64 0), (.int .i64 0)] w fun dv_1 vs_1 w again_1 =>
  C.step (sBin .lss 3 (.tmp 6) (.const (.int .i64 5)) (vs_1.getD 1 undef) (.int .i64 5)) w fun v7_1 w =>
  C.bool v7_1
  (C.calls 55 #[(vs_1.getD 1 undef), a0] w fun v12_1 w =>
  C.bool v12_1
  (C.calls 55 #[(vs_1.getD 1 undef), a1] w fun v16_1 w =>
  C.bool v16_1
  (Q (vs_1.getD 1 undef) w)
  (flotillaref04_Join_k2 C vs_1 again_1 (vs_1.getD 0 undef) w Q))
  (flotillaref04_Join_k2 C vs_1 again_1 (vs_1.getD 0 undef) w Q))
  (flotillaref04_Join_k1 C w Q)
theorem flotillaref04_Join_eq (C : Comb) (a0 : Value) (a1 : Value) (w : World) (Q : Value → World → Prop) : flotillaref04_Join_x C a0 a1 w Q = FunY Tryz.prog C 6 [] Tryz.f38 [a0, a1] w Q := by kernel_rfl
theorem flotillaref04_Join_sound (a0 : Value) (a1 : Value) {w : World} {Q : Value → World → Prop} (h : flotillaref04_Join_x (std Tryz.prog) a0 a1 w Q) : CallsR Tryz.prog 38 #[a0, a1] w Q :=
  calls_of_funY mixed Tryz.func38 (Eq.mp (flotillaref04_Join_eq _ a0 a1 w Q) h)

def flotillaref13_Mode_k1 (C : Comb) (w : World) (Q : Value → World → Prop) : Prop :=
  Q (.int .i64 0) w
def flotillaref13_Mode_k2 (C : Comb) (vs_1 : List Value) (again_1 : List Value → World → Prop) (u6_2 : Value) (w : World) (Q : Value → World → Prop) : Prop :=
  C.step (sBin .add 3 (.tmp 13) (.const (.int .i64 1)) (vs_1.getD 1 undef) (.int .i64 1)) w fun v14_1 w =>
  again_1 [u6_2, v14_1] w
def flotillaref13_Mode_x (C : Comb) (a0 : Value) (a1 : Value) (a2 : Value) (w : World) (Q : Value → World → Prop) : Prop :=
  C.step (sBox 27 a0) w fun v3_1 w =>
  C.loop [(.int .i64 0), (.int .i64 0)] w fun dv_1 vs_1 w again_1 =>
  C.step (sFieldAddr 27 v3_1 0) w fun v9_1 w =>
  C.step (sLoad 25 v9_1) w fun v10_1 w =>
  C.step (sBuiltin .len #[25] 3 [false] [v10_1]) w fun v11_1 w =>
  C.step (sBin .lss 3 (.tmp 8) (.tmp 11) (vs_1.getD 1 undef) v11_1) w fun v12_1 w =>
  C.bool v12_1
  (C.step (sFieldAddr 27 v3_1 0) w fun v15_1 w =>
  C.step (sLoad 25 v15_1) w fun v16_1 w =>
  C.step (sIndexAddr 25 v16_1 (vs_1.getD 1 undef)) w fun v18_1 w =>
  C.step (sFieldAddr 85 v18_1 0) w fun v19_1 w =>
  C.step (sLoad 3 v19_1) w fun v20_1 w =>
  C.step (sBin .eql 3 (.tmp 20) (.tmp 21) v20_1 a1) w fun v22_1 w =>
  C.bool v22_1
  (C.step (sFieldAddr 27 v3_1 0) w fun v24_1 w =>
  C.step (sLoad 25 v24_1) w fun v25_1 w =>
  C.step (sIndexAddr 25 v25_1 (vs_1.getD 1 undef)) w fun v27_1 w =>
  C.step (sFieldAddr 85 v27_1 1) w fun v28_1 w =>
  C.step (sLoad 9 v28_1) w fun v29_1 w =>
  C.step (sBin .eql 9 (.tmp 29) (.tmp 30) v29_1 a2) w fun v31_1 w =>
  C.bool v31_1
  (C.step (sFieldAddr 27 v3_1 0) w fun v33_1 w =>
  C.step (sLoad 25 v33_1) w fun v34_1 w =>
  C.step (sIndexAddr 25 v34_1 (vs_1.getD 1 undef)) w fun v36_1 w =>
  C.step (sFieldAddr 85 v36_1 2) w fun v37_1 w =>
  C.step (sLoad 29 v37_1) w fun v38_1 w =>
  Q v38_1 w)
  (flotillaref13_Mode_k2 C vs_1 again_1 (vs_1.getD 0 undef) w Q))
  (flotillaref13_Mode_k2 C vs_1 again_1 (vs_1.getD 0 undef) w Q))
  (flotillaref13_Mode_k1 C w Q)
theorem flotillaref13_Mode_eq (C : Comb) (a0 : Value) (a1 : Value) (a2 : Value) (w : World) (Q : Value → World → Prop) : flotillaref13_Mode_x C a0 a1 a2 w Q = FunY Tryz.prog C 8 [] Tryz.f39 [a0, a1, a2] w Q := by kernel_rfl
theorem flotillaref13_Mode_sound (a0 : Value) (a1 : Value) (a2 : Value) {w : World} {Q : Value → World → Prop} (h : flotillaref13_Mode_x (std Tryz.prog) a0 a1 a2 w Q) : CallsR Tryz.prog 39 #[a0, a1, a2] w Q :=
  calls_of_funY mixed Tryz.func39 (Eq.mp (flotillaref13_Mode_eq _ a0 a1 a2 w Q) h)

def flotillaref04_Beside_k1 (C : Comb) (u5_1 : Value) (u6_1 : Value) (w : World) (Q : Value → World → Prop) : Prop :=
  C.step (sBin .eql 3 (.tmp 16) (.const (.int .i64 0)) u5_1 (.int .i64 0)) w fun v18_1 w =>
  C.bool v18_1
  (Q (.bool true) w)
  (C.step (sBin .eql 3 (.tmp 16) (.const (.int .i64 1)) u5_1 (.int .i64 1)) w fun v20_1 w =>
  C.bool v20_1
  (C.step (sBin .neq 3 (.tmp 21) (.const (.int .i64 5)) u6_1 (.int .i64 5)) w fun v22_1 w =>
  Q v22_1 w)
  (C.step (sBin .eql 3 (.tmp 16) (.const (.int .i64 2)) u5_1 (.int .i64 2)) w fun v24_1 w =>
  C.bool v24_1
  (C.step (sBin .eql 3 (.tmp 25) (.const (.int .i64 2)) u6_1 (.int .i64 2)) w fun v26_1 w =>
  Q v26_1 w)
  (C.step (sBin .eql 3 (.tmp 16) (.const (.int .i64 3)) u5_1 (.int .i64 3)) w fun v28_1 w =>
  C.bool v28_1
  (C.step (sBin .eql 3 (.tmp 29) (.const (.int .i64 3)) u6_1 (.int .i64 3)) w fun v30_1 w =>
  Q v30_1 w)
  (Q (.bool false) w))))
def flotillaref04_Beside_x (C : Comb) (a0 : Value) (a1 : Value) (w : World) (Q : Value → World → Prop) : Prop :=
  C.calls 64 #[a0] w fun v8_1 w =>
  C.calls 64 #[a1] w fun v10_1 w =>
  C.step (sBin .gtr 3 (.tmp 11) (.tmp 12) v8_1 v10_1) w fun v13_1 w =>
  C.bool v13_1
  (flotillaref04_Beside_k1 C v10_1 v8_1 w Q)
  (flotillaref04_Beside_k1 C v8_1 v10_1 w Q)
theorem flotillaref04_Beside_eq (C : Comb) (a0 : Value) (a1 : Value) (w : World) (Q : Value → World → Prop) : flotillaref04_Beside_x C a0 a1 w Q = FunY Tryz.prog C 7 [] Tryz.f40 [a0, a1] w Q := by kernel_rfl
theorem flotillaref04_Beside_sound (a0 : Value) (a1 : Value) {w : World} {Q : Value → World → Prop} (h : flotillaref04_Beside_x (std Tryz.prog) a0 a1 w Q) : CallsR Tryz.prog 40 #[a0, a1] w Q :=
  calls_of_funY mixed Tryz.func40 (Eq.mp (flotillaref04_Beside_eq _ a0 a1 w Q) h)

def flotillaref13_put_k2 (C : Comb) (a0 : Value) (v3_1 : Value) (u5_1 : Value) (w : World) (Q : Value → World → Prop) : Prop :=
  C.step (sSlice 39 a0 none (some u5_1) none) w fun v59_1 w =>
  C.step (sBuiltin .append #[39, 39] 39 [false, false] [(.slice none 0 0), v59_1]) w fun v60_1 w =>
  C.step (sLoad 78 v3_1) w fun v62_1 w =>
  C.step (sBuildSlice 39 1 [(0, v62_1)]) w fun v63_1 w =>
  C.step (sBuiltin .append #[39, 39] 39 [false, false] [v60_1, v63_1]) w fun v64_1 w =>
  C.step (sSlice 39 a0 (some u5_1) none none) w fun v68_1 w =>
  C.step (sBuiltin .append #[39, 39] 39 [false, false] [v64_1, v68_1]) w fun v69_1 w =>
  Q v69_1 w
def flotillaref13_put_k1 (C : Comb) (a0 : Value) (v3_1 : Value) (u5_1 : Value) (w : World) (Q : Value → World → Prop) : Prop :=
  C.draw w fun S_1 w =>
  C.stepS S_1 (sBuiltin .len #[39] 3 [false] [a0]) fun v45_1 =>
  C.stepS S_1 (sBin .lss 3 (.tmp 43) (.tmp 45) u5_1 v45_1) fun v46_1 =>
  C.bool v46_1
  (C.stepS S_1 (sIndexAddr 39 a0 u5_1) fun v50_1 =>
  C.stepS S_1 (sLoad 78 v50_1) fun v51_1 =>
  C.stepS S_1 (sLoad 78 v3_1) fun v52_1 =>
  C.stepS S_1 (sBin .eql 78 (.tmp 51) (.tmp 52) v51_1 v52_1) fun v53_1 =>
  C.bool v53_1
  (Q a0 w)
  (flotillaref13_put_k2 C a0 v3_1 u5_1 w Q))
  (flotillaref13_put_k2 C a0 v3_1 u5_1 w Q)
def flotillaref13_put_k3 (C : Comb) (vs_1 : List Value) (again_1 : List Value → World → Prop) (w : World) (Q : Value → World → Prop) : Prop :=
  C.step (sBin .add 3 (.tmp 41) (.const (.int .i64 1)) (vs_1.getD 0 undef) (.int .i64 1)) w fun v42_1 w =>
  again_1 [v42_1] w
def flotillaref13_put_k4 (C : Comb) (a0 : Value) (v3_1 : Value) (vs_1 : List Value) (w : World) (Q : Value → World → Prop) : Prop :=
  flotillaref13_put_k1 C a0 v3_1 (vs_1.getD 0 undef) w Q
def flotillaref13_put_x (C : Comb) (a0 : Value) (a1 : Value) (w : World) (Q : Value → World → Prop) : Prop :=
  C.step (sBox 78 a1) w fun v3_1 w =>
  C.loop [(.int .i64 0)] w fun dv_1 vs_1 w again_1 =>
  C.draw w fun S_2 w =>
  C.stepS S_2 (sBuiltin .len #[39] 3 [false] [a0]) fun v9_1 =>
  C.stepS S_2 (sBin .lss 3 (.tmp 7) (.tmp 9) (vs_1.getD 0 undef) v9_1) fun v10_1 =>
  C.bool v10_1
  (C.stepS S_2 (sIndexAddr 39 a0 (vs_1.getD 0 undef)) fun v14_1 =>
  C.stepS S_2 (sFieldAddr 78 v14_1 0) fun v15_1 =>
  C.stepS S_2 (sLoad 3 v15_1) fun v16_1 =>
  C.stepS S_2 (sFieldAddr 78 v3_1 0) fun v17_1 =>
  C.stepS S_2 (sLoad 3 v17_1) fun v18_1 =>
  C.stepS S_2 (sBin .lss 3 (.tmp 16) (.tmp 18) v16_1 v18_1) fun v19_1 =>
  C.bool v19_1
  (flotillaref13_put_k3 C vs_1 again_1 w Q)
  (C.stepS S_2 (sIndexAddr 39 a0 (vs_1.getD 0 undef)) fun v23_1 =>
  C.stepS S_2 (sFieldAddr 78 v23_1 0) fun v24_1 =>
  C.stepS S_2 (sLoad 3 v24_1) fun v25_1 =>
  C.stepS S_2 (sFieldAddr 78 v3_1 0) fun v26_1 =>
  C.stepS S_2 (sLoad 3 v26_1) fun v27_1 =>
  C.stepS S_2 (sBin .eql 3 (.tmp 25) (.tmp 27) v25_1 v27_1) fun v28_1 =>
  C.bool v28_1
  (C.stepS S_2 (sIndexAddr 39 a0 (vs_1.getD 0 undef)) fun v32_1 =>
  C.stepS S_2 (sFieldAddr 78 v32_1 1) fun v33_1 =>
  C.stepS S_2 (sLoad 3 v33_1) fun v34_1 =>
  C.stepS S_2 (sFieldAddr 78 v3_1 1) fun v35_1 =>
  C.stepS S_2 (sLoad 3 v35_1) fun v36_1 =>
  C.stepS S_2 (sBin .lss 3 (.tmp 34) (.tmp 36) v34_1 v36_1) fun v37_1 =>
  C.bool v37_1
  (flotillaref13_put_k3 C vs_1 again_1 w Q)
  (flotillaref13_put_k1 C a0 v3_1 (vs_1.getD 0 undef) w Q))
  (flotillaref13_put_k4 C a0 v3_1 vs_1 w Q)))
  (flotillaref13_put_k4 C a0 v3_1 vs_1 w Q)
theorem flotillaref13_put_eq (C : Comb) (a0 : Value) (a1 : Value) (w : World) (Q : Value → World → Prop) : flotillaref13_put_x C a0 a1 w Q = FunY Tryz.prog C 2 [] Tryz.f41 [a0, a1] w Q := by kernel_rfl
theorem flotillaref13_put_sound (a0 : Value) (a1 : Value) {w : World} {Q : Value → World → Prop} (h : flotillaref13_put_x (std Tryz.prog) a0 a1 w Q) : CallsR Tryz.prog 41 #[a0, a1] w Q :=
  calls_of_funY mixed Tryz.func41 (Eq.mp (flotillaref13_put_eq _ a0 a1 w Q) h)

def flotillaref13_In_k2 (C : Comb) (u5_2 : Value) (w : World) (Q : Value → World → Prop) : Prop :=
  Q u5_2 w
def flotillaref13_In_k3 (C : Comb) (vs_1 : List Value) (again_1 : List Value → World → Prop) (u5_3 : Value) (w : World) (Q : Value → World → Prop) : Prop :=
  C.step (sBin .add 3 (.tmp 44) (.const (.int .i64 1)) (vs_1.getD 1 undef) (.int .i64 1)) w fun v45_1 w =>
  again_1 [u5_3, v45_1] w
def flotillaref13_In_k1 (C : Comb) (a1 : Value) (v2_1 : Value) (u5_1 : Value) (w : World) (Q : Value → World → Prop) : Prop :=
  C.loop [u5_1, (.int .i64 0)] w fun dv_1 vs_1 w again_1 =>
  C.step (sFieldAddr 27 v2_1 1) w fun v40_1 w =>
  C.step (sLoad 25 v40_1) w fun v41_1 w =>
  C.step (sBuiltin .len #[25] 3 [false] [v41_1]) w fun v42_1 w =>
  C.step (sBin .lss 3 (.tmp 39) (.tmp 42) (vs_1.getD 1 undef) v42_1) w fun v43_1 w =>
  C.bool v43_1
  (C.step (sFieldAddr 27 v2_1 1) w fun v46_1 w =>
  C.step (sLoad 25 v46_1) w fun v47_1 w =>
  C.step (sIndexAddr 25 v47_1 (vs_1.getD 1 undef)) w fun v49_1 w =>
  C.step (sFieldAddr 85 v49_1 1) w fun v50_1 w =>
  C.step (sLoad 9 v50_1) w fun v51_1 w =>
  C.step (sBin .eql 9 (.tmp 51) (.tmp 52) v51_1 a1) w fun v53_1 w =>
  C.bool v53_1
  (C.step (sFieldAddr 27 v2_1 1) w fun v55_1 w =>
  C.step (sLoad 25 v55_1) w fun v56_1 w =>
  C.step (sIndexAddr 25 v56_1 (vs_1.getD 1 undef)) w fun v58_1 w =>
  C.step (sFieldAddr 85 v58_1 3) w fun v59_1 w =>
  C.step (sLoad 4 v59_1) w fun v60_1 w =>
  C.step (sUn .not v60_1) w fun v61_1 w =>
  C.bool v61_1
  (C.step (sFieldAddr 27 v2_1 1) w fun v64_1 w =>
  C.step (sLoad 25 v64_1) w fun v65_1 w =>
  C.step (sIndexAddr 25 v65_1 (vs_1.getD 1 undef)) w fun v67_1 w =>
  C.step (sLoad 85 v67_1) w fun v68_1 w =>
  C.step (sBuildSlice 25 1 [(0, v68_1)]) w fun v69_1 w =>
  C.step (sBuiltin .append #[25, 25] 25 [false, false] [(vs_1.getD 0 undef), v69_1]) w fun v70_1 w =>
  flotillaref13_In_k3 C vs_1 again_1 v70_1 w Q)
  (flotillaref13_In_k3 C vs_1 again_1 (vs_1.getD 0 undef) w Q))
  (flotillaref13_In_k3 C vs_1 again_1 (vs_1.getD 0 undef) w Q))
  (flotillaref13_In_k2 C (vs_1.getD 0 undef) w Q)
def flotillaref13_In_k4 (C : Comb) (vs_2 : List Value) (again_2 : List Value → World → Prop) (u5_4 : Value) (w : World) (Q : Value → World → Prop) : Prop :=
  C.step (sBin .add 3 (.tmp 13) (.const (.int .i64 1)) (vs_2.getD 1 undef) (.int .i64 1)) w fun v14_1 w =>
  again_2 [u5_4, v14_1] w
def flotillaref13_In_x (C : Comb) (a0 : Value) (a1 : Value) (w : World) (Q : Value → World → Prop) : Prop :=
  C.step (sBox 27 a0) w fun v2_1 w =>
  C.loop [(.slice none 0 0), (.int .i64 0)] w fun dv_2 vs_2 w again_2 =>
  C.step (sFieldAddr 27 v2_1 1) w fun v9_1 w =>
  C.step (sLoad 25 v9_1) w fun v10_1 w =>
  C.step (sBuiltin .len #[25] 3 [false] [v10_1]) w fun v11_1 w =>
  C.step (sBin .lss 3 (.tmp 8) (.tmp 11) (vs_2.getD 1 undef) v11_1) w fun v12_1 w =>
  C.bool v12_1
  (C.step (sFieldAddr 27 v2_1 1) w fun v15_1 w =>
  C.step (sLoad 25 v15_1) w fun v16_1 w =>
  C.step (sIndexAddr 25 v16_1 (vs_2.getD 1 undef)) w fun v18_1 w =>
  C.step (sFieldAddr 85 v18_1 1) w fun v19_1 w =>
  C.step (sLoad 9 v19_1) w fun v20_1 w =>
  C.step (sBin .eql 9 (.tmp 20) (.tmp 21) v20_1 a1) w fun v22_1 w =>
  C.bool v22_1
  (C.step (sFieldAddr 27 v2_1 1) w fun v24_1 w =>
  C.step (sLoad 25 v24_1) w fun v25_1 w =>
  C.step (sIndexAddr 25 v25_1 (vs_2.getD 1 undef)) w fun v27_1 w =>
  C.step (sFieldAddr 85 v27_1 3) w fun v28_1 w =>
  C.step (sLoad 4 v28_1) w fun v29_1 w =>
  C.bool v29_1
  (C.step (sFieldAddr 27 v2_1 1) w fun v32_1 w =>
  C.step (sLoad 25 v32_1) w fun v33_1 w =>
  C.step (sIndexAddr 25 v33_1 (vs_2.getD 1 undef)) w fun v35_1 w =>
  C.step (sLoad 85 v35_1) w fun v36_1 w =>
  C.step (sBuildSlice 25 1 [(0, v36_1)]) w fun v37_1 w =>
  C.step (sBuiltin .append #[25, 25] 25 [false, false] [(vs_2.getD 0 undef), v37_1]) w fun v38_1 w =>
  flotillaref13_In_k4 C vs_2 again_2 v38_1 w Q)
  (flotillaref13_In_k4 C vs_2 again_2 (vs_2.getD 0 undef) w Q))
  (flotillaref13_In_k4 C vs_2 again_2 (vs_2.getD 0 undef) w Q))
  (flotillaref13_In_k1 C a1 v2_1 (vs_2.getD 0 undef) w Q)
theorem flotillaref13_In_eq (C : Comb) (a0 : Value) (a1 : Value) (w : World) (Q : Value → World → Prop) : flotillaref13_In_x C a0 a1 w Q = FunY Tryz.prog C 2 [] Tryz.f42 [a0, a1] w Q := by kernel_rfl
theorem flotillaref13_In_sound (a0 : Value) (a1 : Value) {w : World} {Q : Value → World → Prop} (h : flotillaref13_In_x (std Tryz.prog) a0 a1 w Q) : CallsR Tryz.prog 42 #[a0, a1] w Q :=
  calls_of_funY mixed Tryz.func42 (Eq.mp (flotillaref13_In_eq _ a0 a1 w Q) h)

def graph_New_int_x (C : Comb) (w : World) (Q : Value → World → Prop) : Prop :=
  C.step (sMakeMap 125 none) w fun v1_1 w =>
  C.step (sBuild 127 [(0, v1_1)]) w fun v2_1 w =>
  C.step (sBox 127 v2_1) w fun v3_1 w =>
  Q v3_1 w
theorem graph_New_int_eq (C : Comb) (w : World) (Q : Value → World → Prop) : graph_New_int_x C w Q = FunY Tryz.prog C 0 [] Tryz.f45 [] w Q := by kernel_rfl
theorem graph_New_int_sound {w : World} {Q : Value → World → Prop} (h : graph_New_int_x (std Tryz.prog) w Q) : CallsR Tryz.prog 45 #[] w Q :=
  calls_of_funY mixed Tryz.func45 (Eq.mp (graph_New_int_eq _ w Q) h)

def graph_Graph_int_Add_x (C : Comb) (a0 : Value) (a1 : Value) (a2 : Value) (w : World) (Q : Value → World → Prop) : Prop :=
  C.step (sBin .eql 100 (.tmp 8) (.const (.pointer none)) a0 (.pointer none)) w fun v9_1 w =>
  C.bool v9_1
  (Q (.bool false) w)
  (C.step (sNil a0) w fun v11_1 w =>
  C.step (sFieldAddr 127 v11_1 0) w fun v12_1 w =>
  C.step (sLoad 125 v12_1) w fun v13_1 w =>
  C.step (sBuiltin .len #[125] 3 [false] [v13_1]) w fun v14_1 w =>
  C.step (sNil a0) w fun v16_1 w =>
  C.step (sFieldAddr 127 v16_1 0) w fun v17_1 w =>
  C.step (sLoad 125 v17_1) w fun v18_1 w =>
  C.step (sBuild 129 [(0, a1), (1, a2)]) w fun v21_1 w =>
  C.step (sMapUpdate 125 v18_1 v21_1 (.bool true)) w fun vx_1 w =>
  C.step (sNil a0) w fun v23_1 w =>
  C.step (sFieldAddr 127 v23_1 0) w fun v24_1 w =>
  C.step (sLoad 125 v24_1) w fun v25_1 w =>
  C.step (sBuiltin .len #[125] 3 [false] [v25_1]) w fun v26_1 w =>
  C.step (sBin .gtr 3 (.tmp 26) (.tmp 27) v26_1 v14_1) w fun v28_1 w =>
  Q v28_1 w)
theorem graph_Graph_int_Add_eq (C : Comb) (a0 : Value) (a1 : Value) (a2 : Value) (w : World) (Q : Value → World → Prop) : graph_Graph_int_Add_x C a0 a1 a2 w Q = FunY Tryz.prog C 8 [] Tryz.f46 [a0, a1, a2] w Q := by kernel_rfl
theorem graph_Graph_int_Add_sound (a0 : Value) (a1 : Value) (a2 : Value) {w : World} {Q : Value → World → Prop} (h : graph_Graph_int_Add_x (std Tryz.prog) a0 a1 a2 w Q) : CallsR Tryz.prog 46 #[a0, a1, a2] w Q :=
  calls_of_funY mixed Tryz.func46 (Eq.mp (graph_Graph_int_Add_eq _ a0 a1 a2 w Q) h)

def graph_Graph_int_Victim_x (C : Comb) (a0 : Value) (a1 : Value) (w : World) (Q : Value → World → Prop) : Prop :=
  C.calls 68 #[a0, a1] w fun v10_1 w =>
  C.step (sBuiltin .len #[44] 3 [false] [v10_1]) w fun v12_1 w =>
  C.step (sBin .eql 3 (.tmp 12) (.const (.int .i64 0)) v12_1 (.int .i64 0)) w fun v13_1 w =>
  C.bool v13_1
  (Q (.tuple #[(.int .i64 0), (.bool false)]) w)
  (C.step (sBuiltin .len #[44] 3 [false] [v10_1]) w fun v17_1 w =>
  C.step (sBin .sub 3 (.tmp 17) (.const (.int .i64 1)) v17_1 (.int .i64 1)) w fun v18_1 w =>
  C.step (sIndexAddr 44 v10_1 v18_1) w fun v19_1 w =>
  C.step (sLoad 3 v19_1) w fun v20_1 w =>
  Q (.tuple #[v20_1, (.bool true)]) w)
theorem graph_Graph_int_Victim_eq (C : Comb) (a0 : Value) (a1 : Value) (w : World) (Q : Value → World → Prop) : graph_Graph_int_Victim_x C a0 a1 w Q = FunY Tryz.prog C 8 [] Tryz.f47 [a0, a1] w Q := by kernel_rfl
theorem graph_Graph_int_Victim_sound (a0 : Value) (a1 : Value) {w : World} {Q : Value → World → Prop} (h : graph_Graph_int_Victim_x (std Tryz.prog) a0 a1 w Q) : CallsR Tryz.prog 47 #[a0, a1] w Q :=
  calls_of_funY mixed Tryz.func47 (Eq.mp (graph_Graph_int_Victim_eq _ a0 a1 w Q) h)

def lock_Table_gone_k1 (C : Comb) (v7_1 : Value) (w : World) (Q : Value → World → Prop) : Prop :=
  C.step (sLoad 50 v7_1) w fun v65_1 w =>
  Q v65_1 w
def lock_Table_gone_k2 (C : Comb) (vs_1 : List Value) (again_1 : List Value → World → Prop) (w : World) (Q : Value → World → Prop) : Prop :=
  C.step (sBin .add 3 (.tmp 28) (.const (.int .i64 1)) (vs_1.getD 0 undef) (.int .i64 1)) w fun v64_1 w =>
  again_1 [v64_1] w
def lock_Table_gone_k3 (C : Comb) (a0 : Value) (v7_1 : Value) (vs_1 : List Value) (again_1 : List Value → World → Prop) (v31_1 : Value) (u11_3 : Value) (w : World) (Q : Value → World → Prop) : Prop :=
  C.bool u11_3
  (C.step (sMakeFunc (.func 71) [] [v7_1]) w fun v62_1 w =>
  C.calls 70 #[a0, v31_1, v62_1] w fun v63_1 w =>
  lock_Table_gone_k2 C vs_1 again_1 w Q)
  (lock_Table_gone_k2 C vs_1 again_1 w Q)
def lock_Table_gone_x (C : Comb) (a0 : Value) (a1 : Value) (a2 : Value) (w : World) (Q : Value → World → Prop) : Prop :=
  C.step (sBin .eql 23 (.tmp 14) (.const (.pointer none)) a0 (.pointer none)) w fun v15_1 w =>
  C.bool v15_1
  (Q (.slice none 0 0) w)
  (C.step (sAlloc 50) w fun v7_1 w =>
  C.step (sNil a0) w fun v17_1 w =>
  C.step (sFieldAddr 67 v17_1 1) w fun v18_1 w =>
  C.step (sLoad 65 v18_1) w fun v19_1 w =>
  C.step (sBuiltin .delete #[65, 3] 0 [false, false] [v19_1, a1]) w fun vx_1 w =>
  C.step (sNil a0) w fun v22_1 w =>
  C.step (sFieldAddr 67 v22_1 0) w fun v23_1 w =>
  C.step (sLoad 64 v23_1) w fun v24_1 w =>
  C.calls 54 #[v24_1] w fun v25_1 w =>
  C.calls 53 #[v25_1] w fun v26_1 w =>
  C.step (sBuiltin .len #[109] 3 [false] [v26_1]) w fun v27_1 w =>
  C.loop [(.int .i64 0)] w fun dv_1 vs_1 w again_1 =>
  C.step (sBin .lss 3 (.tmp 28) (.tmp 27) (vs_1.getD 0 undef) v27_1) w fun v29_1 w =>
  C.bool v29_1
  (C.step (sIndexAddr 109 v26_1 (vs_1.getD 0 undef)) w fun v30_1 w =>
  C.step (sLoad 9 v30_1) w fun v31_1 w =>
  C.step (sNil a0) w fun v33_1 w =>
  C.step (sFieldAddr 67 v33_1 0) w fun v34_1 w =>
  C.step (sLoad 64 v34_1) w fun v35_1 w =>
  C.step (sLookup 64 v35_1 v31_1 false) w fun v37_1 w =>
  C.calls 69 #[v37_1, a1] w fun v40_1 w =>
  C.step (sNil v37_1) w fun v43_1 w =>
  C.step (sFieldAddr 95 v43_1 0) w fun v44_1 w =>
  C.step (sLoad 93 v44_1) w fun v45_1 w =>
  C.step (sLookup 93 v45_1 a1 true) w fun v47_1 w =>
  C.step (sExtract v47_1 0) w fun v48_1 w =>
  C.step (sExtract v47_1 1) w fun v49_1 w =>
  C.bool v49_1
  (C.bool a2
  (C.step (sNil v37_1) w fun v55_1 w =>
  C.step (sFieldAddr 95 v55_1 0) w fun v56_1 w =>
  C.step (sLoad 93 v56_1) w fun v57_1 w =>
  C.step (sBuiltin .delete #[93, 3] 0 [false, false] [v57_1, a1]) w fun vx_2 w =>
  C.step (sMakeFunc (.func 71) [] [v7_1]) w fun v62_2 w =>
  C.calls 70 #[a0, v31_1, v62_2] w fun v63_2 w =>
  lock_Table_gone_k2 C vs_1 again_1 w Q)
  (lock_Table_gone_k3 C a0 v7_1 vs_1 again_1 v31_1 v40_1 w Q))
  (lock_Table_gone_k3 C a0 v7_1 vs_1 again_1 v31_1 v40_1 w Q))
  (lock_Table_gone_k1 C v7_1 w Q))
theorem lock_Table_gone_eq (C : Comb) (a0 : Value) (a1 : Value) (a2 : Value) (w : World) (Q : Value → World → Prop) : lock_Table_gone_x C a0 a1 a2 w Q = FunY Tryz.prog C 2 [] Tryz.f48 [a0, a1, a2] w Q := by kernel_rfl
theorem lock_Table_gone_sound (a0 : Value) (a1 : Value) (a2 : Value) {w : World} {Q : Value → World → Prop} (h : lock_Table_gone_x (std Tryz.prog) a0 a1 a2 w Q) : CallsR Tryz.prog 48 #[a0, a1, a2] w Q :=
  calls_of_funY mixed Tryz.func48 (Eq.mp (lock_Table_gone_eq _ a0 a1 a2 w Q) h)

def mode_Known_x (C : Comb) (a0 : Value) (w : World) (Q : Value → World → Prop) : Prop :=
  C.step (sBin .geq 29 (.tmp 3) (.const (.int .i64 0)) a0 (.int .i64 0)) w fun v4_1 w =>
  C.bool v4_1
  (C.step (sBin .lss 29 (.tmp 6) (.const (.int .i64 6)) a0 (.int .i64 6)) w fun v7_1 w =>
  Q v7_1 w)
  (Q (.bool false) w)
theorem mode_Known_eq (C : Comb) (a0 : Value) (w : World) (Q : Value → World → Prop) : mode_Known_x C a0 w Q = FunY Tryz.prog C 2 [] Tryz.f49 [a0] w Q := by kernel_rfl
theorem mode_Known_sound (a0 : Value) {w : World} {Q : Value → World → Prop} (h : mode_Known_x (std Tryz.prog) a0 w Q) : CallsR Tryz.prog 49 #[a0] w Q :=
  calls_of_funY mixed Tryz.func49 (Eq.mp (mode_Known_eq _ a0 w Q) h)

def mode_Covers_x (C : Comb) (a0 : Value) (a1 : Value) (w : World) (Q : Value → World → Prop) : Prop :=
  C.calls 72 #[a0, a1] w fun v7_1 w =>
  C.calls 73 #[a0] w fun v9_1 w =>
  C.step (sBin .eql 29 (.tmp 7) (.tmp 9) v7_1 v9_1) w fun v10_1 w =>
  Q v10_1 w
theorem mode_Covers_eq (C : Comb) (a0 : Value) (a1 : Value) (w : World) (Q : Value → World → Prop) : mode_Covers_x C a0 a1 w Q = FunY Tryz.prog C 4 [] Tryz.f50 [a0, a1] w Q := by kernel_rfl
theorem mode_Covers_sound (a0 : Value) (a1 : Value) {w : World} {Q : Value → World → Prop} (h : mode_Covers_x (std Tryz.prog) a0 a1 w Q) : CallsR Tryz.prog 50 #[a0, a1] w Q :=
  calls_of_funY mixed Tryz.func50 (Eq.mp (mode_Covers_eq _ a0 a1 w Q) h)

def lock_name_would_x (C : Comb) (a0 : Value) (a1 : Value) (a2 : Value) (w : World) (Q : Value → World → Prop) : Prop :=
  C.step (sNil a0) w fun v8_1 w =>
  C.step (sFieldAddr 95 v8_1 0) w fun v9_1 w =>
  C.step (sLoad 93 v9_1) w fun v10_1 w =>
  C.step (sLookup 93 v10_1 a1 false) w fun v12_1 w =>
  C.calls 72 #[v12_1, a2] w fun v14_1 w =>
  Q v14_1 w
theorem lock_name_would_eq (C : Comb) (a0 : Value) (a1 : Value) (a2 : Value) (w : World) (Q : Value → World → Prop) : lock_name_would_x C a0 a1 a2 w Q = FunY Tryz.prog C 6 [] Tryz.f51 [a0, a1, a2] w Q := by kernel_rfl
theorem lock_name_would_sound (a0 : Value) (a1 : Value) (a2 : Value) {w : World} {Q : Value → World → Prop} (h : lock_name_would_x (std Tryz.prog) a0 a1 a2 w Q) : CallsR Tryz.prog 51 #[a0, a1, a2] w Q :=
  calls_of_funY mixed Tryz.func51 (Eq.mp (lock_name_would_eq _ a0 a1 a2 w Q) h)

def lock_name_goes_k1 (C : Comb) (w : World) (Q : Value → World → Prop) : Prop :=
  Q (.bool true) w
def lock_name_goes_x (C : Comb) (a0 : Value) (a1 : Value) (a2 : Value) (w : World) (Q : Value → World → Prop) : Prop :=
  C.step (sNil a0) w fun v10_1 w =>
  C.step (sFieldAddr 95 v10_1 0) w fun v11_1 w =>
  C.step (sLoad 93 v11_1) w fun v12_1 w =>
  C.step (sRange 93 v12_1) w fun v13_1 w =>
  C.loop [undef, undef, (.bool false)] w fun dv_1 vs_1 w again_1 =>
  C.step (sNext v13_1 false 0) w fun v14_1 w =>
  C.step (sExtract v14_1 0) w fun v15_1 w =>
  C.bool v15_1
  (C.step (sEntry v13_1) w fun v16_1 w =>
  C.step (sExtract v16_1 0) w fun v17_1 w =>
  C.step (sExtract v16_1 1) w fun v18_1 w =>
  C.step (sBin .neq 3 (.tmp 19) (.tmp 20) v17_1 a1) w fun v21_1 w =>
  C.bool v21_1
  (C.calls 61 #[v18_1, a2] w fun v25_1 w =>
  C.step (sUn .not v25_1) w fun v26_1 w =>
  C.bool v26_1
  (Q (.bool false) w)
  (again_1 [v17_1, v18_1, (vs_1.getD 2 undef)] w))
  (again_1 [v17_1, v18_1, (vs_1.getD 2 undef)] w))
  (lock_name_goes_k1 C w Q)
theorem lock_name_goes_eq (C : Comb) (a0 : Value) (a1 : Value) (a2 : Value) (w : World) (Q : Value → World → Prop) : lock_name_goes_x C a0 a1 a2 w Q = FunY Tryz.prog C 9 [] Tryz.f52 [a0, a1, a2] w Q := by kernel_rfl
theorem lock_name_goes_sound (a0 : Value) (a1 : Value) (a2 : Value) {w : World} {Q : Value → World → Prop} (h : lock_name_goes_x (std Tryz.prog) a0 a1 a2 w Q) : CallsR Tryz.prog 52 #[a0, a1, a2] w Q :=
  calls_of_funY mixed Tryz.func52 (Eq.mp (lock_name_goes_eq _ a0 a1 a2 w Q) h)

def flotillaref04_Covers_k1 (C : Comb) (u4_1 : Value) (w : World) (Q : Value → World → Prop) : Prop :=
  Q u4_1 w
def flotillaref04_Covers_x (C : Comb) (a0 : Value) (a1 : Value) (w : World) (Q : Value → World → Prop) : Prop :=
  C.calls 64 #[a0] w fun v8_1 w =>
  C.calls 64 #[a1] w fun v10_1 w =>
  C.step (sBin .geq 3 (.tmp 11) (.tmp 12) v8_1 v10_1) w fun v13_1 w =>
  C.bool v13_1
  (C.step (sBin .eql 3 (.tmp 15) (.const (.int .i64 3)) v8_1 (.int .i64 3)) w fun v16_1 w =>
  C.bool v16_1
  (C.step (sBin .eql 3 (.tmp 18) (.const (.int .i64 2)) v10_1 (.int .i64 2)) w fun v19_1 w =>
  C.step (sUn .not v19_1) w fun v21_1 w =>
  flotillaref04_Covers_k1 C v21_1 w Q)
  (C.step (sUn .not (.bool false)) w fun v21_2 w =>
  flotillaref04_Covers_k1 C v21_2 w Q))
  (Q (.bool false) w)
theorem flotillaref04_Covers_eq (C : Comb) (a0 : Value) (a1 : Value) (w : World) (Q : Value → World → Prop) : flotillaref04_Covers_x C a0 a1 w Q = FunY Tryz.prog C 7 [] Tryz.f55 [a0, a1] w Q := by kernel_rfl
theorem flotillaref04_Covers_sound (a0 : Value) (a1 : Value) {w : World} {Q : Value → World → Prop} (h : flotillaref04_Covers_x (std Tryz.prog) a0 a1 w Q) : CallsR Tryz.prog 55 #[a0, a1] w Q :=
  calls_of_funY mixed Tryz.func55 (Eq.mp (flotillaref04_Covers_eq _ a0 a1 w Q) h)

def flotillaref13_Goes_k1 (C : Comb) (w : World) (Q : Value → World → Prop) : Prop :=
  Q (.bool true) w
def flotillaref13_Goes_k2 (C : Comb) (vs_1 : List Value) (again_1 : List Value → World → Prop) (u11_2 : Value) (u8_2 : Value) (w : World) (Q : Value → World → Prop) : Prop :=
  C.step (sBin .add 3 (.tmp 23) (.const (.int .i64 1)) (vs_1.getD 2 undef) (.int .i64 1)) w fun v24_1 w =>
  again_1 [u11_2, u8_2, v24_1] w
def flotillaref13_Goes_k3 (C : Comb) (vs_1 : List Value) (again_1 : List Value → World → Prop) (v11_1 : Value) (w : World) (Q : Value → World → Prop) : Prop :=
  flotillaref13_Goes_k2 C vs_1 again_1 v11_1 (vs_1.getD 1 undef) w Q
def flotillaref13_Goes_x (C : Comb) (a0 : Value) (a1 : Value) (a2 : Value) (a3 : Value) (w : World) (Q : Value → World → Prop) : Prop :=
  C.step (sBox 27 a0) w fun v4_1 w =>
  C.step (sLoad 27 v4_1) w fun v12_1 w =>
  C.calls 39 #[v12_1, a1, a2] w fun v15_1 w =>
  C.calls 38 #[v15_1, a3] w fun v17_1 w =>
  C.loop [undef, (.bool false), (.int .i64 0)] w fun dv_1 vs_1 w again_1 =>
  C.step (sFieldAddr 27 v4_1 0) w fun v19_1 w =>
  C.step (sLoad 25 v19_1) w fun v20_1 w =>
  C.step (sBuiltin .len #[25] 3 [false] [v20_1]) w fun v21_1 w =>
  C.step (sBin .lss 3 (.tmp 18) (.tmp 21) (vs_1.getD 2 undef) v21_1) w fun v22_1 w =>
  C.bool v22_1
  (C.step (sFieldAddr 27 v4_1 0) w fun v25_1 w =>
  C.step (sLoad 25 v25_1) w fun v26_1 w =>
  C.step (sIndexAddr 25 v26_1 (vs_1.getD 2 undef)) w fun v28_1 w =>
  C.step (sLoad 85 v28_1) w fun v29_1 w =>
  C.step (sAlloc 85) w fun v11_1 w =>
  C.step (sStore 85 v11_1 v29_1) w fun vx_1 w =>
  C.step (sFieldAddr 85 v11_1 0) w fun v30_1 w =>
  C.step (sLoad 3 v30_1) w fun v31_1 w =>
  C.step (sBin .neq 3 (.tmp 31) (.tmp 32) v31_1 a1) w fun v33_1 w =>
  C.bool v33_1
  (C.step (sFieldAddr 85 v11_1 1) w fun v35_1 w =>
  C.step (sLoad 9 v35_1) w fun v36_1 w =>
  C.step (sBin .eql 9 (.tmp 36) (.tmp 37) v36_1 a2) w fun v38_1 w =>
  C.bool v38_1
  (C.step (sFieldAddr 85 v11_1 2) w fun v41_1 w =>
  C.step (sLoad 29 v41_1) w fun v42_1 w =>
  C.calls 40 #[v42_1, v17_1] w fun v44_1 w =>
  C.step (sUn .not v44_1) w fun v45_1 w =>
  C.bool v45_1
  (Q (.bool false) w)
  (flotillaref13_Goes_k2 C vs_1 again_1 v11_1 (vs_1.getD 1 undef) w Q))
  (flotillaref13_Goes_k3 C vs_1 again_1 v11_1 w Q))
  (flotillaref13_Goes_k3 C vs_1 again_1 v11_1 w Q))
  (flotillaref13_Goes_k1 C w Q)
theorem flotillaref13_Goes_eq (C : Comb) (a0 : Value) (a1 : Value) (a2 : Value) (a3 : Value) (w : World) (Q : Value → World → Prop) : flotillaref13_Goes_x C a0 a1 a2 a3 w Q = FunY Tryz.prog C 12 [] Tryz.f56 [a0, a1, a2, a3] w Q := by kernel_rfl
theorem flotillaref13_Goes_sound (a0 : Value) (a1 : Value) (a2 : Value) (a3 : Value) {w : World} {Q : Value → World → Prop} (h : flotillaref13_Goes_x (std Tryz.prog) a0 a1 a2 a3 w Q) : CallsR Tryz.prog 56 #[a0, a1, a2, a3] w Q :=
  calls_of_funY mixed Tryz.func56 (Eq.mp (flotillaref13_Goes_eq _ a0 a1 a2 a3 w Q) h)

def flotillaref13_get_k1 (C : Comb) (a1 : Value) (a2 : Value) (v4_1 : Value) (v8_1 : Value) (v17_1 : Value) (u10_1 : Value) (w : World) (Q : Value → World → Prop) : Prop :=
  C.draw w fun S_1 w =>
  C.stepS S_1 (sFieldAddr 27 v4_1 1) fun v58_1 =>
  C.stepS S_1 (sLoad 25 v58_1) fun v59_1 =>
  C.step (sBuild 85 [(0, a1), (1, a2), (2, v17_1)]) w fun v55_1 w =>
  C.keepS S_1 w fun S_2 =>
  C.step (sBuildSlice 25 1 [(0, v55_1)]) w fun v56_1 w =>
  C.keepS S_2 w fun S_3 =>
  C.step (sBuiltin .append #[25, 25] 25 [false, false] [u10_1, v56_1]) w fun v57_1 w =>
  C.keepS S_3 w fun S_4 =>
  C.step (sBuild 27 [(0, v57_1), (1, v59_1)]) w fun v60_1 w =>
  C.keepT w fun S_5 =>
  C.step (sStore 27 v8_1 v60_1) w fun vx_1 w =>
  C.keepT w fun S_6 =>
  C.loadR 27 v8_1 w fun r_1 =>
  Q r_1 w
def flotillaref13_get_k2 (C : Comb) (vs_1 : List Value) (again_1 : List Value → World → Prop) (u10_2 : Value) (w : World) (Q : Value → World → Prop) : Prop :=
  C.step (sBin .add 3 (.tmp 23) (.const (.int .i64 1)) (vs_1.getD 1 undef) (.int .i64 1)) w fun v24_1 w =>
  again_1 [u10_2, v24_1] w
def flotillaref13_get_x (C : Comb) (a0 : Value) (a1 : Value) (a2 : Value) (a3 : Value) (w : World) (Q : Value → World → Prop) : Prop :=
  C.step (sBox 27 a0) w fun v4_1 w =>
  C.step (sAlloc 27) w fun v8_1 w =>
  C.step (sLoad 27 v4_1) w fun v12_1 w =>
  C.calls 39 #[v12_1, a1, a2] w fun v15_1 w =>
  C.calls 38 #[v15_1, a3] w fun v17_1 w =>
  C.loop [(.slice none 0 0), (.int .i64 0)] w fun dv_1 vs_1 w again_1 =>
  C.step (sFieldAddr 27 v4_1 0) w fun v19_1 w =>
  C.step (sLoad 25 v19_1) w fun v20_1 w =>
  C.step (sBuiltin .len #[25] 3 [false] [v20_1]) w fun v21_1 w =>
  C.step (sBin .lss 3 (.tmp 18) (.tmp 21) (vs_1.getD 1 undef) v21_1) w fun v22_1 w =>
  C.bool v22_1
  (C.step (sFieldAddr 27 v4_1 0) w fun v25_1 w =>
  C.step (sLoad 25 v25_1) w fun v26_1 w =>
  C.step (sIndexAddr 25 v26_1 (vs_1.getD 1 undef)) w fun v28_1 w =>
  C.step (sFieldAddr 85 v28_1 0) w fun v29_1 w =>
  C.step (sLoad 3 v29_1) w fun v30_1 w =>
  C.step (sBin .neq 3 (.tmp 30) (.tmp 31) v30_1 a1) w fun v32_1 w =>
  C.bool v32_1
  (C.step (sFieldAddr 27 v4_1 0) w fun v44_1 w =>
  C.step (sLoad 25 v44_1) w fun v45_1 w =>
  C.step (sIndexAddr 25 v45_1 (vs_1.getD 1 undef)) w fun v47_1 w =>
  C.step (sLoad 85 v47_1) w fun v48_1 w =>
  C.step (sBuildSlice 25 1 [(0, v48_1)]) w fun v49_1 w =>
  C.step (sBuiltin .append #[25, 25] 25 [false, false] [(vs_1.getD 0 undef), v49_1]) w fun v50_1 w =>
  flotillaref13_get_k2 C vs_1 again_1 v50_1 w Q)
  (C.step (sFieldAddr 27 v4_1 0) w fun v34_1 w =>
  C.step (sLoad 25 v34_1) w fun v35_1 w =>
  C.step (sIndexAddr 25 v35_1 (vs_1.getD 1 undef)) w fun v37_1 w =>
  C.step (sFieldAddr 85 v37_1 1) w fun v38_1 w =>
  C.step (sLoad 9 v38_1) w fun v39_1 w =>
  C.step (sBin .neq 9 (.tmp 39) (.tmp 40) v39_1 a2) w fun v41_1 w =>
  C.bool v41_1
  (C.step (sFieldAddr 27 v4_1 0) w fun v44_2 w =>
  C.step (sLoad 25 v44_2) w fun v45_2 w =>
  C.step (sIndexAddr 25 v45_2 (vs_1.getD 1 undef)) w fun v47_2 w =>
  C.step (sLoad 85 v47_2) w fun v48_2 w =>
  C.step (sBuildSlice 25 1 [(0, v48_2)]) w fun v49_2 w =>
  C.step (sBuiltin .append #[25, 25] 25 [false, false] [(vs_1.getD 0 undef), v49_2]) w fun v50_2 w =>
  flotillaref13_get_k2 C vs_1 again_1 v50_2 w Q)
  (flotillaref13_get_k2 C vs_1 again_1 (vs_1.getD 0 undef) w Q)))
  (flotillaref13_get_k1 C a1 a2 v4_1 v8_1 v17_1 (vs_1.getD 0 undef) w Q)
theorem flotillaref13_get_eq (C : Comb) (a0 : Value) (a1 : Value) (a2 : Value) (a3 : Value) (w : World) (Q : Value → World → Prop) : flotillaref13_get_x C a0 a1 a2 a3 w Q = FunY Tryz.prog C 12 [] Tryz.f57 [a0, a1, a2, a3] w Q := by kernel_rfl
theorem flotillaref13_get_sound (a0 : Value) (a1 : Value) (a2 : Value) (a3 : Value) {w : World} {Q : Value → World → Prop} (h : flotillaref13_get_x (std Tryz.prog) a0 a1 a2 a3 w Q) : CallsR Tryz.prog 57 #[a0, a1, a2, a3] w Q :=
  calls_of_funY mixed Tryz.func57 (Eq.mp (flotillaref13_get_eq _ a0 a1 a2 a3 w Q) h)

def flotillaref13_names_k2 (C : Comb) (u7_2 : Value) (w : World) (Q : Value → World → Prop) : Prop :=
  Q u7_2 w
def flotillaref13_names_k3 (C : Comb) (vs_1 : List Value) (again_1 : List Value → World → Prop) (u7_3 : Value) (w : World) (Q : Value → World → Prop) : Prop :=
  C.step (sBin .add 3 (.tmp 28) (.const (.int .i64 1)) (vs_1.getD 1 undef) (.int .i64 1)) w fun v29_1 w =>
  again_1 [u7_3, v29_1] w
def flotillaref13_names_k5 (C : Comb) (u8_1 : Value) (vs_1 : List Value) (again_1 : List Value → World → Prop) (u11_4 : Value) (w : World) (Q : Value → World → Prop) : Prop :=
  C.step (sSlice 109 (vs_1.getD 0 undef) none (some u11_4) none) w fun v74_1 w =>
  C.step (sBuiltin .append #[109, 109] 109 [false, false] [(.slice none 0 0), v74_1]) w fun v75_1 w =>
  C.step (sIndexAddr 25 u8_1 (vs_1.getD 1 undef)) w fun v79_1 w =>
  C.step (sFieldAddr 85 v79_1 1) w fun v80_1 w =>
  C.step (sLoad 9 v80_1) w fun v81_1 w =>
  C.step (sBuildSlice 109 1 [(0, v81_1)]) w fun v82_1 w =>
  C.step (sBuiltin .append #[109, 109] 109 [false, false] [v75_1, v82_1]) w fun v83_1 w =>
  C.step (sSlice 109 (vs_1.getD 0 undef) (some u11_4) none none) w fun v87_1 w =>
  C.step (sBuiltin .append #[109, 109] 109 [false, false] [v83_1, v87_1]) w fun v88_1 w =>
  flotillaref13_names_k3 C vs_1 again_1 v88_1 w Q
def flotillaref13_names_k4 (C : Comb) (u8_1 : Value) (vs_1 : List Value) (again_1 : List Value → World → Prop) (u11_4 : Value) (w : World) (Q : Value → World → Prop) : Prop :=
  C.draw w fun S_1 w =>
  C.stepS S_1 (sBuiltin .len #[109] 3 [false] [(vs_1.getD 0 undef)]) fun v57_1 =>
  C.stepS S_1 (sBin .lss 3 (.tmp 55) (.tmp 57) u11_4 v57_1) fun v58_1 =>
  C.bool v58_1
  (C.stepS S_1 (sIndexAddr 109 (vs_1.getD 0 undef) u11_4) fun v62_1 =>
  C.stepS S_1 (sLoad 9 v62_1) fun v63_1 =>
  C.stepS S_1 (sIndexAddr 25 u8_1 (vs_1.getD 1 undef)) fun v66_1 =>
  C.stepS S_1 (sFieldAddr 85 v66_1 1) fun v67_1 =>
  C.stepS S_1 (sLoad 9 v67_1) fun v68_1 =>
  C.stepS S_1 (sBin .eql 9 (.tmp 63) (.tmp 68) v63_1 v68_1) fun v69_1 =>
  C.bool v69_1
  (flotillaref13_names_k3 C vs_1 again_1 (vs_1.getD 0 undef) w Q)
  (flotillaref13_names_k5 C u8_1 vs_1 again_1 u11_4 w Q))
  (flotillaref13_names_k5 C u8_1 vs_1 again_1 u11_4 w Q)
def flotillaref13_names_k1 (C : Comb) (a1 : Value) (u8_1 : Value) (w : World) (Q : Value → World → Prop) : Prop :=
  C.loop [(.slice none 0 0), (.int .i64 0)] w fun dv_1 vs_1 w again_1 =>
  C.step (sBuiltin .len #[25] 3 [false] [u8_1]) w fun v26_1 w =>
  C.step (sBin .lss 3 (.tmp 24) (.tmp 26) (vs_1.getD 1 undef) v26_1) w fun v27_1 w =>
  C.bool v27_1
  (C.step (sIndexAddr 25 u8_1 (vs_1.getD 1 undef)) w fun v32_1 w =>
  C.step (sFieldAddr 85 v32_1 0) w fun v33_1 w =>
  C.step (sLoad 3 v33_1) w fun v34_1 w =>
  C.step (sBin .neq 3 (.tmp 34) (.tmp 35) v34_1 a1) w fun v36_1 w =>
  C.bool v36_1
  (flotillaref13_names_k3 C vs_1 again_1 (vs_1.getD 0 undef) w Q)
  (C.loop [(.int .i64 0)] w fun dv_2 vs_2 w again_2 =>
  C.draw w fun S_2 w =>
  C.stepS S_2 (sBuiltin .len #[109] 3 [false] [(vs_1.getD 0 undef)]) fun v39_1 =>
  C.stepS S_2 (sBin .lss 3 (.tmp 37) (.tmp 39) (vs_2.getD 0 undef) v39_1) fun v40_1 =>
  C.bool v40_1
  (C.stepS S_2 (sIndexAddr 109 (vs_1.getD 0 undef) (vs_2.getD 0 undef)) fun v44_1 =>
  C.stepS S_2 (sLoad 9 v44_1) fun v45_1 =>
  C.stepS S_2 (sIndexAddr 25 u8_1 (vs_1.getD 1 undef)) fun v48_1 =>
  C.stepS S_2 (sFieldAddr 85 v48_1 1) fun v49_1 =>
  C.stepS S_2 (sLoad 9 v49_1) fun v50_1 =>
  C.stepS S_2 (sBin .lss 9 (.tmp 45) (.tmp 50) v45_1 v50_1) fun v51_1 =>
  C.bool v51_1
  (C.step (sBin .add 3 (.tmp 53) (.const (.int .i64 1)) (vs_2.getD 0 undef) (.int .i64 1)) w fun v54_1 w =>
  again_2 [v54_1] w)
  (flotillaref13_names_k4 C u8_1 vs_1 again_1 (vs_2.getD 0 undef) w Q))
  (flotillaref13_names_k4 C u8_1 vs_1 again_1 (vs_2.getD 0 undef) w Q)))
  (flotillaref13_names_k2 C (vs_1.getD 0 undef) w Q)
def flotillaref13_names_x (C : Comb) (a0 : Value) (a1 : Value) (a2 : Value) (w : World) (Q : Value → World → Prop) : Prop :=
  C.step (sBox 27 a0) w fun v3_1 w =>
  C.step (sFieldAddr 27 v3_1 1) w fun v13_1 w =>
  C.step (sLoad 25 v13_1) w fun v14_1 w =>
  C.bool a2
  (C.step (sFieldAddr 27 v3_1 1) w fun v17_1 w =>
  C.step (sLoad 25 v17_1) w fun v18_1 w =>
  C.step (sBuiltin .append #[25, 25] 25 [false, false] [(.slice none 0 0), v18_1]) w fun v19_1 w =>
  C.step (sFieldAddr 27 v3_1 0) w fun v21_1 w =>
  C.step (sLoad 25 v21_1) w fun v22_1 w =>
  C.step (sBuiltin .append #[25, 25] 25 [false, false] [v19_1, v22_1]) w fun v23_1 w =>
  flotillaref13_names_k1 C a1 v23_1 w Q)
  (flotillaref13_names_k1 C a1 v14_1 w Q)
theorem flotillaref13_names_eq (C : Comb) (a0 : Value) (a1 : Value) (a2 : Value) (w : World) (Q : Value → World → Prop) : flotillaref13_names_x C a0 a1 a2 w Q = FunY Tryz.prog C 2 [] Tryz.f58 [a0, a1, a2] w Q := by kernel_rfl
theorem flotillaref13_names_sound (a0 : Value) (a1 : Value) (a2 : Value) {w : World} {Q : Value → World → Prop} (h : flotillaref13_names_x (std Tryz.prog) a0 a1 a2 w Q) : CallsR Tryz.prog 58 #[a0, a1, a2] w Q :=
  calls_of_funY mixed Tryz.func58 (Eq.mp (flotillaref13_names_eq _ a0 a1 a2 w Q) h)

def flotillaref13_waiting_k1 (C : Comb) (u5_1 : Value) (w : World) (Q : Value → World → Prop) : Prop :=
  Q u5_1 w
def flotillaref13_waiting_k2 (C : Comb) (vs_1 : List Value) (again_1 : List Value → World → Prop) (u5_2 : Value) (w : World) (Q : Value → World → Prop) : Prop :=
  C.step (sBin .add 3 (.tmp 12) (.const (.int .i64 1)) (vs_1.getD 1 undef) (.int .i64 1)) w fun v13_1 w =>
  again_1 [u5_2, v13_1] w
def flotillaref13_waiting_x (C : Comb) (a0 : Value) (a1 : Value) (w : World) (Q : Value → World → Prop) : Prop :=
  C.step (sBox 27 a0) w fun v2_1 w =>
  C.loop [(.slice none 0 0), (.int .i64 0)] w fun dv_1 vs_1 w again_1 =>
  C.step (sFieldAddr 27 v2_1 1) w fun v8_1 w =>
  C.step (sLoad 25 v8_1) w fun v9_1 w =>
  C.step (sBuiltin .len #[25] 3 [false] [v9_1]) w fun v10_1 w =>
  C.step (sBin .lss 3 (.tmp 7) (.tmp 10) (vs_1.getD 1 undef) v10_1) w fun v11_1 w =>
  C.bool v11_1
  (C.step (sFieldAddr 27 v2_1 1) w fun v14_1 w =>
  C.step (sLoad 25 v14_1) w fun v15_1 w =>
  C.step (sIndexAddr 25 v15_1 (vs_1.getD 1 undef)) w fun v17_1 w =>
  C.step (sFieldAddr 85 v17_1 0) w fun v18_1 w =>
  C.step (sLoad 3 v18_1) w fun v19_1 w =>
  C.step (sBin .neq 3 (.tmp 19) (.tmp 20) v19_1 a1) w fun v21_1 w =>
  C.bool v21_1
  (C.step (sFieldAddr 27 v2_1 1) w fun v23_1 w =>
  C.step (sLoad 25 v23_1) w fun v24_1 w =>
  C.step (sIndexAddr 25 v24_1 (vs_1.getD 1 undef)) w fun v26_1 w =>
  C.step (sLoad 85 v26_1) w fun v27_1 w =>
  C.step (sBuildSlice 25 1 [(0, v27_1)]) w fun v28_1 w =>
  C.step (sBuiltin .append #[25, 25] 25 [false, false] [(vs_1.getD 0 undef), v28_1]) w fun v29_1 w =>
  flotillaref13_waiting_k2 C vs_1 again_1 v29_1 w Q)
  (flotillaref13_waiting_k2 C vs_1 again_1 (vs_1.getD 0 undef) w Q))
  (flotillaref13_waiting_k1 C (vs_1.getD 0 undef) w Q)
theorem flotillaref13_waiting_eq (C : Comb) (a0 : Value) (a1 : Value) (w : World) (Q : Value → World → Prop) : flotillaref13_waiting_x C a0 a1 w Q = FunY Tryz.prog C 7 [] Tryz.f59 [a0, a1] w Q := by kernel_rfl
theorem flotillaref13_waiting_sound (a0 : Value) (a1 : Value) {w : World} {Q : Value → World → Prop} (h : flotillaref13_waiting_x (std Tryz.prog) a0 a1 w Q) : CallsR Tryz.prog 59 #[a0, a1] w Q :=
  calls_of_funY mixed Tryz.func59 (Eq.mp (flotillaref13_waiting_eq _ a0 a1 w Q) h)

def flotillaref12_Ring_k1 (C : Comb) (u5_1 : Value) (w : World) (Q : Value → World → Prop) : Prop :=
  Q u5_1 w
def flotillaref12_Ring_k2 (C : Comb) (vs_1 : List Value) (again_1 : List Value → World → Prop) (u5_2 : Value) (w : World) (Q : Value → World → Prop) : Prop :=
  C.step (sBin .add 3 (.tmp 16) (.const (.int .i64 1)) (vs_1.getD 1 undef) (.int .i64 1)) w fun v17_1 w =>
  again_1 [u5_2, v17_1] w
def flotillaref12_Ring_x (C : Comb) (a0 : Value) (a1 : Value) (w : World) (Q : Value → World → Prop) : Prop :=
  C.calls 77 #[a0, a1] w fun v11_1 w =>
  C.loop [(.slice none 0 0), (.int .i64 0)] w fun dv_1 vs_1 w again_1 =>
  C.step (sBuiltin .len #[44] 3 [false] [v11_1]) w fun v14_1 w =>
  C.step (sBin .lss 3 (.tmp 12) (.tmp 14) (vs_1.getD 1 undef) v14_1) w fun v15_1 w =>
  C.bool v15_1
  (C.step (sIndexAddr 44 v11_1 (vs_1.getD 1 undef)) w fun v21_1 w =>
  C.step (sLoad 3 v21_1) w fun v22_1 w =>
  C.calls 77 #[a0, v22_1] w fun v23_1 w =>
  C.calls 20 #[v23_1, a1] w fun v25_1 w =>
  C.step (sUn .not v25_1) w fun v26_1 w =>
  C.bool v26_1
  (flotillaref12_Ring_k2 C vs_1 again_1 (vs_1.getD 0 undef) w Q)
  (C.step (sBuiltin .len #[44] 3 [false] [(vs_1.getD 0 undef)]) w fun v28_1 w =>
  C.step (sIndexAddr 44 v11_1 (vs_1.getD 1 undef)) w fun v32_1 w =>
  C.step (sLoad 3 v32_1) w fun v33_1 w =>
  C.step (sBuildSlice 44 1 [(0, v33_1)]) w fun v34_1 w =>
  C.step (sBuiltin .append #[44, 44] 44 [false, false] [(vs_1.getD 0 undef), v34_1]) w fun v35_1 w =>
  C.loop [v28_1] w fun dv_2 vs_2 w again_2 =>
  C.draw w fun S_1 w =>
  C.stepS S_1 (sBin .gtr 3 (.tmp 36) (.const (.int .i64 0)) (vs_2.getD 0 undef) (.int .i64 0)) fun v37_1 =>
  C.bool v37_1
  (C.stepS (fun _ => True) (sBin .sub 3 (.tmp 40) (.const (.int .i64 1)) (vs_2.getD 0 undef) (.int .i64 1)) fun v41_1 =>
  C.stepS S_1 (sIndexAddr 44 v35_1 v41_1) fun v42_1 =>
  C.stepS S_1 (sLoad 3 v42_1) fun v43_1 =>
  C.stepS S_1 (sIndexAddr 44 v11_1 (vs_1.getD 1 undef)) fun v46_1 =>
  C.stepS S_1 (sLoad 3 v46_1) fun v47_1 =>
  C.stepS S_1 (sBin .gtr 3 (.tmp 43) (.tmp 47) v43_1 v47_1) fun v48_1 =>
  C.bool v48_1
  (C.draw w fun S_2 w =>
  C.stepS (fun _ => True) (sBin .sub 3 (.tmp 53) (.const (.int .i64 1)) (vs_2.getD 0 undef) (.int .i64 1)) fun v54_1 =>
  C.stepS (fun _ => True) (sBin .sub 3 (.tmp 56) (.const (.int .i64 1)) (vs_2.getD 0 undef) (.int .i64 1)) fun v57_1 =>
  C.stepS S_2 (sIndexAddr 44 v35_1 v57_1) fun v58_1 =>
  C.stepS S_2 (sLoad 3 v58_1) fun v59_1 =>
  C.stepS S_2 (sIndexAddr 44 v35_1 (vs_2.getD 0 undef)) fun v62_1 =>
  C.stepS S_2 (sLoad 3 v62_1) fun v63_1 =>
  C.stepS S_2 (sIndexAddr 44 v35_1 (vs_2.getD 0 undef)) fun v64_1 =>
  C.step (sStore 3 v64_1 v59_1) w fun vx_1 w =>
  C.keepT w fun S_3 =>
  C.stepS S_3 (sIndexAddr 44 v35_1 v54_1) fun v65_1 =>
  C.step (sStore 3 v65_1 v63_1) w fun vx_2 w =>
  C.keepT w fun S_4 =>
  C.step (sBin .sub 3 (.tmp 66) (.const (.int .i64 1)) (vs_2.getD 0 undef) (.int .i64 1)) w fun v67_1 w =>
  again_2 [v67_1] w)
  (flotillaref12_Ring_k2 C vs_1 again_1 v35_1 w Q))
  (flotillaref12_Ring_k2 C vs_1 again_1 v35_1 w Q)))
  (flotillaref12_Ring_k1 C (vs_1.getD 0 undef) w Q)
theorem flotillaref12_Ring_eq (C : Comb) (a0 : Value) (a1 : Value) (w : World) (Q : Value → World → Prop) : flotillaref12_Ring_x C a0 a1 w Q = FunY Tryz.prog C 2 [] Tryz.f60 [a0, a1] w Q := by kernel_rfl
theorem flotillaref12_Ring_sound (a0 : Value) (a1 : Value) {w : World} {Q : Value → World → Prop} (h : flotillaref12_Ring_x (std Tryz.prog) a0 a1 w Q) : CallsR Tryz.prog 60 #[a0, a1] w Q :=
  calls_of_funY mixed Tryz.func60 (Eq.mp (flotillaref12_Ring_eq _ a0 a1 w Q) h)

def mode_Beside_x (C : Comb) (a0 : Value) (a1 : Value) (w : World) (Q : Value → World → Prop) : Prop :=
  C.draw w fun S_1 w =>
  C.calls 78 #[] w fun v5_1 w =>
  C.keepT w fun S_2 =>
  C.calls 73 #[a0] w fun v7_1 w =>
  C.keepT w fun S_3 =>
  C.stepS S_3 (sIndex 138 v5_1 v7_1) fun v8_1 =>
  C.calls 73 #[a1] w fun v10_1 w =>
  C.keepS S_3 w fun S_4 =>
  C.stepS S_4 (sIndex 137 v8_1 v10_1) fun v11_1 =>
  Q v11_1 w
theorem mode_Beside_eq (C : Comb) (a0 : Value) (a1 : Value) (w : World) (Q : Value → World → Prop) : mode_Beside_x C a0 a1 w Q = FunY Tryz.prog C 4 [] Tryz.f61 [a0, a1] w Q := by kernel_rfl
theorem mode_Beside_sound (a0 : Value) (a1 : Value) {w : World} {Q : Value → World → Prop} (h : mode_Beside_x (std Tryz.prog) a0 a1 w Q) : CallsR Tryz.prog 61 #[a0, a1] w Q :=
  calls_of_funY mixed Tryz.func61 (Eq.mp (mode_Beside_eq _ a0 a1 w Q) h)

def flotillaref04_Sure_x (C : Comb) (a0 : Value) (w : World) (Q : Value → World → Prop) : Prop :=
  C.step (sBin .lss 29 (.tmp 3) (.const (.int .i64 0)) a0 (.int .i64 0)) w fun v4_1 w =>
  C.bool v4_1
  (Q (.int .i64 5) w)
  (C.step (sBin .gtr 29 (.tmp 6) (.const (.int .i64 5)) a0 (.int .i64 5)) w fun v7_1 w =>
  C.bool v7_1
  (Q (.int .i64 5) w)
  (Q a0 w))
theorem flotillaref04_Sure_eq (C : Comb) (a0 : Value) (w : World) (Q : Value → World → Prop) : flotillaref04_Sure_x C a0 w Q = FunY Tryz.prog C 2 [] Tryz.f64 [a0] w Q := by kernel_rfl
theorem flotillaref04_Sure_sound (a0 : Value) {w : World} {Q : Value → World → Prop} (h : flotillaref04_Sure_x (std Tryz.prog) a0 w Q) : CallsR Tryz.prog 64 #[a0] w Q :=
  calls_of_funY mixed Tryz.func64 (Eq.mp (flotillaref04_Sure_eq _ a0 w Q) h)

def graph_Graph_int_Ring_k1 (C : Comb) (u5_1 : Value) (w : World) (Q : Value → World → Prop) : Prop :=
  C.calls 66 #[u5_1] w fun v24_1 w =>
  Q u5_1 w
def graph_Graph_int_Ring_x (C : Comb) (a0 : Value) (a1 : Value) (w : World) (Q : Value → World → Prop) : Prop :=
  C.calls 91 #[a0, a1] w fun v9_1 w =>
  C.step (sRange 91 v9_1) w fun v10_1 w =>
  C.loop [undef, (.slice none 0 0)] w fun dv_1 vs_1 w again_1 =>
  C.step (sNext v10_1 false 0) w fun v11_1 w =>
  C.step (sExtract v11_1 0) w fun v12_1 w =>
  C.bool v12_1
  (C.step (sEntry v10_1) w fun v13_1 w =>
  C.step (sExtract v13_1 0) w fun v14_1 w =>
  C.calls 92 #[a0, v14_1, a1] w fun v18_1 w =>
  C.bool v18_1
  (C.step (sBuildSlice 44 1 [(0, v14_1)]) w fun v21_1 w =>
  C.step (sBuiltin .append #[44, 44] 44 [false, false] [(vs_1.getD 1 undef), v21_1]) w fun v22_1 w =>
  again_1 [v14_1, v22_1] w)
  (again_1 [v14_1, (vs_1.getD 1 undef)] w))
  (graph_Graph_int_Ring_k1 C (vs_1.getD 1 undef) w Q)
theorem graph_Graph_int_Ring_eq (C : Comb) (a0 : Value) (a1 : Value) (w : World) (Q : Value → World → Prop) : graph_Graph_int_Ring_x C a0 a1 w Q = FunY Tryz.prog C 7 [] Tryz.f68 [a0, a1] w Q := by kernel_rfl
theorem graph_Graph_int_Ring_sound (a0 : Value) (a1 : Value) {w : World} {Q : Value → World → Prop} (h : graph_Graph_int_Ring_x (std Tryz.prog) a0 a1 w Q) : CallsR Tryz.prog 68 #[a0, a1] w Q :=
  calls_of_funY mixed Tryz.func68 (Eq.mp (graph_Graph_int_Ring_eq _ a0 a1 w Q) h)

def lock_name_leave_x (C : Comb) (a0 : Value) (a1 : Value) (w : World) (Q : Value → World → Prop) : Prop :=
  C.step (sBox 3 a1) w fun v3_1 w =>
  C.draw w fun S_1 w =>
  C.stepS S_1 (sNil a0) fun v8_1 =>
  C.stepS S_1 (sFieldAddr 95 v8_1 1) fun v9_1 =>
  C.stepS S_1 (sLoad 44 v9_1) fun v10_1 =>
  C.stepS S_1 (sBuiltin .len #[44] 3 [false] [v10_1]) fun v11_1 =>
  C.stepS S_1 (sNil a0) fun v13_1 =>
  C.stepS S_1 (sFieldAddr 95 v13_1 2) fun v14_1 =>
  C.stepS S_1 (sLoad 44 v14_1) fun v15_1 =>
  C.stepS S_1 (sBuiltin .len #[44] 3 [false] [v15_1]) fun v16_1 =>
  C.stepS S_1 (sBin .add 3 (.tmp 11) (.tmp 16) v11_1 v16_1) fun v17_1 =>
  C.step (sMakeFunc (.func 93) [] [v3_1]) w fun v18_1 w =>
  C.step (sNil a0) w fun v21_1 w =>
  C.step (sFieldAddr 95 v21_1 1) w fun v22_1 w =>
  C.step (sLoad 44 v22_1) w fun v23_1 w =>
  C.calls 94 #[v23_1, v18_1] w fun v25_1 w =>
  C.step (sNil a0) w fun v26_1 w =>
  C.step (sFieldAddr 95 v26_1 1) w fun v27_1 w =>
  C.step (sStore 44 v27_1 v25_1) w fun vx_1 w =>
  C.step (sNil a0) w fun v30_1 w =>
  C.step (sFieldAddr 95 v30_1 2) w fun v31_1 w =>
  C.step (sLoad 44 v31_1) w fun v32_1 w =>
  C.calls 94 #[v32_1, v18_1] w fun v34_1 w =>
  C.step (sNil a0) w fun v35_1 w =>
  C.step (sFieldAddr 95 v35_1 2) w fun v36_1 w =>
  C.step (sStore 44 v36_1 v34_1) w fun vx_2 w =>
  C.draw w fun S_2 w =>
  C.stepS S_2 (sNil a0) fun v38_1 =>
  C.stepS S_2 (sFieldAddr 95 v38_1 1) fun v39_1 =>
  C.stepS S_2 (sLoad 44 v39_1) fun v40_1 =>
  C.stepS S_2 (sBuiltin .len #[44] 3 [false] [v40_1]) fun v41_1 =>
  C.stepS S_2 (sNil a0) fun v43_1 =>
  C.stepS S_2 (sFieldAddr 95 v43_1 2) fun v44_1 =>
  C.stepS S_2 (sLoad 44 v44_1) fun v45_1 =>
  C.stepS S_2 (sBuiltin .len #[44] 3 [false] [v45_1]) fun v46_1 =>
  C.stepS S_2 (sBin .add 3 (.tmp 41) (.tmp 46) v41_1 v46_1) fun v47_1 =>
  C.stepS S_2 (sBin .lss 3 (.tmp 47) (.tmp 48) v47_1 v17_1) fun v49_1 =>
  Q v49_1 w
theorem lock_name_leave_eq (C : Comb) (a0 : Value) (a1 : Value) (w : World) (Q : Value → World → Prop) : lock_name_leave_x C a0 a1 w Q = FunY Tryz.prog C 7 [] Tryz.f69 [a0, a1] w Q := by kernel_rfl
theorem lock_name_leave_sound (a0 : Value) (a1 : Value) {w : World} {Q : Value → World → Prop} (h : lock_name_leave_x (std Tryz.prog) a0 a1 w Q) : CallsR Tryz.prog 69 #[a0, a1] w Q :=
  calls_of_funY mixed Tryz.func69 (Eq.mp (lock_name_leave_eq _ a0 a1 w Q) h)

def lock_Table_pass_k1 (C : Comb) (a0 : Value) (a1 : Value) (v15_1 : Value) (w : World) (Q : Value → World → Prop) : Prop :=
  C.step (sNil v15_1) w fun v58_1 w =>
  C.step (sFieldAddr 95 v58_1 0) w fun v59_1 w =>
  C.step (sLoad 93 v59_1) w fun v60_1 w =>
  C.step (sBuiltin .len #[93] 3 [false] [v60_1]) w fun v61_1 w =>
  C.step (sBin .eql 3 (.tmp 61) (.const (.int .i64 0)) v61_1 (.int .i64 0)) w fun v62_1 w =>
  C.bool v62_1
  (C.step (sNil a0) w fun v64_1 w =>
  C.step (sFieldAddr 67 v64_1 0) w fun v65_1 w =>
  C.step (sLoad 64 v65_1) w fun v66_1 w =>
  C.step (sBuiltin .delete #[64, 9] 0 [false, false] [v66_1, a1]) w fun vx_1 w =>
  Q (.tuple #[]) w)
  (Q (.tuple #[]) w)
def lock_Table_pass_x (C : Comb) (a0 : Value) (a1 : Value) (a2 : Value) (w : World) (Q : Value → World → Prop) : Prop :=
  C.step (sNil a0) w fun v11_1 w =>
  C.step (sFieldAddr 67 v11_1 0) w fun v12_1 w =>
  C.step (sLoad 64 v12_1) w fun v13_1 w =>
  C.step (sLookup 64 v13_1 a1 false) w fun v15_1 w =>
  C.calls 95 #[v15_1] w fun v17_1 w =>
  C.loop [v17_1] w fun dv_1 vs_1 w again_1 =>
  C.step (sBin .neq 3 (.tmp 18) (.const (.int .i64 0)) (vs_1.getD 0 undef) (.int .i64 0)) w fun v19_1 w =>
  C.bool v19_1
  (C.step (sNil a0) w fun v23_1 w =>
  C.step (sFieldAddr 67 v23_1 1) w fun v24_1 w =>
  C.step (sLoad 65 v24_1) w fun v25_1 w =>
  C.step (sLookup 65 v25_1 (vs_1.getD 0 undef) false) w fun v27_1 w =>
  C.step (sAlloc 31) w fun v8_1 w =>
  C.step (sStore 31 v8_1 v27_1) w fun vx_2 w =>
  C.step (sFieldAddr 31 v8_1 1) w fun v30_1 w =>
  C.step (sLoad 29 v30_1) w fun v31_1 w =>
  C.calls 51 #[v15_1, (vs_1.getD 0 undef), v31_1] w fun v32_1 w =>
  C.calls 52 #[v15_1, (vs_1.getD 0 undef), v32_1] w fun v36_1 w =>
  C.step (sUn .not v36_1) w fun v37_1 w =>
  C.bool v37_1
  (lock_Table_pass_k1 C a0 a1 v15_1 w Q)
  (C.calls 69 #[v15_1, (vs_1.getD 0 undef)] w fun v40_1 w =>
  C.step (sNil a0) w fun v42_1 w =>
  C.step (sFieldAddr 67 v42_1 1) w fun v43_1 w =>
  C.step (sLoad 65 v43_1) w fun v44_1 w =>
  C.step (sBuiltin .delete #[65, 3] 0 [false, false] [v44_1, (vs_1.getD 0 undef)]) w fun vx_3 w =>
  C.step (sNil v15_1) w fun v47_1 w =>
  C.step (sFieldAddr 95 v47_1 0) w fun v48_1 w =>
  C.step (sLoad 93 v48_1) w fun v49_1 w =>
  C.step (sMapUpdate 93 v49_1 (vs_1.getD 0 undef) v32_1) w fun vx_4 w =>
  C.step (sLoad 31 v8_1) w fun v54_1 w =>
  C.step (sBuild 53 [(0, (vs_1.getD 0 undef)), (1, v54_1)]) w fun v55_1 w =>
  C.step (sCallV a2 [v55_1]) w fun v56_1 w =>
  C.calls 95 #[v15_1] w fun v21_1 w =>
  again_1 [v21_1] w))
  (lock_Table_pass_k1 C a0 a1 v15_1 w Q)
theorem lock_Table_pass_eq (C : Comb) (a0 : Value) (a1 : Value) (a2 : Value) (w : World) (Q : Value → World → Prop) : lock_Table_pass_x C a0 a1 a2 w Q = FunY Tryz.prog C 2 [] Tryz.f70 [a0, a1, a2] w Q := by kernel_rfl
theorem lock_Table_pass_sound (a0 : Value) (a1 : Value) (a2 : Value) {w : World} {Q : Value → World → Prop} (h : lock_Table_pass_x (std Tryz.prog) a0 a1 a2 w Q) : CallsR Tryz.prog 70 #[a0, a1, a2] w Q :=
  calls_of_funY mixed Tryz.func70 (Eq.mp (lock_Table_pass_eq _ a0 a1 a2 w Q) h)

def lock_Table_gone_1_x (C : Comb) (a0 : Value) (a1 : Value) (w : World) (Q : Value → World → Prop) : Prop :=
  C.step (sBox 53 a0) w fun v2_1 w =>
  C.step (sLoad 50 a1) w fun v3_1 w =>
  C.step (sLoad 53 v2_1) w fun v4_1 w =>
  C.step (sBuildSlice 50 1 [(0, v4_1)]) w fun v5_1 w =>
  C.step (sBuiltin .append #[50, 50] 50 [false, false] [v3_1, v5_1]) w fun v6_1 w =>
  C.step (sStore 50 a1 v6_1) w fun vx_1 w =>
  Q (.tuple #[]) w
theorem lock_Table_gone_1_eq (C : Comb) (a0 : Value) (a1 : Value) (w : World) (Q : Value → World → Prop) : lock_Table_gone_1_x C a0 a1 w Q = FunY Tryz.prog C 3 [] Tryz.f71 [a0, a1] w Q := by kernel_rfl
theorem lock_Table_gone_1_sound (a0 : Value) (a1 : Value) {w : World} {Q : Value → World → Prop} (h : lock_Table_gone_1_x (std Tryz.prog) a0 a1 w Q) : CallsR Tryz.prog 71 #[a0, a1] w Q :=
  calls_of_funY mixed Tryz.func71 (Eq.mp (lock_Table_gone_1_eq _ a0 a1 w Q) h)

def mode_Join_k2 (C : Comb) (w : World) (Q : Value → World → Prop) : Prop :=
  Q (.int .i64 5) w
def mode_Join_k1 (C : Comb) (v5_1 : Value) (v6_1 : Value) (w : World) (Q : Value → World → Prop) : Prop :=
  C.loop [undef, (.int .i64 0), (.int .i64 0)] w fun dv_1 vs_1 w again_1 =>
  C.step (sBin .lss 3 (.tmp 30) (.const (.int .i64 6)) (vs_1.getD 2 undef) (.int .i64 6)) w fun v31_1 w =>
  C.bool v31_1
  (C.draw w fun S_1 w =>
  C.stepS S_1 (sIndexAddr 138 v5_1 (vs_1.getD 2 undef)) fun v34_1 =>
  C.stepS S_1 (sLoad 137 v34_1) fun v35_1 =>
  C.stepS S_1 (sLoad 137 v6_1) fun v36_1 =>
  C.stepS S_1 (sBin .eql 137 (.tmp 35) (.tmp 36) v35_1 v36_1) fun v37_1 =>
  C.bool v37_1
  (Q (vs_1.getD 2 undef) w)
  (C.step (sBin .add 3 (.tmp 30) (.const (.int .i64 1)) (vs_1.getD 2 undef) (.int .i64 1)) w fun v39_1 w =>
  again_1 [(vs_1.getD 2 undef), (vs_1.getD 1 undef), v39_1] w))
  (mode_Join_k2 C w Q)
def mode_Join_k3 (C : Comb) (vs_2 : List Value) (again_2 : List Value → World → Prop) (u7_3 : Value) (w : World) (Q : Value → World → Prop) : Prop :=
  C.step (sBin .add 3 (.tmp 10) (.const (.int .i64 1)) (vs_2.getD 1 undef) (.int .i64 1)) w fun v29_1 w =>
  again_2 [u7_3, v29_1] w
def mode_Join_x (C : Comb) (a0 : Value) (a1 : Value) (w : World) (Q : Value → World → Prop) : Prop :=
  C.calls 78 #[] w fun v9_1 w =>
  C.step (sAlloc 138) w fun v5_1 w =>
  C.step (sStore 138 v5_1 v9_1) w fun vx_1 w =>
  C.step (sAlloc 137) w fun v6_1 w =>
  C.loop [undef, (.int .i64 0)] w fun dv_2 vs_2 w again_2 =>
  C.step (sBin .lss 3 (.tmp 10) (.const (.int .i64 6)) (vs_2.getD 1 undef) (.int .i64 6)) w fun v11_1 w =>
  C.bool v11_1
  (C.calls 73 #[a0] w fun v15_1 w =>
  C.step (sIndexAddr 138 v5_1 v15_1) w fun v17_1 w =>
  C.step (sIndexAddr 137 v17_1 (vs_2.getD 1 undef)) w fun v18_1 w =>
  C.step (sLoad 4 v18_1) w fun v19_1 w =>
  C.bool v19_1
  (C.calls 73 #[a1] w fun v22_1 w =>
  C.step (sIndexAddr 138 v5_1 v22_1) w fun v24_1 w =>
  C.step (sIndexAddr 137 v24_1 (vs_2.getD 1 undef)) w fun v25_1 w =>
  C.step (sLoad 4 v25_1) w fun v26_1 w =>
  C.step (sIndexAddr 137 v6_1 (vs_2.getD 1 undef)) w fun v28_1 w =>
  C.step (sStore 4 v28_1 v26_1) w fun vx_2 w =>
  mode_Join_k3 C vs_2 again_2 (vs_2.getD 1 undef) w Q)
  (C.step (sIndexAddr 137 v6_1 (vs_2.getD 1 undef)) w fun v28_2 w =>
  C.step (sStore 4 v28_2 (.bool false)) w fun vx_3 w =>
  mode_Join_k3 C vs_2 again_2 (vs_2.getD 1 undef) w Q))
  (mode_Join_k1 C v5_1 v6_1 w Q)
theorem mode_Join_eq (C : Comb) (a0 : Value) (a1 : Value) (w : World) (Q : Value → World → Prop) : mode_Join_x C a0 a1 w Q = FunY Tryz.prog C 9 [] Tryz.f72 [a0, a1] w Q := by kernel_rfl
theorem mode_Join_sound (a0 : Value) (a1 : Value) {w : World} {Q : Value → World → Prop} (h : mode_Join_x (std Tryz.prog) a0 a1 w Q) : CallsR Tryz.prog 72 #[a0, a1] w Q :=
  calls_of_funY mixed Tryz.func72 (Eq.mp (mode_Join_eq _ a0 a1 w Q) h)

def mode_sure_x (C : Comb) (a0 : Value) (w : World) (Q : Value → World → Prop) : Prop :=
  C.calls 49 #[a0] w fun v4_1 w =>
  C.step (sUn .not v4_1) w fun v5_1 w =>
  C.bool v5_1
  (Q (.int .i64 5) w)
  (Q a0 w)
theorem mode_sure_eq (C : Comb) (a0 : Value) (w : World) (Q : Value → World → Prop) : mode_sure_x C a0 w Q = FunY Tryz.prog C 2 [] Tryz.f73 [a0] w Q := by kernel_rfl
theorem mode_sure_sound (a0 : Value) {w : World} {Q : Value → World → Prop} (h : mode_sure_x (std Tryz.prog) a0 w Q) : CallsR Tryz.prog 73 #[a0] w Q :=
  calls_of_funY mixed Tryz.func73 (Eq.mp (mode_sure_eq _ a0 w Q) h)

def flotillaref12_Reached_k1 (C : Comb) (u5_1 : Value) (w : World) (Q : Value → World → Prop) : Prop :=
  Q u5_1 w
def flotillaref12_Reached_k2 (C : Comb) (vs_2 : List Value) (again_2 : List Value → World → Prop) (u8_2 : Value) (u5_2 : Value) (u6_2 : Value) (w : World) (Q : Value → World → Prop) : Prop :=
  C.step (sBin .add 3 (.tmp 14) (.const (.int .i64 1)) (vs_2.getD 3 undef) (.int .i64 1)) w fun v15_1 w =>
  again_2 [u8_2, u5_2, u6_2, v15_1] w
def flotillaref12_Reached_k3 (C : Comb) (vs_2 : List Value) (again_2 : List Value → World → Prop) (v8_1 : Value) (u36_3 : Value) (w : World) (Q : Value → World → Prop) : Prop :=
  C.bool u36_3
  (C.step (sFieldAddr 78 v8_1 1) w fun v38_1 w =>
  C.step (sLoad 3 v38_1) w fun v39_1 w =>
  C.step (sBuildSlice 44 1 [(0, v39_1)]) w fun v40_1 w =>
  C.step (sBuiltin .append #[44, 44] 44 [false, false] [(vs_2.getD 1 undef), v40_1]) w fun v41_1 w =>
  C.step (sBin .add 3 (.tmp 14) (.const (.int .i64 1)) (vs_2.getD 3 undef) (.int .i64 1)) w fun v15_2 w =>
  again_2 [v8_1, v41_1, (.bool true), v15_2] w)
  (flotillaref12_Reached_k2 C vs_2 again_2 v8_1 (vs_2.getD 1 undef) (vs_2.getD 2 undef) w Q)
def flotillaref12_Reached_x (C : Comb) (a0 : Value) (a1 : Value) (w : World) (Q : Value → World → Prop) : Prop :=
  C.loop [undef, (.slice none 0 0), (.bool true), undef] w fun dv_1 vs_1 w again_1 =>
  C.bool (vs_1.getD 2 undef)
  (C.loop [(vs_1.getD 0 undef), (vs_1.getD 1 undef), (.bool false), (.int .i64 0)] w fun dv_2 vs_2 w again_2 =>
  C.step (sBuiltin .len #[39] 3 [false] [a0]) w fun v12_1 w =>
  C.step (sBin .lss 3 (.tmp 10) (.tmp 12) (vs_2.getD 3 undef) v12_1) w fun v13_1 w =>
  C.bool v13_1
  (C.step (sIndexAddr 39 a0 (vs_2.getD 3 undef)) w fun v18_1 w =>
  C.step (sLoad 78 v18_1) w fun v19_1 w =>
  C.step (sAlloc 78) w fun v8_1 w =>
  C.step (sStore 78 v8_1 v19_1) w fun vx_1 w =>
  C.step (sFieldAddr 78 v8_1 0) w fun v20_1 w =>
  C.step (sLoad 3 v20_1) w fun v21_1 w =>
  C.step (sBin .eql 3 (.tmp 21) (.tmp 22) v21_1 a1) w fun v23_1 w =>
  C.bool v23_1
  (C.step (sFieldAddr 78 v8_1 1) w fun v32_1 w =>
  C.step (sLoad 3 v32_1) w fun v33_1 w =>
  C.calls 20 #[(vs_2.getD 1 undef), v33_1] w fun v34_1 w =>
  C.step (sUn .not v34_1) w fun v35_1 w =>
  flotillaref12_Reached_k3 C vs_2 again_2 v8_1 v35_1 w Q)
  (C.step (sFieldAddr 78 v8_1 0) w fun v26_1 w =>
  C.step (sLoad 3 v26_1) w fun v27_1 w =>
  C.calls 20 #[(vs_2.getD 1 undef), v27_1] w fun v28_1 w =>
  C.bool v28_1
  (C.step (sFieldAddr 78 v8_1 1) w fun v32_2 w =>
  C.step (sLoad 3 v32_2) w fun v33_2 w =>
  C.calls 20 #[(vs_2.getD 1 undef), v33_2] w fun v34_2 w =>
  C.step (sUn .not v34_2) w fun v35_2 w =>
  flotillaref12_Reached_k3 C vs_2 again_2 v8_1 v35_2 w Q)
  (flotillaref12_Reached_k2 C vs_2 again_2 v8_1 (vs_2.getD 1 undef) (vs_2.getD 2 undef) w Q)))
  (again_1 [(vs_2.getD 0 undef), (vs_2.getD 1 undef), (vs_2.getD 2 undef), (vs_2.getD 3 undef)] w))
  (flotillaref12_Reached_k1 C (vs_1.getD 1 undef) w Q)
theorem flotillaref12_Reached_eq (C : Comb) (a0 : Value) (a1 : Value) (w : World) (Q : Value → World → Prop) : flotillaref12_Reached_x C a0 a1 w Q = FunY Tryz.prog C 9 [] Tryz.f77 [a0, a1] w Q := by kernel_rfl
theorem flotillaref12_Reached_sound (a0 : Value) (a1 : Value) {w : World} {Q : Value → World → Prop} (h : flotillaref12_Reached_x (std Tryz.prog) a0 a1 w Q) : CallsR Tryz.prog 77 #[a0, a1] w Q :=
  calls_of_funY mixed Tryz.func77 (Eq.mp (flotillaref12_Reached_eq _ a0 a1 w Q) h)

def mode_table_x (C : Comb) (w : World) (Q : Value → World → Prop) : Prop :=
  C.step (sAlloc 138) w fun v0_1 w =>
  C.step (sBuild 137 [(0, (.bool true)), (1, (.bool true)), (2, (.bool true)), (3, (.bool true)), (4, (.bool true)), (5, (.bool true))]) w fun v1_1 w =>
  C.step (sBuild 137 [(0, (.bool true)), (1, (.bool true)), (2, (.bool true)), (3, (.bool true)), (4, (.bool true)), (5, (.bool false))]) w fun v2_1 w =>
  C.step (sBuild 137 [(0, (.bool true)), (1, (.bool true)), (2, (.bool true)), (3, (.bool false)), (4, (.bool false)), (5, (.bool false))]) w fun v3_1 w =>
  C.step (sBuild 137 [(0, (.bool true)), (1, (.bool true)), (2, (.bool false)), (3, (.bool true)), (4, (.bool false)), (5, (.bool false))]) w fun v4_1 w =>
  C.step (sBuild 137 [(0, (.bool true)), (1, (.bool true)), (2, (.bool false)), (3, (.bool false)), (4, (.bool false)), (5, (.bool false))]) w fun v5_1 w =>
  C.step (sBuild 137 [(0, (.bool true)), (1, (.bool false)), (2, (.bool false)), (3, (.bool false)), (4, (.bool false)), (5, (.bool false))]) w fun v6_1 w =>
  C.step (sBuild 138 [(0, v1_1), (1, v2_1), (2, v3_1), (3, v4_1), (4, v5_1), (5, v6_1)]) w fun v7_1 w =>
  C.step (sStore 138 v0_1 v7_1) w fun vx_1 w =>
  C.loadR 138 v0_1 w fun r_1 =>
  Q r_1 w
theorem mode_table_eq (C : Comb) (w : World) (Q : Value → World → Prop) : mode_table_x C w Q = FunY Tryz.prog C 0 [] Tryz.f78 [] w Q := by kernel_rfl
theorem mode_table_sound {w : World} {Q : Value → World → Prop} (h : mode_table_x (std Tryz.prog) w Q) : CallsR Tryz.prog 78 #[] w Q :=
  calls_of_funY mixed Tryz.func78 (Eq.mp (mode_table_eq _ w Q) h)

def graph_Graph_int_reached_k1 (C : Comb) (v9_1 : Value) (w : World) (Q : Value → World → Prop) : Prop :=
  Q v9_1 w
def graph_Graph_int_reached_x (C : Comb) (a0 : Value) (a1 : Value) (w : World) (Q : Value → World → Prop) : Prop :=
  C.step (sMakeMap 91 none) w fun v9_1 w =>
  C.step (sBin .eql 100 (.tmp 10) (.const (.pointer none)) a0 (.pointer none)) w fun v11_1 w =>
  C.bool v11_1
  (Q v9_1 w)
  (C.step (sBuildSlice 44 1 [(0, a1)]) w fun v14_1 w =>
  C.loop [undef, undef, v14_1] w fun dv_1 vs_1 w again_1 =>
  C.step (sBuiltin .len #[44] 3 [false] [(vs_1.getD 2 undef)]) w fun v16_1 w =>
  C.step (sBin .gtr 3 (.tmp 16) (.const (.int .i64 0)) v16_1 (.int .i64 0)) w fun v17_1 w =>
  C.bool v17_1
  (C.step (sIndexAddr 44 (vs_1.getD 2 undef) (.int .i64 0)) w fun v19_1 w =>
  C.step (sLoad 3 v19_1) w fun v20_1 w =>
  C.step (sSlice 44 (vs_1.getD 2 undef) (some (.int .i64 1)) none none) w fun v22_1 w =>
  C.step (sNil a0) w fun v24_1 w =>
  C.step (sFieldAddr 127 v24_1 0) w fun v25_1 w =>
  C.step (sLoad 125 v25_1) w fun v26_1 w =>
  C.step (sRange 125 v26_1) w fun v27_1 w =>
  C.loop [(vs_1.getD 1 undef), v22_1] w fun dv_2 vs_2 w again_2 =>
  C.step (sNext v27_1 false 0) w fun v28_1 w =>
  C.step (sExtract v28_1 0) w fun v29_1 w =>
  C.bool v29_1
  (C.step (sEntry v27_1) w fun v30_1 w =>
  C.step (sExtract v30_1 0) w fun v31_1 w =>
  C.step (sAlloc 129) w fun v8_1 w =>
  C.step (sStore 129 v8_1 v31_1) w fun vx_1 w =>
  C.step (sFieldAddr 129 v8_1 0) w fun v32_1 w =>
  C.step (sLoad 3 v32_1) w fun v33_1 w =>
  C.step (sBin .eql 3 (.tmp 33) (.tmp 34) v33_1 v20_1) w fun v35_1 w =>
  C.bool v35_1
  (C.step (sFieldAddr 129 v8_1 1) w fun v38_1 w =>
  C.step (sLoad 3 v38_1) w fun v39_1 w =>
  C.step (sLookup 91 v9_1 v39_1 false) w fun v40_1 w =>
  C.step (sUn .not v40_1) w fun v41_1 w =>
  C.bool v41_1
  (C.step (sFieldAddr 129 v8_1 1) w fun v44_1 w =>
  C.step (sLoad 3 v44_1) w fun v45_1 w =>
  C.step (sMapUpdate 91 v9_1 v45_1 (.bool true)) w fun vx_2 w =>
  C.step (sFieldAddr 129 v8_1 1) w fun v47_1 w =>
  C.step (sLoad 3 v47_1) w fun v48_1 w =>
  C.step (sBuildSlice 44 1 [(0, v48_1)]) w fun v49_1 w =>
  C.step (sBuiltin .append #[44, 44] 44 [false, false] [(vs_2.getD 1 undef), v49_1]) w fun v50_1 w =>
  again_2 [v8_1, v50_1] w)
  (again_2 [v8_1, (vs_2.getD 1 undef)] w))
  (again_2 [v8_1, (vs_2.getD 1 undef)] w))
  (again_1 [v20_1, (vs_2.getD 0 undef), (vs_2.getD 1 undef)] w))
  (graph_Graph_int_reached_k1 C v9_1 w Q))
theorem graph_Graph_int_reached_eq (C : Comb) (a0 : Value) (a1 : Value) (w : World) (Q : Value → World → Prop) : graph_Graph_int_reached_x C a0 a1 w Q = FunY Tryz.prog C 9 [] Tryz.f91 [a0, a1] w Q := by kernel_rfl
theorem graph_Graph_int_reached_sound (a0 : Value) (a1 : Value) {w : World} {Q : Value → World → Prop} (h : graph_Graph_int_reached_x (std Tryz.prog) a0 a1 w Q) : CallsR Tryz.prog 91 #[a0, a1] w Q :=
  calls_of_funY mixed Tryz.func91 (Eq.mp (graph_Graph_int_reached_eq _ a0 a1 w Q) h)

def graph_Graph_int_Leads_x (C : Comb) (a0 : Value) (a1 : Value) (a2 : Value) (w : World) (Q : Value → World → Prop) : Prop :=
  C.calls 91 #[a0, a1] w fun v9_1 w =>
  C.step (sLookup 91 v9_1 a2 false) w fun v11_1 w =>
  Q v11_1 w
theorem graph_Graph_int_Leads_eq (C : Comb) (a0 : Value) (a1 : Value) (a2 : Value) (w : World) (Q : Value → World → Prop) : graph_Graph_int_Leads_x C a0 a1 a2 w Q = FunY Tryz.prog C 6 [] Tryz.f92 [a0, a1, a2] w Q := by kernel_rfl
theorem graph_Graph_int_Leads_sound (a0 : Value) (a1 : Value) (a2 : Value) {w : World} {Q : Value → World → Prop} (h : graph_Graph_int_Leads_x (std Tryz.prog) a0 a1 a2 w Q) : CallsR Tryz.prog 92 #[a0, a1, a2] w Q :=
  calls_of_funY mixed Tryz.func92 (Eq.mp (graph_Graph_int_Leads_eq _ a0 a1 a2 w Q) h)

def lock_name_leave_1_x (C : Comb) (a0 : Value) (a1 : Value) (w : World) (Q : Value → World → Prop) : Prop :=
  C.step (sLoad 3 a1) w fun v5_1 w =>
  C.step (sBin .eql 3 (.tmp 4) (.tmp 5) a0 v5_1) w fun v6_1 w =>
  Q v6_1 w
theorem lock_name_leave_1_eq (C : Comb) (a0 : Value) (a1 : Value) (w : World) (Q : Value → World → Prop) : lock_name_leave_1_x C a0 a1 w Q = FunY Tryz.prog C 3 [] Tryz.f93 [a0, a1] w Q := by kernel_rfl
theorem lock_name_leave_1_sound (a0 : Value) (a1 : Value) {w : World} {Q : Value → World → Prop} (h : lock_name_leave_1_x (std Tryz.prog) a0 a1 w Q) : CallsR Tryz.prog 93 #[a0, a1] w Q :=
  calls_of_funY mixed Tryz.func93 (Eq.mp (lock_name_leave_1_eq _ a0 a1 w Q) h)

def slices_DeleteFunc_int_int_k1 (C : Comb) (a0 : Value) (u5_1 : Value) (w : World) (Q : Value → World → Prop) : Prop :=
  C.step (sSlice 44 a0 (some u5_1) none none) w fun v38_1 w =>
  C.step (sBuiltin .clear #[44] 0 [false] [v38_1]) w fun vx_1 w =>
  C.step (sSlice 44 a0 none (some u5_1) none) w fun v41_1 w =>
  Q v41_1 w
def slices_DeleteFunc_int_int_k2 (C : Comb) (vs_1 : List Value) (again_1 : List Value → World → Prop) (u7_2 : Value) (u5_2 : Value) (w : World) (Q : Value → World → Prop) : Prop :=
  C.step (sBin .add 3 (.tmp 20) (.const (.int .i64 1)) (vs_1.getD 2 undef) (.int .i64 1)) w fun v21_1 w =>
  again_1 [u7_2, u5_2, v21_1] w
def slices_DeleteFunc_int_int_x (C : Comb) (a0 : Value) (a1 : Value) (w : World) (Q : Value → World → Prop) : Prop :=
  C.calls 112 #[a0, a1] w fun v10_1 w =>
  C.step (sBin .eql 3 (.tmp 11) (.const (.int .i64 (-1))) v10_1 (.int .i64 (-1))) w fun v12_1 w =>
  C.bool v12_1
  (Q a0 w)
  (C.step (sBin .add 3 (.tmp 14) (.const (.int .i64 1)) v10_1 (.int .i64 1)) w fun v15_1 w =>
  C.loop [undef, v10_1, v15_1] w fun dv_1 vs_1 w again_1 =>
  C.step (sBuiltin .len #[44] 3 [false] [a0]) w fun v18_1 w =>
  C.step (sBin .lss 3 (.tmp 16) (.tmp 18) (vs_1.getD 2 undef) v18_1) w fun v19_1 w =>
  C.bool v19_1
  (C.step (sIndexAddr 44 a0 (vs_1.getD 2 undef)) w fun v24_1 w =>
  C.step (sLoad 3 v24_1) w fun v25_1 w =>
  C.step (sCallV a1 [v25_1]) w fun v28_1 w =>
  C.step (sUn .not v28_1) w fun v29_1 w =>
  C.bool v29_1
  (C.step (sIndexAddr 44 a0 (vs_1.getD 1 undef)) w fun v33_1 w =>
  C.step (sStore 3 v33_1 v25_1) w fun vx_2 w =>
  C.step (sBin .add 3 (.tmp 34) (.const (.int .i64 1)) (vs_1.getD 1 undef) (.int .i64 1)) w fun v35_1 w =>
  slices_DeleteFunc_int_int_k2 C vs_1 again_1 v25_1 v35_1 w Q)
  (slices_DeleteFunc_int_int_k2 C vs_1 again_1 v25_1 (vs_1.getD 1 undef) w Q))
  (slices_DeleteFunc_int_int_k1 C a0 (vs_1.getD 1 undef) w Q))
theorem slices_DeleteFunc_int_int_eq (C : Comb) (a0 : Value) (a1 : Value) (w : World) (Q : Value → World → Prop) : slices_DeleteFunc_int_int_x C a0 a1 w Q = FunY Tryz.prog C 8 [] Tryz.f94 [a0, a1] w Q := by kernel_rfl
theorem slices_DeleteFunc_int_int_sound (a0 : Value) (a1 : Value) {w : World} {Q : Value → World → Prop} (h : slices_DeleteFunc_int_int_x (std Tryz.prog) a0 a1 w Q) : CallsR Tryz.prog 94 #[a0, a1] w Q :=
  calls_of_funY mixed Tryz.func94 (Eq.mp (slices_DeleteFunc_int_int_eq _ a0 a1 w Q) h)

def lock_name_first_x (C : Comb) (a0 : Value) (w : World) (Q : Value → World → Prop) : Prop :=
  C.step (sNil a0) w fun v4_1 w =>
  C.step (sFieldAddr 95 v4_1 1) w fun v5_1 w =>
  C.step (sLoad 44 v5_1) w fun v6_1 w =>
  C.step (sBuiltin .len #[44] 3 [false] [v6_1]) w fun v7_1 w =>
  C.step (sBin .gtr 3 (.tmp 7) (.const (.int .i64 0)) v7_1 (.int .i64 0)) w fun v8_1 w =>
  C.bool v8_1
  (C.step (sNil a0) w fun v10_1 w =>
  C.step (sFieldAddr 95 v10_1 1) w fun v11_1 w =>
  C.step (sLoad 44 v11_1) w fun v12_1 w =>
  C.step (sIndexAddr 44 v12_1 (.int .i64 0)) w fun v13_1 w =>
  C.step (sLoad 3 v13_1) w fun v14_1 w =>
  Q v14_1 w)
  (C.step (sNil a0) w fun v16_1 w =>
  C.step (sFieldAddr 95 v16_1 2) w fun v17_1 w =>
  C.step (sLoad 44 v17_1) w fun v18_1 w =>
  C.step (sBuiltin .len #[44] 3 [false] [v18_1]) w fun v19_1 w =>
  C.step (sBin .gtr 3 (.tmp 19) (.const (.int .i64 0)) v19_1 (.int .i64 0)) w fun v20_1 w =>
  C.bool v20_1
  (C.step (sNil a0) w fun v22_1 w =>
  C.step (sFieldAddr 95 v22_1 2) w fun v23_1 w =>
  C.step (sLoad 44 v23_1) w fun v24_1 w =>
  C.step (sIndexAddr 44 v24_1 (.int .i64 0)) w fun v25_1 w =>
  C.step (sLoad 3 v25_1) w fun v26_1 w =>
  Q v26_1 w)
  (Q (.int .i64 0) w))
theorem lock_name_first_eq (C : Comb) (a0 : Value) (w : World) (Q : Value → World → Prop) : lock_name_first_x C a0 w Q = FunY Tryz.prog C 2 [] Tryz.f95 [a0] w Q := by kernel_rfl
theorem lock_name_first_sound (a0 : Value) {w : World} {Q : Value → World → Prop} (h : lock_name_first_x (std Tryz.prog) a0 w Q) : CallsR Tryz.prog 95 #[a0] w Q :=
  calls_of_funY mixed Tryz.func95 (Eq.mp (lock_name_first_eq _ a0 w Q) h)

def slices_IndexFunc_int_int_k1 (C : Comb) (w : World) (Q : Value → World → Prop) : Prop :=
  Q (.int .i64 (-1)) w
def slices_IndexFunc_int_int_x (C : Comb) (a0 : Value) (a1 : Value) (w : World) (Q : Value → World → Prop) : Prop :=
  C.step (sBuiltin .len #[44] 3 [false] [a0]) w fun v7_1 w =>
  C.loop [undef, (.int .i64 0), (.int .i64 0)] w fun dv_1 vs_1 w again_1 =>
  C.step (sBin .lss 3 (.tmp 8) (.tmp 7) (vs_1.getD 2 undef) v7_1) w fun v9_1 w =>
  C.bool v9_1
  (C.step (sIndexAddr 44 a0 (vs_1.getD 2 undef)) w fun v14_1 w =>
  C.step (sLoad 3 v14_1) w fun v15_1 w =>
  C.step (sCallV a1 [v15_1]) w fun v16_1 w =>
  C.bool v16_1
  (Q (vs_1.getD 2 undef) w)
  (C.step (sBin .add 3 (.tmp 8) (.const (.int .i64 1)) (vs_1.getD 2 undef) (.int .i64 1)) w fun v18_1 w =>
  again_1 [(vs_1.getD 2 undef), (vs_1.getD 1 undef), v18_1] w))
  (slices_IndexFunc_int_int_k1 C w Q)
theorem slices_IndexFunc_int_int_eq (C : Comb) (a0 : Value) (a1 : Value) (w : World) (Q : Value → World → Prop) : slices_IndexFunc_int_int_x C a0 a1 w Q = FunY Tryz.prog C 6 [] Tryz.f112 [a0, a1] w Q := by kernel_rfl
theorem slices_IndexFunc_int_int_sound (a0 : Value) (a1 : Value) {w : World} {Q : Value → World → Prop} (h : slices_IndexFunc_int_int_x (std Tryz.prog) a0 a1 w Q) : CallsR Tryz.prog 112 #[a0, a1] w Q :=
  calls_of_funY mixed Tryz.func112 (Eq.mp (slices_IndexFunc_int_int_eq _ a0 a1 w Q) h)

end Go.Proofs.YtakifgecgmdjcaaGreat

/- Rules for the steps, and for memory. -/

/-! ### rules: what the steps do -/

namespace Go.Proofs.YtakifgecgmdjcaaGreat
open Go Xf
set_option linter.unusedVariables false
set_option linter.unusedSimpArgs false

section
variable {P : Program} {w w' : World} {K : Value → World → Prop} {S : World → Prop} {k : Value → Prop}

theorem step_run {s : Sem Next} {v : Value} (h : s.run P w = .ok (.value v) w') : (std P).step s w K = K v w' := by
  show StepX P s w K = _
  unfold StepX
  rw [h]
theorem step_skip {s : Sem Next} (h : s.run P w = .ok .skip w') : (std P).step s w K = K undef w' := by
  show StepX P s w K = _
  unfold StepX
  rw [h]
theorem stepS_run {s : Sem Next} {v : Value} (hne : ∃ w, S w) (h : ∀ w, S w → s.run P w = .ok (.value v) w) : (std P).stepS S s k = k v := by
  show StepS P S s k = _
  unfold StepS
  refine propext ⟨?_, fun hk => ⟨v, h, hk⟩⟩
  rintro ⟨u, hu, hk⟩
  obtain ⟨w, hw⟩ := hne
  have h1 := (hu w hw).symm.trans (h w hw)
  injection h1 with h1
  injection h1 with h1
  rw [← h1]; exact hk

theorem bool_dec (p : Prop) [Decidable p] (A B : Prop) : (std P).bool (.bool (decide p)) A B = ((p → A) ∧ (¬ p → B)) := by
  show BoolX _ _ _ = _
  unfold BoolX
  by_cases h : p <;> simp [h]
theorem bool_true (A B : Prop) : (std P).bool (.bool true) A B = A := by
  show BoolX _ _ _ = _
  simp [BoolX]
theorem bool_false (A B : Prop) : (std P).bool (.bool false) A B = B := by
  show BoolX _ _ _ = _
  simp [BoolX]
theorem bool_not (b : Bool) (A B : Prop) : (std P).bool (.bool (!b)) A B = (std P).bool (.bool b) B A := by
  show BoolX _ _ _ = BoolX _ _ _
  cases b <;> simp [BoolX]
theorem bool_var (b : Bool) (A B : Prop) : (std P).bool (.bool b) A B = ((b = true → A) ∧ (b = false → B)) := by
  show BoolX _ _ _ = _
  cases b <;> simp [BoolX]

/-! numbers -/

theorem run_sV (s : Sem Value) (w : World) : (sV s).run P w = (s.run P w).andThen fun v w' => .ok (.value v) w' := by
  unfold sV
  rw [Sem.run_bind]
  rfl

theorem r_add {t : TypeId} {x y : Operand} {q : IntKind} {a b : Int} : (sBin .add t x y (.int q a) (.int q b)).run P w = .ok (.value (.int q (q.wrap (a + b)))) w := by
  simp [sBin, run_sV, eqGuard, binOp, Op.intArith]
theorem r_sub {t : TypeId} {x y : Operand} {q : IntKind} {a b : Int} : (sBin .sub t x y (.int q a) (.int q b)).run P w = .ok (.value (.int q (q.wrap (a - b)))) w := by
  simp [sBin, run_sV, eqGuard, binOp, Op.intArith]
theorem r_mul {t : TypeId} {x y : Operand} {q : IntKind} {a b : Int} : (sBin .mul t x y (.int q a) (.int q b)).run P w = .ok (.value (.int q (q.wrap (a * b)))) w := by
  simp [sBin, run_sV, eqGuard, binOp, Op.intArith]
theorem r_quo {t : TypeId} {x y : Operand} {q : IntKind} {a b : Int} (h : b ≠ 0) : (sBin .quo t x y (.int q a) (.int q b)).run P w = .ok (.value (.int q (q.wrap (a.tdiv b)))) w := by
  simp [sBin, run_sV, eqGuard, binOp, Op.intDiv, h]
theorem r_rem {t : TypeId} {x y : Operand} {q : IntKind} {a b : Int} (h : b ≠ 0) : (sBin .rem t x y (.int q a) (.int q b)).run P w = .ok (.value (.int q (a.tmod b))) w := by
  simp [sBin, run_sV, eqGuard, binOp, Op.intDiv, h]
def bitOp (op : BinOp) (q : IntKind) (a b : Int) : Int :=
  let x := BitVec.ofInt q.bits a
  let y := BitVec.ofInt q.bits b
  q.wrap (match op with | .and => (x &&& y).toNat | .or => (x ||| y).toNat | .xor => (x ^^^ y).toNat | .andNot => (x &&& ~~~y).toNat | _ => 0)
theorem r_and {t : TypeId} {x y : Operand} {q : IntKind} {a b : Int} : (sBin .and t x y (.int q a) (.int q b)).run P w = .ok (.value (.int q (bitOp .and q a b))) w := by
  simp [sBin, run_sV, eqGuard, binOp, Op.intBits, bitOp]
theorem r_or {t : TypeId} {x y : Operand} {q : IntKind} {a b : Int} : (sBin .or t x y (.int q a) (.int q b)).run P w = .ok (.value (.int q (bitOp .or q a b))) w := by
  simp [sBin, run_sV, eqGuard, binOp, Op.intBits, bitOp]
theorem r_xor {t : TypeId} {x y : Operand} {q : IntKind} {a b : Int} : (sBin .xor t x y (.int q a) (.int q b)).run P w = .ok (.value (.int q (bitOp .xor q a b))) w := by
  simp [sBin, run_sV, eqGuard, binOp, Op.intBits, bitOp]
theorem r_shl {t : TypeId} {x y : Operand} {q q' : IntKind} {a b : Int} (h : ¬ b < 0) : (sBin .shl t x y (.int q a) (.int q' b)).run P w = .ok (.value (.int q (q.wrap (a * 2 ^ (min b.toNat q.bits))))) w := by
  simp [sBin, run_sV, eqGuard, binOp, Op.shift, h]
theorem r_shr {t : TypeId} {x y : Operand} {q q' : IntKind} {a b : Int} (h : ¬ b < 0) : (sBin .shr t x y (.int q a) (.int q' b)).run P w = .ok (.value (.int q (a.fdiv (2 ^ (min b.toNat q.bits))))) w := by
  simp [sBin, run_sV, eqGuard, binOp, Op.shift, h]
theorem r_lss {t : TypeId} {x y : Operand} {q : IntKind} {a b : Int} : (sBin .lss t x y (.int q a) (.int q b)).run P w = .ok (.value (.bool (decide (a < b)))) w := by
  simp [sBin, run_sV, eqGuard, binOp, Op.intCmp]
theorem r_leq {t : TypeId} {x y : Operand} {q : IntKind} {a b : Int} : (sBin .leq t x y (.int q a) (.int q b)).run P w = .ok (.value (.bool (decide (a ≤ b)))) w := by
  simp [sBin, run_sV, eqGuard, binOp, Op.intCmp]
theorem r_gtr {t : TypeId} {x y : Operand} {q : IntKind} {a b : Int} : (sBin .gtr t x y (.int q a) (.int q b)).run P w = .ok (.value (.bool (decide (b < a)))) w := by
  simp [sBin, run_sV, eqGuard, binOp, Op.intCmp]
theorem r_geq {t : TypeId} {x y : Operand} {q : IntKind} {a b : Int} : (sBin .geq t x y (.int q a) (.int q b)).run P w = .ok (.value (.bool (decide (b ≤ a)))) w := by
  simp [sBin, run_sV, eqGuard, binOp, Op.intCmp]
theorem r_eql {t : TypeId} {x y : Operand} {q : IntKind} {a b : Int} : (sBin .eql t x y (.int q a) (.int q b)).run P w = .ok (.value (.bool (decide (a = b)))) w := by
  simp [sBin, run_sV, eqGuard, binOp, Op.intCmp]
  rfl
theorem r_neq {t : TypeId} {x y : Operand} {q : IntKind} {a b : Int} : (sBin .neq t x y (.int q a) (.int q b)).run P w = .ok (.value (.bool (decide (a ≠ b)))) w := by
  simp [sBin, run_sV, eqGuard, binOp, Op.intCmp]
  rfl
theorem toList_inj (a b : ByteArray) : (a.toList == b.toList) = decide (a = b) := by
  by_cases h : a = b
  · subst h; simp
  · have : a.toList ≠ b.toList := fun e => h (by
      have h2 : a.data.toList = b.data.toList := by rw [← Go.ByteArray.toList_eq, ← Go.ByteArray.toList_eq, e]
      cases a; cases b; simp only at h2; congr 1; exact Array.toList_inj.1 h2)
    simp [h, this]
theorem r_seql {t : TypeId} {x y : Operand} {a b : ByteArray} : (sBin .eql t x y (.string a) (.string b)).run P w = .ok (.value (.bool (decide (a = b)))) w := by
  simp only [sBin, run_sV, eqGuard, binOp, Op.stringOp, toList_inj]
  rfl
theorem r_sneq {t : TypeId} {x y : Operand} {a b : ByteArray} : (sBin .neq t x y (.string a) (.string b)).run P w = .ok (.value (.bool (!decide (a = b)))) w := by
  simp only [sBin, run_sV, eqGuard, binOp, Op.stringOp, toList_inj]
  rfl
theorem r_sadd {t : TypeId} {x y : Operand} {a b : ByteArray} (h : a.size + b.size ≤ 9223372036854775807) : (sBin .add t x y (.string a) (.string b)).run P w = .ok (.value (.string (a ++ b))) w := by
  have h2 : ¬ ((a.size + b.size : Nat) : Int) > IntKind.i64.max := by
    simp [IntKind.max, IntKind.bits, IntKind.signed]; omega
  simp only [sBin, run_sV, eqGuard, binOp, Op.stringOp]
  rw [if_neg h2]
  rfl
theorem r_not {b : Bool} : (sUn .not (.bool b)).run P w = .ok (.value (.bool (!b))) w := by
  simp [sUn, run_sV, Op.unary]
theorem r_neg {q : IntKind} {a : Int} : (sUn .neg (.int q a)).run P w = .ok (.value (.int q (q.wrap (0 - a)))) w := by
  simp [sUn, run_sV, Op.unary, Op.intArith]
theorem r_inv {q : IntKind} {a : Int} : (sUn .xor (.int q a)).run P w = .ok (.value (.int q (bitOp .xor q (if q.signed then -1 else q.max) a))) w := by
  simp [sUn, run_sV, Op.unary, Op.intBits, bitOp]
theorem r_nil {a : Addr} : (sNil (.pointer (some a))).run P w = .ok (.value (.pointer (some a))) w := rfl
theorem r_ext20 {a b : Value} : (sExtract (.tuple #[a, b]) 0).run P w = .ok (.value a) w := rfl
theorem r_ext21 {a b : Value} : (sExtract (.tuple #[a, b]) 1).run P w = .ok (.value b) w := rfl
theorem r_ext30 {a b c : Value} : (sExtract (.tuple #[a, b, c]) 0).run P w = .ok (.value a) w := rfl
theorem r_ext31 {a b c : Value} : (sExtract (.tuple #[a, b, c]) 1).run P w = .ok (.value b) w := rfl
theorem r_ext32 {a b c : Value} : (sExtract (.tuple #[a, b, c]) 2).run P w = .ok (.value c) w := rfl
theorem r_min {ats : Array TypeId} {ty : TypeId} {c : List Bool} {q : IntKind} {a b : Int} : (sBuiltin .min ats ty c [.int q a, .int q b]).run P w = .ok (.value (.int q (if b < a then b else a))) w := by
  simp [sBuiltin, builtin, Builtin.min_, Builtin.min2]
theorem r_max {ats : Array TypeId} {ty : TypeId} {c : List Bool} {q : IntKind} {a b : Int} : (sBuiltin .max ats ty c [.int q a, .int q b]).run P w = .ok (.value (.int q (if a < b then b else a))) w := by
  simp [sBuiltin, builtin, Builtin.max_, Builtin.max2]
/-! with types -/

theorem run_equal_bool {t : TypeId} {a b : Bool} (h : P.underlying t = some .bool) : (Op.equal t (.bool a) (.bool b)).run P w = .ok (a == b) w := by
  show (Op.equalIn (9999 + 1) t (.bool a) (.bool b)).run P w = _
  unfold Op.equalIn
  simp [underlying, program, Sem.run, h]
theorem r_beql {t : TypeId} {x y : Operand} {a b : Bool} (h : P.underlying t = some .bool) : (sBin .eql t x y (.bool a) (.bool b)).run P w = .ok (.value (.bool (a == b))) w := by
  have h1 : sBin .eql t x y (.bool a) (.bool b) = sV (do eqGuard .eql t x y (.bool a) (.bool b); pure (.bool (← Op.equal t (.bool a) (.bool b)))) := rfl
  rw [h1, run_sV, Sem.run_bind]
  simp [eqGuard, run_equal_bool h]
theorem r_bneq {t : TypeId} {x y : Operand} {a b : Bool} (h : P.underlying t = some .bool) : (sBin .neq t x y (.bool a) (.bool b)).run P w = .ok (.value (.bool (!(a == b)))) w := by
  have h1 : sBin .neq t x y (.bool a) (.bool b) = sV (do eqGuard .neq t x y (.bool a) (.bool b); pure (.bool (!(← Op.equal t (.bool a) (.bool b))))) := rfl
  rw [h1, run_sV, Sem.run_bind]
  simp [eqGuard, run_equal_bool h]
theorem r_conv {s d : TypeId} {u : TypeDesc} {q q' : IntKind} {n : Int} (hs : P.underlying s = some u) (hd : P.underlying d = some (.int q')) : (sConv s d (.int q n)).run P w = .ok (.value (.int q' (q'.wrap n))) w := by
  simp only [sConv, run_sV, convert, underlying, program, Sem.run_bind, Sem.run, hs, hd, Result.andThen_ok, Conv.intToInt]
  simp [hs, hd]
theorem r_lens {t ty e : TypeId} {c : List Bool} {A : Option Addr} {n m : Nat} (h : P.underlying t = some (.slice e)) : (sBuiltin .len #[t] ty c [.slice A n m]).run P w = .ok (.value (.int .i64 n)) w := by
  simp [sBuiltin, builtin, Builtin.len_, underlying, program, Sem.run, h, goInt]
theorem r_lenstr {t ty : TypeId} {c : List Bool} {s : ByteArray} (h : P.underlying t = some .string) : (sBuiltin .len #[t] ty c [.string s]).run P w = .ok (.value (.int .i64 s.size)) w := by
  simp [sBuiltin, builtin, Builtin.len_, underlying, program, Sem.run, h, goInt]
theorem r_lenarr {t ty e : TypeId} {c : List Bool} {v : Value} {n : Nat} (h : P.underlying t = some (.array n e)) : (sBuiltin .len #[t] ty c [v]).run P w = .ok (.value (.int .i64 n)) w := by
  simp [sBuiltin, builtin, Builtin.len_, underlying, program, Sem.run, h, goInt]

end
end Go.Proofs.YtakifgecgmdjcaaGreat

/-! ### memory -/

namespace Go.Proofs.YtakifgecgmdjcaaGreat
open Go Xf Go.RowKit
set_option linter.unusedVariables false
set_option linter.unusedSimpArgs false

/-- w' is w with new blocks, and with writes to blocks of ks alone. -/
structure Upd (w w' : World) (ks : List Nat) : Prop where
  os : w'.os = w.os
  tape : w'.tape = w.tape
  output : w'.output = w.output
  size : w.heap.size ≤ w'.heap.size
  keep : ∀ b, b < w.heap.size → b ∉ ks → w'.heap[b]? = w.heap[b]?

theorem Upd.refl (w : World) (ks : List Nat) : Upd w w ks := ⟨rfl, rfl, rfl, Nat.le_refl _, fun _ _ _ => rfl⟩
theorem Upd.trans {a b c : World} {ks : List Nat} (h : Upd a b ks) (k : Upd b c ks) : Upd a c ks :=
  ⟨k.os.trans h.os, k.tape.trans h.tape, k.output.trans h.output, Nat.le_trans h.size k.size, fun i hi hn => (k.keep i (Nat.lt_of_lt_of_le hi h.size) hn).trans (h.keep i hi hn)⟩
theorem Upd.mono {a b : World} {ks ls : List Nat} (h : Upd a b ks) (hs : ∀ x ∈ ks, x ∈ ls) : Upd a b ls :=
  ⟨h.os, h.tape, h.output, h.size, fun i hi hn => h.keep i hi fun hm => hn (hs i hm)⟩
theorem Upd.nil {a b : World} (h : Upd a b []) (ks : List Nat) : Upd a b ks := h.mono fun _ hx => by cases hx
/-- a step that writes blocks of the later world's own alone -/
theorem Upd.then_ {a b c : World} {ks ls : List Nat} (h : Upd a b ks) (k : Upd b c ls) (hl : ∀ x ∈ ls, x ∈ ks ∨ a.heap.size ≤ x) : Upd a c ks :=
  ⟨k.os.trans h.os, k.tape.trans h.tape, k.output.trans h.output, Nat.le_trans h.size k.size, fun i hi hn =>
    (k.keep i (Nat.lt_of_lt_of_le hi h.size) fun hm => (hl i hm).elim hn fun hge => absurd hi (Nat.not_lt.2 hge)).trans (h.keep i hi hn)⟩
theorem Upd.drew (w : World) (ks : List Nat) : Upd w w.drew ks := ⟨rfl, rfl, rfl, Nat.le_refl _, fun _ _ _ => rfl⟩
theorem Upd.alloc (w : World) (o : Obj) (ks : List Nat) : Upd w (w.alloc o) ks := ⟨rfl, rfl, rfl, by simp, fun k hk _ => Below.heap_alloc _ _ _ hk⟩
theorem Upd.setCell (w : World) (p : Addr) (v : Value) : Upd w (w.setCell p v) [p.block] := ⟨rfl, rfl, rfl, by simp [World.setCell], fun k hk hn => Below.heap_setCell _ _ _ _ (by simpa using hn)⟩
theorem Upd.below {a b : World} (h : Upd a b []) : Below a.heap.size a b := ⟨h.os, h.tape, h.output, h.size, fun k hk => h.keep k hk (by simp)⟩
theorem Upd.cell {a b : World} {ks : List Nat} (h : Upd a b ks) {p : Addr} (hp : p.block < a.heap.size) (hn : p.block ∉ ks) : b.cell? p = a.cell? p := World.cell?_of_block (h.keep p.block hp hn)

/-- The blocks of h stand in w, each once. -/
def Owns (w : World) (h : List (Nat × Obj)) : Prop := (h.map (·.1)).Nodup ∧ ∀ p ∈ h, w.heap[p.1]? = some p.2

theorem lt_of_some {w : World} {g : Nat} {o : Obj} (h : w.heap[g]? = some o) : g < w.heap.size := by
  rcases Nat.lt_or_ge g w.heap.size with hlt | hge
  · exact hlt
  · rw [Array.getElem?_eq_none hge] at h; cases h

theorem Owns.nil (w : World) : Owns w [] := ⟨List.nodup_nil, fun p hp => by cases hp⟩
theorem Owns.lt {w : World} {h : List (Nat × Obj)} (hO : Owns w h) {p : Nat × Obj} (hp : p ∈ h) : p.1 < w.heap.size := lt_of_some (hO.2 p hp)
theorem Owns.at_ {w : World} {h : List (Nat × Obj)} (hO : Owns w h) (i : Nat) {g : Nat} {o : Obj} (hi : h[i]? = some (g, o)) : w.heap[g]? = some o := hO.2 (g, o) (List.mem_of_getElem? hi)
theorem Owns.upd {w w' : World} {h : List (Nat × Obj)} {ks : List Nat} (hO : Owns w h) (hU : Upd w w' ks) (hd : ∀ p ∈ h, p.1 ∉ ks) : Owns w' h :=
  ⟨hO.1, fun p hp => (hU.keep p.1 (hO.lt hp) (hd p hp)).trans (hO.2 p hp)⟩
theorem Owns.ext {w w' : World} {h : List (Nat × Obj)} (hO : Owns w h) (hU : Upd w w' []) : Owns w' h := hO.upd hU fun _ _ => by simp
theorem Owns.alloc {w : World} {h : List (Nat × Obj)} (hO : Owns w h) (o : Obj) : Owns (w.alloc o) ((w.heap.size, o) :: h) := by
  refine ⟨?_, fun p hp => ?_⟩
  · simp only [List.map_cons]
    refine List.nodup_cons.2 ⟨fun hm => ?_, hO.1⟩
    obtain ⟨p, hp, he⟩ := List.mem_map.1 hm
    have := hO.lt hp
    omega
  · rcases List.mem_cons.1 hp with rfl | hp
    · exact heap_alloc_new w o
    · rw [Below.heap_alloc w o _ (hO.lt hp)]; exact hO.2 p hp
theorem Owns.perm {w : World} {h h' : List (Nat × Obj)} (hO : Owns w h) (hp : h.Perm h') : Owns w h' :=
  ⟨(hp.map _).nodup_iff.1 hO.1, fun p hm => hO.2 p (hp.mem_iff.2 hm)⟩
theorem Owns.sub {w : World} {h h' : List (Nat × Obj)} (hO : Owns w h) (hs : h'.Sublist h) : Owns w h' :=
  ⟨hO.1.sublist (hs.map _), fun p hm => hO.2 p (hs.mem hm)⟩
theorem heap_setCell_at {w : World} {g off : Nat} {cs : Array Value} {t : TypeId} {fr : Nat × Nat} (h : w.heap[g]? = some (.cells cs t fr)) (v : Value) :
    (w.setCell ⟨g, off, none⟩ v).heap[g]? = some (.cells (cs.setIfInBounds off v) t fr) := by
  simp [World.setCell, Array.getElem?_modify, h]
theorem Owns.put {w w' : World} {h : List (Nat × Obj)} (hO : Owns w h) (i : Nat) {g : Nat} {o o' : Obj} (hi : h[i]? = some (g, o)) (hg : w'.heap[g]? = some o') (hother : ∀ k, k ≠ g → w'.heap[k]? = w.heap[k]?) :
    Owns w' (h.set i (g, o')) := by
  have hmap : (h.set i (g, o')).map (·.1) = h.map (·.1) := by
    rw [List.map_set]
    apply List.ext_getElem?
    intro j
    by_cases hj : i = j
    · subst hj
      obtain ⟨hlt, he⟩ := List.getElem?_eq_some_iff.1 hi
      simp [List.getElem?_set, hlt, he]
    · simp [List.getElem?_set, hj]
  refine ⟨by rw [hmap]; exact hO.1, fun p hp => ?_⟩
  obtain ⟨j, hj⟩ := List.getElem?_of_mem hp
  by_cases hij : i = j
  · subst hij
    have hlt := (List.getElem?_eq_some_iff.1 hi).1
    rw [List.getElem?_set_self (by omega)] at hj
    injection hj with hj
    subst hj
    exact hg
  · rw [List.getElem?_set_ne hij] at hj
    have hne : p.1 ≠ g := by
      intro he
      have h1 : (h.map (·.1))[i]? = some g := by simp [hi]
      have h2 : (h.map (·.1))[j]? = some g := by simp [hj, he]
      have hlt : i < (h.map (·.1)).length := (List.getElem?_eq_some_iff.1 h1).1
      exact hij ((List.getElem?_inj hlt hO.1).1 (h1.trans h2.symm))
    rw [hother _ hne]
    exact hO.2 p (List.mem_of_getElem? hj)
theorem Owns.setCell {w : World} {h : List (Nat × Obj)} (hO : Owns w h) (i : Nat) {g off : Nat} {cs : Array Value} {t : TypeId} {fr : Nat × Nat} (hi : h[i]? = some (g, .cells cs t fr)) (v : Value) :
    Owns (w.setCell ⟨g, off, none⟩ v) (h.set i (g, .cells (cs.setIfInBounds off v) t fr)) :=
  hO.put i hi (heap_setCell_at (hO.at_ i hi) v) fun k hk => Below.heap_setCell _ _ _ _ hk
theorem Owns.setRow {w : World} {h : List (Nat × Obj)} (hO : Owns w h) (i : Nat) {g : Nat} {cs : Array Value} {t : TypeId} {fr : Nat × Nat} (hi : h[i]? = some (g, .cells cs t fr)) (vs : Array Value) :
    Owns (w.setRow g vs) (h.set i (g, .cells vs t fr)) :=
  hO.put i hi (setRow_heap w g cs vs t fr (hO.at_ i hi)) fun k hk => setRow_other w g k vs hk
theorem Upd.setRow (w : World) (g : Nat) (vs : Array Value) : Upd w (w.setRow g vs) [g] := ⟨rfl, rfl, rfl, by simp [World.setRow], fun k hk hn => setRow_other w g k vs (by simpa using hn)⟩

theorem cell_at {w : World} {g off : Nat} {cs : Array Value} {t : TypeId} {fr : Nat × Nat} (h : w.heap[g]? = some (.cells cs t fr)) : w.cell? ⟨g, off, none⟩ = cs[off]? := by
  simp [World.cell?, h]

def isAggD : TypeDesc → Bool
  | .struct _ => true
  | .array _ _ => true
  | _ => false

def oneB : Value → Bool
  | .agg _ => false
  | .tuple _ => false
  | _ => true

theorem cells_one {v : Value} (h : oneB v = true) : v.cells = #[v] := by cases v <;> first | rfl | cases h

section
variable {P : Program} {w w' W : World} {K : Value → World → Prop}

theorem run_underlying' {t : TypeId} {u : TypeDesc} (h : P.underlying t = some u) : (underlying t).run P w = .ok u w := by
  simp [underlying, program, Sem.run, h]
theorem run_isAgg {t : TypeId} {b : Bool} (h : (P.underlying t).map isAggD = some b) : (isAgg t).run P w = .ok b w := by
  cases hu : P.underlying t with
  | none => rw [hu] at h; cases h
  | some u =>
    rw [hu] at h
    simp only [Option.map_some, Option.some.injEq] at h
    subst h
    unfold isAgg
    rw [Sem.run_bind, run_underlying' hu]
    cases u <;> rfl
theorem run_sizeOf {t : TypeId} {n : Nat} (h : (P.info? t).map (·.size) = some n) : (sizeOf t).run P w = .ok n w := by
  cases hu : P.info? t with
  | none => rw [hu] at h; cases h
  | some i =>
    rw [hu] at h
    simp only [Option.map_some, Option.some.injEq] at h
    simp [sizeOf, typeInfo, program, Sem.run, hu, h]
theorem run_load1 {a : Addr} {v : Value} (h : w.cell? a = some v) : (load a).run P w = .ok v w := by
  simp [load, Sem.run, h]
theorem run_loadVar1 {t : TypeId} {a : Addr} {v : Value} (ht : (P.underlying t).map isAggD = some false) (h : w.cell? a = some v) : (loadVar t a).run P w = .ok v w := by
  unfold loadVar
  rw [Sem.run_bind, run_isAgg ht]
  simp only [Result.andThen_ok, Bool.false_eq_true, if_false]
  exact run_load1 h
theorem run_loadCells {a : Addr} : ∀ (n i : Nat) (cs : List Value) (acc : Array Value), cs.length = n → (∀ j v, cs[j]? = some v → w.cell? (a.add (i + j)) = some v) → (loadCellsFrom a i n acc).run P w = .ok (acc ++ cs.toArray) w
  | 0, i, cs, acc, hl, h => by
    have : cs = [] := List.eq_nil_of_length_eq_zero hl
    subst this
    simp [loadCellsFrom]
  | n + 1, i, c :: cs, acc, hl, h => by
    unfold loadCellsFrom
    have h0 := h 0 c rfl
    rw [Nat.add_zero] at h0
    rw [Sem.run_bind, run_load1 h0]
    simp only [Result.andThen_ok]
    rw [run_loadCells n (i + 1) cs (acc.push c) (by simpa using hl) (fun j v hj => by rw [Nat.add_assoc, Nat.add_comm 1 j]; exact h (j + 1) v (by simpa using hj))]
    simp
  | n + 1, i, [], acc, hl, h => by simp at hl
theorem run_loadVarN {t : TypeId} {a : Addr} {cs : List Value} (ht : (P.underlying t).map isAggD = some true) (hn : (P.info? t).map (·.size) = some cs.length) (h : ∀ j v, cs[j]? = some v → w.cell? (a.add j) = some v) :
    (loadVar t a).run P w = .ok (.agg cs.toArray) w := by
  unfold loadVar
  rw [Sem.run_bind, run_isAgg ht]
  simp only [Result.andThen_ok, if_true]
  rw [Sem.run_bind, run_sizeOf hn]
  simp only [Result.andThen_ok]
  rw [Sem.run_bind, show loadCells a cs.length = loadCellsFrom a 0 cs.length #[] from rfl, run_loadCells cs.length 0 cs #[] rfl (fun j v hj => by rw [Nat.zero_add]; exact h j v hj)]
  simp

theorem run_sLoad {t : TypeId} {a : Addr} {v : Value} (h : (loadVar t a).run P w = .ok v w) : (sLoad t (.pointer (some a))).run P w = .ok (.value v) w := by
  unfold sLoad Instr.loadAt
  rw [run_sV, Sem.run_bind]
  simp only [Instr.sureAddr, Sem.run_pure, Result.andThen_ok, h]

theorem st_load {t : TypeId} {a : Addr} {v : Value} (ht : (P.underlying t).map isAggD = some false) (h : w.cell? a = some v) (hk : K v w) : (std P).step (sLoad t (.pointer (some a))) w K := by
  rw [step_run (run_sLoad (run_loadVar1 ht h))]; exact hk
theorem st_loadN {t : TypeId} {a : Addr} {cs : List Value} (ht : (P.underlying t).map isAggD = some true) (hn : (P.info? t).map (·.size) = some cs.length) (h : ∀ j v, cs[j]? = some v → w.cell? (a.add j) = some v) (hk : K (.agg cs.toArray) w) :
    (std P).step (sLoad t (.pointer (some a))) w K := by
  rw [step_run (run_sLoad (run_loadVarN ht hn h))]; exact hk
theorem add_zero (a : Addr) : a.add 0 = a := rfl
theorem add_mk (g off n : Nat) : (⟨g, off, none⟩ : Addr).add n = ⟨g, off + n, none⟩ := by
  unfold Addr.add
  by_cases h : n = 0
  · subst h; rfl
  · rw [if_neg h]

/-- a load out of a block that is known -/
theorem st_loadB {t e : TypeId} {h : List (Nat × Obj)} {g off : Nat} {cs : Array Value} {fr : Nat × Nat} {v : Value} (ht : (P.underlying t).map isAggD = some false) (hO : Owns w h) (i : Nat) (hi : h[i]? = some (g, .cells cs e fr)) (hv : cs[off]? = some v) (hk : K v w) :
    (std P).step (sLoad t (.pointer (some ⟨g, off, none⟩))) w K := st_load ht ((cell_at (hO.at_ i hi)).trans hv) hk

theorem run_store1 {a : Addr} {v u : Value} (hv : oneB v = true) (hc : w.cell? a = some u) (hf : w.frozen? a = false) : (store a v).run P w = .ok () (w.setCell a v) := by
  rw [run_store P w a v .plain (by cases v <;> first | rfl | cases hv)]
  simp [stored, hc, hf]
theorem frozen_at {g off : Nat} {cs : Array Value} {t : TypeId} {lo hi : Nat} (h : w.heap[g]? = some (.cells cs t (lo, hi))) (hf : off < lo ∨ hi ≤ off) : w.frozen? ⟨g, off, none⟩ = false := by
  simp only [World.frozen?, h]
  rcases hf with hf | hf
  · simp; omega
  · simp; omega
theorem run_sStore1 {t : TypeId} {a : Addr} {v u : Value} (hn : (P.info? t).map (·.size) = some 1) (hv : oneB v = true) (hc : w.cell? a = some u) (hf : w.frozen? a = false) : (sStore t (.pointer (some a)) v).run P w = .ok .skip (w.setCell a v) := by
  unfold sStore sU Instr.storeAt
  rw [Sem.run_bind, Sem.run_bind]
  simp only [Instr.sureAddr, Sem.run_pure, Result.andThen_ok]
  unfold storeVar
  rw [Sem.run_bind, run_sizeOf hn]
  simp only [Result.andThen_ok, cells_one hv]
  simp only [List.size_toArray, List.length_cons, List.length_nil, Nat.zero_add, ne_eq, not_true, if_false]
  simp only [storeCells, Sem.run_bind, add_zero, run_store1 (P := P) hv hc hf, Result.andThen_ok, Sem.run_pure]

/-- a store into a block that is known -/
theorem st_storeB {t e : TypeId} {h : List (Nat × Obj)} {g off : Nat} {cs : Array Value} {lo hi : Nat} {v : Value} {ks : List Nat} (hn : (P.info? t).map (·.size) = some 1) (hv : oneB v = true) (hU : Upd W w ks) (hO : Owns w h) (i : Nat)
    (hi' : h[i]? = some (g, .cells cs e (lo, hi))) (hoff : off < cs.size) (hf : off < lo ∨ hi ≤ off) (hg : g ∈ ks ∨ W.heap.size ≤ g)
    (hk : ∀ w', Upd W w' ks → Owns w' (h.set i (g, .cells (cs.setIfInBounds off v) e (lo, hi))) → K undef w') : (std P).step (sStore t (.pointer (some ⟨g, off, none⟩)) v) w K := by
  have hb := hO.at_ i hi'
  rw [step_skip (run_sStore1 hn hv ((cell_at hb).trans (Array.getElem?_eq_getElem hoff)) (frozen_at hb hf))]
  exact hk _ (hU.then_ (Upd.setCell _ _ _) fun x hx => by simp at hx; subst hx; exact hg) (hO.setCell i hi' v)

theorem run_newVar {t : TypeId} {v : Value} : (newVar t v).run P w = .ok ⟨w.heap.size, 0, none⟩ (w.alloc (.cells v.cells t)) := by
  unfold newVar newRow newObj
  rw [Sem.run_bind]
  rfl
theorem run_sAlloc {t : TypeId} {z : Value} (hz : (P.info? t).bind (·.zero) = some z) : (sAlloc t).run P w = .ok (.value (.pointer (some ⟨w.heap.size, 0, none⟩))) (w.alloc (.cells z.cells t)) := by
  cases hi : P.info? t with
  | none => rw [hi] at hz; cases hz
  | some i =>
    rw [hi] at hz
    have hz' : i.zero = some z := hz
    have h0 : (zeroValue t).run P w = .ok z w := by simp [zeroValue, typeInfo, program, Sem.run, hi, hz']
    unfold sAlloc Instr.alloc
    rw [run_sV, Sem.run_bind, h0]
    simp only [Result.andThen_ok, Sem.run_bind, run_newVar, Sem.run_pure]
/-- a new variable -/
theorem st_alloc {t : TypeId} {z : Value} {h : List (Nat × Obj)} {ks : List Nat} (hz : (P.info? t).bind (·.zero) = some z) (hU : Upd W w ks) (hO : Owns w h)
    (hk : ∀ g w', Upd W w' ks → Owns w' ((g, .cells z.cells t) :: h) → W.heap.size ≤ g → K (.pointer (some ⟨g, 0, none⟩)) w') : (std P).step (sAlloc t) w K := by
  rw [step_run (run_sAlloc hz)]
  exact hk _ _ (hU.then_ (Upd.alloc _ _ []) fun x hx => by cases hx) (hO.alloc _) hU.size
theorem run_sBox {t : TypeId} {v : Value} : (sBox t v).run P w = .ok (.value (.pointer (some ⟨w.heap.size, 0, none⟩))) (w.alloc (.cells v.cells t)) := by
  unfold sBox Instr.box
  rw [run_sV, Sem.run_bind, run_newVar]
  simp only [Result.andThen_ok, Sem.run_pure]
theorem st_box {t : TypeId} {v : Value} {h : List (Nat × Obj)} {ks : List Nat} (hU : Upd W w ks) (hO : Owns w h)
    (hk : ∀ g w', Upd W w' ks → Owns w' ((g, .cells v.cells t) :: h) → W.heap.size ≤ g → K (.pointer (some ⟨g, 0, none⟩)) w') : (std P).step (sBox t v) w K := by
  rw [step_run run_sBox]
  exact hk _ _ (hU.then_ (Upd.alloc _ _ []) fun x hx => by cases hx) (hO.alloc _) hU.size

end
end Go.Proofs.YtakifgecgmdjcaaGreat

/-! ### slices -/

namespace Go.Proofs.YtakifgecgmdjcaaGreat
open Go Xf Go.RowKit
set_option linter.unusedVariables false
set_option linter.unusedSimpArgs false

/-- The slice value v, of n elements of sz cells each, has the cells xs, in the block of h. -/
def RowH (e : TypeId) (sz : Nat) (v : Value) (n : Nat) (xs : List Value) (h : List (Nat × Obj)) : Prop :=
  xs.length = n * sz ∧ ((v = .slice none 0 0 ∧ n = 0 ∧ h = []) ∨
    ∃ g cap cs, v = .slice (some ⟨g, 0, none⟩) n cap ∧ h = [(g, .cells cs e (0, 0))] ∧ n ≤ cap ∧ cap ≤ maxLen ∧ cs.size = cap * sz ∧ cs.toList.take (n * sz) = xs)

/-- The slice value v reads xs in w (sz cells an element). -/
def Rd (w : World) (sz : Nat) (v : Value) (n : Nat) (xs : List Value) : Prop :=
  ∃ A c, v = .slice A n c ∧ n ≤ c ∧ xs.length = n * sz ∧ ∀ j u, xs[j]? = some u → ∃ a, A = some a ∧ w.cell? (a.add j) = some u

theorem Rd.nil_ (w : World) (sz : Nat) : Rd w sz (.slice none 0 0) 0 [] := ⟨none, 0, rfl, Nat.le_refl _, by simp, fun j u h => by simp at h⟩

/-- the same memory read in a later world -/
theorem Rd.mono {w w' : World} {sz : Nat} {v : Value} {n : Nat} {xs : List Value} (h : Rd w sz v n xs) (hU : Upd w w' []) : Rd w' sz v n xs := by
  obtain ⟨A, c, h1, h2, h3, h4⟩ := h
  refine ⟨A, c, h1, h2, h3, fun j u hu => ?_⟩
  obtain ⟨a, ha, hc⟩ := h4 j u hu
  exact ⟨a, ha, by rw [hU.cell (p := a.add j) (World.block_lt_of_cell? w _ hc) (by simp)]; exact hc⟩

/-- the same where blocks from B on are written -/
def RdB (w : World) (B : Nat) (sz : Nat) (v : Value) (n : Nat) (xs : List Value) : Prop :=
  ∃ A c, v = .slice A n c ∧ n ≤ c ∧ xs.length = n * sz ∧ ∀ j u, xs[j]? = some u → ∃ a, A = some a ∧ a.block < B ∧ w.cell? (a.add j) = some u

theorem block_add (a : Addr) (n : Nat) : (a.add n).block = a.block := by unfold Addr.add; split <;> rfl
theorem add_add' (a : Addr) (i j : Nat) : (a.add i).add j = a.add (i + j) := by
  unfold Addr.add
  by_cases hi : i = 0 <;> by_cases hj : j = 0 <;> simp [hi, hj, Nat.add_assoc]

section
variable {P : Program} {w w' W : World} {K : Value → World → Prop} {S : World → Prop} {k : Value → Prop}

theorem RowH.owns {e : TypeId} {sz : Nat} {v : Value} {n : Nat} {xs : List Value} {h F : List (Nat × Obj)} (hr : RowH e sz v n xs h) (hO : Owns w (h ++ F)) : w.ownsRow 0 e sz v n xs := by
  refine ⟨hr.1, ?_⟩
  rcases hr.2 with ⟨h1, h2, _⟩ | ⟨g, cap, cs, h1, rfl, h3, h4, h5, h6⟩
  · exact .inl ⟨h1, h2⟩
  · exact .inr ⟨g, cap, cs, h1, Nat.zero_le _, hO.at_ 0 rfl, h3, h4, h5, h6⟩

theorem RowH.rd {e : TypeId} {sz : Nat} {v : Value} {n : Nat} {xs : List Value} {h F : List (Nat × Obj)} (hr : RowH e sz v n xs h) (hO : Owns w (h ++ F)) : Rd w sz v n xs := by
  rcases hr.2 with ⟨h1, h2, _⟩ | ⟨g, cap, cs, h1, rfl, h3, h4, h5, h6⟩
  · subst h2
    have : xs = [] := List.eq_nil_of_length_eq_zero (by simpa using hr.1)
    subst this
    rw [h1]
    exact Rd.nil_ _ _
  · refine ⟨some ⟨g, 0, none⟩, cap, h1, h3, hr.1, fun j u hu => ⟨_, rfl, ?_⟩⟩
    rw [add_mk, Nat.zero_add, cell_at (hO.at_ 0 rfl)]
    rw [← h6, List.getElem?_take] at hu
    split at hu
    · simpa using hu
    · cases hu

theorem RowH.nil_ (e : TypeId) (sz : Nat) : RowH e sz (.slice none 0 0) 0 [] [] := ⟨by simp, .inl ⟨rfl, rfl, rfl⟩⟩

/-- append onto a row that is known, of what can be read -/
theorem st_append {t e ty : TypeId} {c : List Bool} {i : TypeInfo} {z : Value} {sz bytes : Nat} (ht : P.underlying t = some (.slice e)) (hi : P.info? e = some i) (hz : i.zero = some z) (hs : i.size = sz) (hb : i.bytes = bytes) (hzs : z.cells.size = sz) (hsz : 0 < sz)
    {v u : Value} {n m : Nat} {xs ys : List Value} {h F : List (Nat × Obj)} {ks : List Nat} (hr : RowH e sz v n xs h) (hO : Owns w (h ++ F)) (hU : Upd W w ks) (hh : ∀ p ∈ h, p.1 ∈ ks ∨ W.heap.size ≤ p.1)
    (hrd : Rd w sz u m ys) (h1 : ∀ y ∈ ys, y.oneCell' = true) (h63 : n + m ≤ maxLen) (hby : (n + m) * bytes ≤ 140737488355328)
    (hk : ∀ v' w' h', RowH e sz v' (n + m) (xs ++ ys) h' → Owns w' (h' ++ F) → Upd W w' ks → (∀ p ∈ h', p.1 ∈ ks ∨ W.heap.size ≤ p.1) → K v' w') : (std P).step (sBuiltin .append #[t, t] ty c [v, u]) w K := by
  obtain ⟨A, cc, rfl, hc, hl, hrd⟩ := hrd
  have hown := hr.owns hO
  have key : ∃ v' w', (Builtin.append_ #[t, t] ty #[v, .slice A m cc]).run P w = .ok v' w' ∧ w'.ownsRow 0 e sz v' (n + m) (xs ++ ys) ∧ w.grownBy w' v.ownBlock ∧ (v'.ownBlock = v.ownBlock ∨ v'.ownBlock = some w.heap.size) := by
    cases A with
    | none =>
      have hy : ys = [] := by
        cases ys with
        | nil => rfl
        | cons y ys => obtain ⟨a, ha, _⟩ := hrd 0 y rfl; cases ha
      subst hy
      have hm : m = 0 := by
        rcases Nat.eq_zero_or_pos m with h0 | h0
        · exact h0
        · have := Nat.mul_pos h0 hsz; simp at hl; omega
      subst hm
      refine ⟨v, w, ?_, by simpa using hown, World.grownBy.refl w _, .inl rfl⟩
      rcases hown.2 with ⟨rfl, rfl⟩ | ⟨g, cap, cur, rfl, _, _, hnc, _⟩
      · simp [Builtin.append_, run_underlying ht, sizeOf, typeInfo, hi, Builtin.lenOf, Builtin.firstCells]
      · simp [Builtin.append_, run_underlying ht, sizeOf, typeInfo, hi, Builtin.lenOf, Builtin.firstCells, hnc, storeCells]
    | some a =>
      obtain ⟨v', w', hrun, h2, h3, _, h5⟩ := run_append_own_at (P := P) w 0 t ty e i z sz bytes ht hi hz hs hb hzs hsz v n xs hown a m cc ys hl (fun j u hu => by obtain ⟨a', ha, hcell⟩ := hrd j u hu; cases ha; exact hcell) h1 h63 hby (Nat.zero_le _)
      exact ⟨v', w', hrun, h2, h3, h5⟩
  obtain ⟨v', w', hrun, h2, h3, h5⟩ := key
  have hstep : (sBuiltin .append #[t, t] ty c [v, .slice A m cc]).run P w = .ok (.value v') w' := by
    show (do pure (.value (← Builtin.append_ #[t, t] ty #[v, .slice A m cc])) : Sem Next).run P w = _
    rw [Sem.run_bind, hrun]
    rfl
  rw [step_run hstep]
  -- the block of the row
  have hvb : ∀ b, v.ownBlock = some b → ∃ cs, h = [(b, .cells cs e (0, 0))] := fun b hb => by
    rcases hr.2 with ⟨rfl, _⟩ | ⟨g, cap, cs, rfl, rfl, _⟩
    · cases hb
    · cases hb; exact ⟨cs, rfl⟩
  have hupd : Upd w w' (h.map (·.1)) := ⟨h3.os, h3.tape, h3.output, h3.size, fun b hb hn => h3.block b hb fun he => by
    obtain ⟨cs, rfl⟩ := hvb b he.symm
    exact hn (by simp)⟩
  have hU' : Upd W w' ks := hU.then_ hupd fun x hx => by
    obtain ⟨p, hp, rfl⟩ := List.mem_map.1 hx
    exact hh p hp
  have hOF : Owns w' F := by
    have hF : Owns w F := hO.sub (List.sublist_append_right h F)
    refine hF.upd hupd fun p hp hm => ?_
    have hnd := hO.1
    rw [List.map_append] at hnd
    exact (List.nodup_append.1 hnd).2.2 _ hm _ (List.mem_map_of_mem hp) rfl
  rcases h2.2 with ⟨rfl, hnm⟩ | ⟨g, cap, cur, rfl, _, hg, hn, hcm, hcs, htake⟩
  · exact hk _ _ [] ⟨h2.1, .inl ⟨rfl, hnm, rfl⟩⟩ hOF hU' (fun p hp => by cases hp)
  · refine hk _ _ [(g, .cells cur e (0, 0))] ⟨h2.1, .inr ⟨g, cap, cur, rfl, rfl, hn, hcm, hcs, htake⟩⟩ ⟨?_, ?_⟩ hU' ?_
    · simp only [List.singleton_append, List.map_cons]
      refine List.nodup_cons.2 ⟨fun hm => ?_, hOF.1⟩
      rcases h5 with h5 | h5
      · obtain ⟨cs, rfl⟩ := hvb g h5.symm
        have hnd := hO.1
        simp only [List.singleton_append, List.map_cons] at hnd
        exact (List.nodup_cons.1 hnd).1 hm
      · obtain ⟨p, hp, he⟩ := List.mem_map.1 hm
        have := (hO.sub (List.sublist_append_right h F)).lt hp
        have : g = w.heap.size := by cases h5; rfl
        omega
    · intro p hp
      rcases List.mem_append.1 hp with hp | hp
      · simp at hp; subst hp; exact hg
      · exact hOF.2 p hp
    · intro p hp
      simp at hp
      subst hp
      rcases h5 with h5 | h5
      · obtain ⟨cs, rfl⟩ := hvb g h5.symm
        exact (hh (g, .cells cs e (0, 0)) (by simp) : g ∈ ks ∨ W.heap.size ≤ g)
      · have : g = w.heap.size := by cases h5; rfl
        right
        rw [this]
        exact hU.size

/-! indices -/

theorem asIntOf_run (q : IntKind) (n : Int) : (asIntOf (.int q n)).run P w = .ok (q, n) w := rfl
theorem run_idxS {t e : TypeId} {sz n c : Nat} {a : Addr} {q : IntKind} {i : Int} (ht : P.underlying t = some (.slice e)) (hs : (P.info? e).map (·.size) = some sz) (h0 : 0 ≤ i) (h1 : i < n) :
    (sIndexAddr t (.slice (some a) n c) (.int q i)).run P w = .ok (.value (.pointer (some (a.add (i.toNat * sz))))) w := by
  unfold sIndexAddr Instr.indexAt
  rw [run_sV, Sem.run_bind, asIntOf_run]
  simp only [Result.andThen_ok, Sem.run_bind, run_underlying' ht, Sem.run_pure]
  rw [if_pos ⟨h0, h1⟩]
  simp only [Sem.run_bind, run_sizeOf hs, Result.andThen_ok, Sem.run_pure]
theorem run_idxA {t e : TypeId} {sz n : Nat} {a : Addr} {q : IntKind} {i : Int} (ht : P.underlying t = some (.array n e)) (hs : (P.info? e).map (·.size) = some sz) (h0 : 0 ≤ i) (h1 : i < n) :
    (sIndexAddr t (.pointer (some a)) (.int q i)).run P w = .ok (.value (.pointer (some (a.add (i.toNat * sz))))) w := by
  unfold sIndexAddr Instr.indexAt
  rw [run_sV, Sem.run_bind, asIntOf_run]
  simp only [Result.andThen_ok, Sem.run_bind, run_underlying' ht, Sem.run_pure, Instr.sureAddr]
  rw [if_pos ⟨h0, h1⟩]
  simp only [Sem.run_bind, run_sizeOf hs, Result.andThen_ok, Sem.run_pure]

/-- x[i], x a slice that can be read, its elements of one cell: address and load -/
theorem Rd.at_ {v : Value} {n : Nat} {xs : List Value} (h : Rd w 1 v n xs) {j : Nat} (hj : j < n) : ∃ a c u, v = .slice (some a) n c ∧ xs[j]? = some u ∧ w.cell? (a.add j) = some u := by
  obtain ⟨A, c, rfl, _, hl, hc⟩ := h
  have hlt : j < xs.length := by omega
  obtain ⟨a, rfl, hcell⟩ := hc j xs[j] (List.getElem?_eq_getElem hlt)
  exact ⟨a, c, _, rfl, List.getElem?_eq_getElem hlt, hcell⟩

/-! strings and bytes -/

def bytesV (l : List UInt8) : List Value := l.map fun b => .int .u8 b.toNat
theorem bytesV_len (l : List UInt8) : (bytesV l).length = l.length := by simp [bytesV]
theorem bytesV_one (l : List UInt8) : ∀ y ∈ bytesV l, y.oneCell' = true := by
  intro y hy
  obtain ⟨b, _, rfl⟩ := List.mem_map.1 hy
  rfl

theorem run_str {s d e : TypeId} {v : Value} {n : Nat} {l : List UInt8} (hs : P.underlying s = some (.slice e)) (he : P.underlying e = some (.int .u8)) (hd : P.underlying d = some .string) (h : Rd w 1 v n (bytesV l)) :
    (sConv s d v).run P w = .ok (.value (.string ⟨l.toArray⟩)) w := by
  obtain ⟨A, c, rfl, _, hl, hc⟩ := h
  rw [bytesV_len, Nat.mul_one] at hl
  unfold sConv
  rw [run_sV]
  cases A with
  | none =>
    have : l = [] := by
      cases l with
      | nil => rfl
      | cons b l => obtain ⟨a, ha, _⟩ := hc 0 _ rfl; cases ha
    subst this
    rw [run_convert_bytes_string w s d e none n c hs he hd]
    rfl
  | some a =>
    subst hl
    rw [run_convert_bytes_back w s d e a c l hs he hd (fun j hj => by
      obtain ⟨a', ha, hcell⟩ := hc j (.int .u8 l[j].toNat) (by simp [bytesV, hj])
      cases ha
      exact hcell)]
    rfl

/-- []byte(s): new memory -/
theorem st_bytes {s d e : TypeId} {x : ByteArray} {h : List (Nat × Obj)} {ks : List Nat} (hs : P.underlying s = some .string) (hd : P.underlying d = some (.slice e)) (he : P.underlying e = some (.int .u8)) (hU : Upd W w ks) (hO : Owns w h)
    (hk : ∀ g cap cs m w', Upd W w' ks → Owns w' ((g, .cells cs e (m, m + 1)) :: h) → W.heap.size ≤ g → cs.size ≤ m → x.size ≤ cap → cs.toList.take x.size = bytesV x.data.toList → x.size ≤ cs.size → K (.slice (some ⟨g, 0, none⟩) x.size cap) w') : (std P).step (sConv s d (.string x)) w K := by
  have hr := run_bytes_of_string (P := P) w s d e x hs hd he
  have hstep : (sConv s d (.string x)).run P w = .ok (.value (.slice (some ⟨w.heap.size, 0, none⟩) x.size (grownCap w x.size 0 e)))
      (w.drew.alloc (.cells (bytesRow x (grownCap w x.size 0 e)) e ((bytesRow x (grownCap w x.size 0 e)).size, (bytesRow x (grownCap w x.size 0 e)).size + 1))) := by
    unfold sConv
    rw [run_sV, hr]
    rfl
  rw [step_run hstep]
  have hge := grownCap_ge w x.size 0 e
  have hO' : Owns w.drew h := hO.ext (Upd.drew w [])
  refine hk w.heap.size _ (bytesRow x (grownCap w x.size 0 e)) (bytesRow x (grownCap w x.size 0 e)).size _ ?_ (hO'.alloc _) hU.size (Nat.le_refl _) hge ?_ ?_
  · exact (hU.then_ (Upd.drew w []) fun x hx => by cases hx).then_ (Upd.alloc _ _ []) fun x hx => by cases hx
  · simp [bytesRow, bytesV]
  · simp [bytesRow]


theorem bytes_getElem? (l : List UInt8) (i : Nat) : (⟨l.toArray⟩ : ByteArray)[i]? = l[i]? := by
  by_cases h : i < l.length
  · have h2 : i < (⟨l.toArray⟩ : ByteArray).size := by simpa [ByteArray.size] using h
    rw [getElem?_pos (⟨l.toArray⟩ : ByteArray) i h2, List.getElem?_eq_getElem h]
    rfl
  · have h2 : ¬ i < (⟨l.toArray⟩ : ByteArray).size := by simpa [ByteArray.size] using h
    rw [getElem?_neg (⟨l.toArray⟩ : ByteArray) i h2, List.getElem?_eq_none (by omega)]
theorem run_idxStr {t : TypeId} {l : List UInt8} {q : IntKind} {i : Int} {b : UInt8} (ht : P.underlying t = some .string) (h0 : 0 ≤ i) (hb : l[i.toNat]? = some b) :
    (sIndex t (.string ⟨l.toArray⟩) (.int q i)).run P w = .ok (.value (.int .u8 b.toNat)) w := by
  unfold sIndex Instr.index
  rw [run_sV, Sem.run_bind, asIntOf_run]
  simp only [Result.andThen_ok, Sem.run_bind, run_underlying' ht, Sem.run_pure]
  rw [if_pos h0, bytes_getElem?, hb]
  rfl
theorem size_mk (l : List UInt8) : (⟨l.toArray⟩ : ByteArray).size = l.length := by simp [ByteArray.size]
theorem mk_append (a b : List UInt8) : (⟨a.toArray⟩ : ByteArray) ++ ⟨b.toArray⟩ = ⟨(a ++ b).toArray⟩ := by
  apply ByteArray.ext
  simp
theorem mk_inj {a b : List UInt8} : ((⟨a.toArray⟩ : ByteArray) = ⟨b.toArray⟩) ↔ a = b := by
  constructor
  · intro h
    have := congrArg (fun x => x.data.toList) h
    simpa using this
  · rintro rfl; rfl
theorem mk_surj (s : ByteArray) : ∃ l : List UInt8, s = ⟨l.toArray⟩ := ⟨s.data.toList, by cases s; simp⟩

theorem tdiv_nat (n k : Nat) : Int.tdiv (n : Int) (k : Int) = ((n / k : Nat) : Int) := rfl
theorem tmod_nat (n k : Nat) : Int.tmod (n : Int) (k : Int) = ((n % k : Nat) : Int) := rfl

/-! slice expressions -/
theorem sliceBound_run {y : Nat} {code : BoundsCode} {q : IntKind} {i : Int} (h0 : 0 ≤ i) (h1 : i ≤ y) : (Instr.sliceBound (.int q i) y code).run P w = .ok i.toNat w := by
  unfold Instr.sliceBound
  rw [Sem.run_bind, asIntOf_run]
  simp only [Result.andThen_ok]
  rw [if_pos ⟨h0, h1⟩]
  rfl
/-- x[:hi] -/
theorem run_sliceTo {t e : TypeId} {sz n c : Nat} {A : Option Addr} {q : IntKind} {i : Int} (ht : P.underlying t = some (.slice e)) (hs : (P.info? e).map (·.size) = some sz) (h0 : 0 ≤ i) (h1 : i ≤ c) :
    (sSlice t (.slice A n c) none (some (.int q i)) none).run P w = .ok (.value (.slice (if c = 0 then A else A.map (·.add 0)) i.toNat c)) w := by
  unfold sSlice Instr.sliceAt
  rw [run_sV, Sem.run_bind, run_underlying' ht]
  simp only [Result.andThen_ok, Instr.slice, Sem.run_bind, run_underlying' ht, Instr.sliceBounds, Sem.run_pure, sliceBound_run h0 h1, run_sizeOf hs, Nat.zero_mul, Nat.sub_zero]
/-- x[lo:] -/
theorem run_sliceFrom {t e : TypeId} {sz n c : Nat} {A : Option Addr} {q : IntKind} {i : Int} (ht : P.underlying t = some (.slice e)) (hs : (P.info? e).map (·.size) = some sz) (h0 : 0 ≤ i) (h1 : i ≤ n) (hn : n ≤ c) :
    (sSlice t (.slice A n c) (some (.int q i)) none none).run P w = .ok (.value (.slice (if c = i.toNat then A else A.map (·.add (i.toNat * sz))) (n - i.toNat) (c - i.toNat))) w := by
  unfold sSlice Instr.sliceAt
  rw [run_sV, Sem.run_bind, run_underlying' ht]
  simp only [Result.andThen_ok, Instr.slice, Sem.run_bind, run_underlying' ht, Instr.sliceBounds, Sem.run_pure, sliceBound_run h0 h1, run_sizeOf hs]
theorem Rd.take {sz : Nat} {A : Option Addr} {n c i : Nat} {xs : List Value} (h : Rd w sz (.slice A n c) n xs) (hi : i ≤ n) : Rd w sz (.slice (if c = 0 then A else A.map (·.add 0)) i c) i (xs.take (i * sz)) := by
  obtain ⟨A', c', he, hc, hl, hr⟩ := h
  cases he
  have hA : (if c = 0 then A else A.map (·.add 0)) = A := by
    split
    · rfl
    · cases A <;> rfl
  rw [hA]
  refine ⟨A, c, rfl, by omega, ?_, fun j u hu => ?_⟩
  · rw [List.length_take, hl]
    exact Nat.min_eq_left (Nat.mul_le_mul_right _ hi)
  · rw [List.getElem?_take] at hu
    split at hu
    · exact hr j u hu
    · cases hu
theorem Rd.drop {sz : Nat} {A : Option Addr} {n c i : Nat} {xs : List Value} (h : Rd w sz (.slice A n c) n xs) (hi : i ≤ n) : Rd w sz (.slice (if c = i then A else A.map (·.add (i * sz))) (n - i) (c - i)) (n - i) (xs.drop (i * sz)) := by
  obtain ⟨A', c', he, hc, hl, hr⟩ := h
  cases he
  refine ⟨_, _, rfl, by omega, ?_, fun j u hu => ?_⟩
  · rw [List.length_drop, hl, Nat.sub_mul]
  · rw [List.getElem?_drop] at hu
    obtain ⟨a, rfl, hcell⟩ := hr _ u hu
    have hlt := (List.getElem?_eq_some_iff.1 hu).1
    rw [hl] at hlt
    have hne : c ≠ i := by
      rintro rfl
      have : n = c := by omega
      subst this
      omega
    rw [if_neg hne]
    exact ⟨_, rfl, by rw [add_add']; exact hcell⟩

/-- a []byte that came in, as the rows hand it over -/
theorem rd_of_nums {a : Option Addr} {len cap : Nat} {zs : List Int}
    (h : (a = none ∧ len = 0 ∧ cap = 0 ∧ zs = []) ∨ ∃ x, a = some x ∧ len ≤ cap ∧ cap ≤ maxLen ∧ zs.length = cap ∧ (∀ i, i < zs.length → w.cell? (x.add i) = some (.int .u8 (zs.getD i 0))) ∧ ∀ n ∈ zs, (Lit.int .u8 n).wf = true) :
    ∃ l : List UInt8, l.length = len ∧ l.length ≤ maxLen ∧ Rd w 1 (.slice a len cap) len (bytesV l) := by
  rcases h with ⟨rfl, rfl, rfl, rfl⟩ | ⟨x, rfl, hl, hm, hz, hc, hw⟩
  · exact ⟨[], rfl, Nat.zero_le _, Rd.nil_ _ _⟩
  · refine ⟨(zs.take len).map fun n => UInt8.ofNat n.toNat, by simp; omega, by simp; omega, some x, cap, rfl, hl, by simp [bytesV]; omega, fun j u hu => ⟨x, rfl, ?_⟩⟩
    have hj : j < len := by
      have := (List.getElem?_eq_some_iff.1 hu).1
      simp [bytesV] at this
      omega
    have hj2 : j < zs.length := by omega
    rw [hc j hj2]
    have hwf := hw zs[j] (List.getElem_mem hj2)
    have hb : 0 ≤ zs[j] ∧ zs[j] < 256 := by
      simp [Lit.wf, IntKind.min, IntKind.max, IntKind.bits, IntKind.signed] at hwf
      omega
    simp [bytesV, List.getElem?_take, hj, hj2] at hu ⊢
    rw [← hu]
    congr 1
    omega

end
end Go.Proofs.YtakifgecgmdjcaaGreat

/-! ### rules for what holds steps together -/

namespace Go.Proofs.YtakifgecgmdjcaaGreat
open Go Xf Go.RowKit
set_option linter.unusedVariables false
set_option linter.unusedSimpArgs false

section
variable {P : Program} {w w' W : World} {K : Value → World → Prop} {S : World → Prop} {k : Value → Prop}

theorem st_loop {init : List Value} {body : (Nat → Value) → List Value → World → (List Value → World → Prop) → Prop} (I : List Value → World → Prop) (μ : List Value → World → Nat) (h0 : I init w)
    (hr : ∀ dv vs w, vs.length = init.length → I vs w → body dv vs w fun vs' w' => I vs' w' ∧ μ vs' w' < μ vs w) : (std P).loop init w body := ⟨I, μ, h0, hr⟩
theorem st_call {f : FuncId} {args : Array Value} {R : Value → World → Prop} (h : CallsR P f args w R) (hk : ∀ v w', R v w' → K v w') : (std P).calls f args w K := CallsR.mono h hk
theorem st_draw {k : (World → Prop) → World → Prop} (S : World → Prop) (hS : S w.drew) (hk : k S w.drew) : (std P).draw w k := ⟨S, hS, hk⟩
theorem st_keepT {k : (World → Prop) → Prop} (S : World → Prop) (hS : S w) (hk : k S) : (std P).keepT w k := ⟨S, hS, hk⟩
theorem st_keepS {k : (World → Prop) → Prop} (S' : World → Prop) (h : ∀ w, S' w → S w) (hS : S' w) (hk : k S') : (std P).keepS S w k := ⟨S', h, hS, hk⟩
theorem st_same {k : (World → Prop) → Prop} (hS : S w) (hk : k S) : (std P).keepS S w k := ⟨S, fun _ h => h, hS, hk⟩
theorem join_std {k : (Nat → Value) → List Value → World → Prop} {b : (List Value → World → Prop) → Prop} : (std P).join k b = b fun vs w => ∀ dv, k dv vs w := rfl
theorem st_loadR {t : TypeId} {a : Addr} {u : Value} (h : (loadVar t a).run P w = .ok u w) (hk : k u) : (std P).loadR t (.pointer (some a)) w k := ⟨u, by rw [Sem.run_bind]; exact h, hk⟩

theorem cells_read {g : Nat} {cs : Array Value} {e : TypeId} {fr : Nat × Nat} (h : w.heap[g]? = some (.cells cs e fr)) : ∀ j v, cs.toList[j]? = some v → w.cell? ((⟨g, 0, none⟩ : Addr).add j) = some v := by
  intro j v hj
  rw [add_mk, Nat.zero_add, cell_at h]
  simpa using hj

theorem run_storeN {t e : TypeId} {g off : Nat} {cs : Array Value} {vs : List Value} (hn : (P.info? t).map (·.size) = some vs.length) (hb : w.heap[g]? = some (.cells cs e (0, 0))) (hl : off + vs.length ≤ cs.size) (h1 : ∀ u ∈ vs, u.oneCell' = true) :
    (sStore t (.pointer (some ⟨g, off, none⟩)) (.agg vs.toArray)).run P w = .ok .skip (w.setRow g (cs.toList.take off ++ vs ++ cs.toList.drop (off + vs.length)).toArray) := by
  have hst := run_storeCells_at P g off e vs 0 cs w hb (by simpa using hl) h1
  unfold sStore sU Instr.storeAt
  rw [Sem.run_bind, Sem.run_bind]
  simp only [Instr.sureAddr, Sem.run_pure, Result.andThen_ok]
  unfold storeVar
  rw [Sem.run_bind, run_sizeOf hn]
  have hc : (Value.agg vs.toArray).cells = vs.toArray := rfl
  simp only [Result.andThen_ok, hc, List.size_toArray, ne_eq, not_true, if_false, Nat.add_zero] at hst ⊢
  rw [hst]
  rfl

/-- a struct or an array stored into a block that is known -/
theorem st_storeN {t e : TypeId} {h : List (Nat × Obj)} {g off : Nat} {cs : Array Value} {vs : List Value} {ks : List Nat} (hn : (P.info? t).map (·.size) = some vs.length) (hU : Upd W w ks) (hO : Owns w h) (i : Nat)
    (hi : h[i]? = some (g, .cells cs e (0, 0))) (hl : off + vs.length ≤ cs.size) (h1 : ∀ u ∈ vs, u.oneCell' = true) (hg : g ∈ ks ∨ W.heap.size ≤ g)
    (hk : ∀ w', Upd W w' ks → Owns w' (h.set i (g, .cells (cs.toList.take off ++ vs ++ cs.toList.drop (off + vs.length)).toArray e (0, 0))) → K undef w') : (std P).step (sStore t (.pointer (some ⟨g, off, none⟩)) (.agg vs.toArray)) w K := by
  rw [step_skip (run_storeN hn (hO.at_ i hi) hl h1)]
  exact hk _ (hU.then_ (Upd.setRow _ _ _) fun x hx => by simp at hx; subst hx; exact hg) (hO.setRow i hi _)


theorem calls_mono {f : FuncId} {args : Array Value} {k : Value → World → Prop} {R : Ending → World → Prop} (h : CallsR P f args w k) (hr : ∀ v w', k v w' → R (.returned v) w') : Calls P f args w R :=
  Calls.mono h fun e w' ⟨v, he, hv⟩ => he ▸ hr v w' hv

theorem st_newRow {s : Sem Next} {e : TypeId} {cs : Array Value} {n c : Nat} {h : List (Nat × Obj)} {ks : List Nat} (hr : ∀ w, s.run P w = .ok (.value (.slice (some ⟨w.heap.size, 0, none⟩) n c)) (w.alloc (.cells cs e))) (hU : Upd W w ks) (hO : Owns w h)
    (hk : ∀ g w', Upd W w' ks → Owns w' ((g, .cells cs e) :: h) → W.heap.size ≤ g → K (.slice (some ⟨g, 0, none⟩) n c) w') : (std P).step s w K := by
  rw [step_run (hr w)]
  exact hk _ _ (hU.then_ (Upd.alloc _ _ []) fun x hx => by cases hx) (hO.alloc _) hU.size

/-- []byte("..") of a constant: the row is marked behind its end -/
theorem st_stringish {t e : TypeId} {g n c : Nat} {cs : Array Value} {h : List (Nat × Obj)} {ks : List Nat} (ht : P.underlying t = some (.slice e)) (he : P.underlying e = some (.int .u8)) (hU : Upd W w ks) (hO : Owns w ((g, .cells cs e (0, 0)) :: h)) (hg : g ∈ ks ∨ W.heap.size ≤ g)
    (hk : ∀ w', Upd W w' ks → Owns w' ((g, .cells cs e (cs.size, cs.size + 1)) :: h) → K (.slice (some ⟨g, 0, none⟩) n c) w') : (std P).step (sConv t t (.slice (some ⟨g, 0, none⟩) n c)) w K := by
  have hb := hO.at_ 0 rfl
  have hsh : w.shape? g = some (e, cs.size) := by simp [World.shape?, hb]
  have hrun : (sConv t t (.slice (some ⟨g, 0, none⟩) n c)).run P w = .ok (.value (.slice (some ⟨g, 0, none⟩) n c)) (w.freeze ⟨g, cs.size, none⟩ 1) := by
    unfold sConv convert
    rw [run_sV]
    simp [run_underlying' ht, run_underlying' he, markStringish, shape, freeze, Sem.run, hsh]
  rw [step_run hrun]
  have hfr : (w.freeze ⟨g, cs.size, none⟩ 1).heap[g]? = some (.cells cs e (cs.size, cs.size + 1)) := by
    simp [World.freeze, Array.getElem?_modify, hb]
  have hot : ∀ k, k ≠ g → (w.freeze ⟨g, cs.size, none⟩ 1).heap[k]? = w.heap[k]? := fun k hk => by
    simp [World.freeze, Array.getElem?_modify, Ne.symm hk]
  refine hk _ (hU.then_ (ls := [g]) ⟨rfl, rfl, rfl, by simp [World.freeze], fun k _ hn => hot k (by simpa using hn)⟩ fun x hx => by simp at hx; subst hx; exact hg) ?_
  have := hO.put 0 (o' := .cells cs e (cs.size, cs.size + 1)) rfl hfr hot
  simpa using this

end
end Go.Proofs.YtakifgecgmdjcaaGreat
