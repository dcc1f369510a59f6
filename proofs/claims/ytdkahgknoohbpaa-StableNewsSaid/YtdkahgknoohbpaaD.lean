/- Functions of the program, read as statements without slots. Written by a program of this work. -/
import Derived.Test.YtdkahgknoohbpaaXf
import Derived.Test.YtdkahgknoohbpaaProg
import Derived.KernelRfl
namespace Go.Proofs.Ytdkahgknoohbpaa
open Go Xf
set_option maxRecDepth 100000
set_option linter.unusedVariables false

theorem mixed : Try.prog.follows .mixedOrders = true := by kernel_rfl

def flotillalaw08_StableWhole_k1 (C : Comb) (w : World) (Q : Value → World → Prop) : Prop :=
  C.calls 10 #[] w fun v41_1 w =>
  Q v41_1 w
def flotillalaw08_StableWhole_k3 (C : Comb) (w : World) (Q : Value → World → Prop) : Prop :=
  Q (.bool false) w
def flotillalaw08_StableWhole_k4 (C : Comb) (w : World) (Q : Value → World → Prop) : Prop :=
  C.calls 10 #[] w fun v206_1 w =>
  Q v206_1 w
def flotillalaw08_StableWhole_k5 (C : Comb) (vs_1 : List Value) (again_1 : List Value → World → Prop) (w : World) (Q : Value → World → Prop) : Prop :=
  C.step (sBin .add 3 (.tmp 150) (.const (.int .i64 64)) (vs_1.getD 0 undef) (.int .i64 64)) w fun v151_1 w =>
  again_1 [v151_1] w
def flotillalaw08_StableWhole_k6 (C : Comb) (vs_3 : List Value) (again_2 : List Value → World → Prop) (w : World) (Q : Value → World → Prop) : Prop :=
  C.step (sBin .add 3 (.tmp 179) (.const (.int .i64 1)) (vs_3.getD 0 undef) (.int .i64 1)) w fun v180_1 w =>
  again_2 [v180_1] w
def flotillalaw08_StableWhole_k7 (C : Comb) (vs_3 : List Value) (again_2 : List Value → World → Prop) (u205_7 : Value) (w : World) (Q : Value → World → Prop) : Prop :=
  C.bool u205_7
  (Q (.bool false) w)
  (flotillalaw08_StableWhole_k6 C vs_3 again_2 w Q)
def flotillalaw08_StableWhole_k8 (C : Comb) (vs_3 : List Value) (again_2 : List Value → World → Prop) (w : World) (Q : Value → World → Prop) : Prop :=
  flotillalaw08_StableWhole_k6 C vs_3 again_2 w Q
def flotillalaw08_StableWhole_j9 (C : Comb) (v5_1 : Value) (v106_1 : Value) (v131_1 : Value) (vs_1 : List Value) (again_1 : List Value → World → Prop) (dv_2 : Nat → Value) (vs_2 : List Value) (w : World) (Q : Value → World → Prop) : Prop :=
  C.loop [(vs_1.getD 0 undef)] w fun dv_3 vs_3 w again_2 =>
  C.step (sBin .add 3 (.tmp 176) (.const (.int .i64 64)) (vs_1.getD 0 undef) (.int .i64 64)) w fun v177_1 w =>
  C.step (sBin .lss 3 (.tmp 175) (.tmp 177) (vs_3.getD 0 undef) v177_1) w fun v178_1 w =>
  C.bool v178_1
  (C.draw w fun S_8 w =>
  C.bool (vs_2.getD 0 undef)
  (C.stepS S_8 (sIndexAddr 34 v131_1 (vs_3.getD 0 undef)) fun v185_1 =>
  C.stepS S_8 (sLoad 5 v185_1) fun v186_1 =>
  C.stepS S_8 (sFieldAddr 24 v5_1 4) fun v187_1 =>
  C.stepS S_8 (sLoad 5 v187_1) fun v188_1 =>
  C.stepS S_8 (sBin .neq 5 (.tmp 186) (.tmp 188) v186_1 v188_1) fun v189_1 =>
  C.bool v189_1
  (Q (.bool false) w)
  (C.stepS S_8 (sUn .not (vs_2.getD 0 undef)) fun v193_1 =>
  C.bool v193_1
  (C.stepS S_8 (sIndexAddr 34 v131_1 (vs_3.getD 0 undef)) fun v197_1 =>
  C.stepS S_8 (sLoad 5 v197_1) fun v198_1 =>
  C.stepS S_8 (sIndexAddr 34 v106_1 (vs_3.getD 0 undef)) fun v201_1 =>
  C.stepS S_8 (sLoad 5 v201_1) fun v202_1 =>
  C.stepS S_8 (sBin .neq 5 (.tmp 198) (.tmp 202) v198_1 v202_1) fun v203_1 =>
  flotillalaw08_StableWhole_k7 C vs_3 again_2 v203_1 w Q)
  (flotillalaw08_StableWhole_k8 C vs_3 again_2 w Q)))
  (C.stepS S_8 (sUn .not (vs_2.getD 0 undef)) fun v193_2 =>
  C.bool v193_2
  (C.stepS S_8 (sIndexAddr 34 v131_1 (vs_3.getD 0 undef)) fun v197_2 =>
  C.stepS S_8 (sLoad 5 v197_2) fun v198_2 =>
  C.stepS S_8 (sIndexAddr 34 v106_1 (vs_3.getD 0 undef)) fun v201_2 =>
  C.stepS S_8 (sLoad 5 v201_2) fun v202_2 =>
  C.stepS S_8 (sBin .neq 5 (.tmp 198) (.tmp 202) v198_2 v202_2) fun v203_2 =>
  flotillalaw08_StableWhole_k7 C vs_3 again_2 v203_2 w Q)
  (flotillalaw08_StableWhole_k8 C vs_3 again_2 w Q)))
  (flotillalaw08_StableWhole_k5 C vs_1 again_1 w Q)
def flotillalaw08_StableWhole_k2 (C : Comb) (v18_1 : Value) (v24_1 : Value) (v5_1 : Value) (v28_1 : Value) (w : World) (Q : Value → World → Prop) : Prop :=
  C.calls 14 #[v28_1, (.int .i64 0), v18_1] w fun v105_1 w =>
  C.step (sExtract v105_1 0) w fun v106_1 w =>
  C.step (sExtract v105_1 1) w fun v107_1 w =>
  C.draw w fun S_4 w =>
  C.stepS S_4 (sFieldAddr 24 v5_1 1) fun v109_1 =>
  C.stepS S_4 (sLoad 3 v109_1) fun v110_1 =>
  C.stepS S_4 (sFieldAddr 24 v5_1 2) fun v111_1 =>
  C.stepS S_4 (sLoad 3 v111_1) fun v112_1 =>
  C.stepS S_4 (sLoad 24 v5_1) fun v113_1 =>
  C.stepS S_4 (sFieldAddr 24 v5_1 4) fun v115_1 =>
  C.stepS S_4 (sLoad 5 v115_1) fun v116_1 =>
  C.calls 9 #[v113_1] w fun v114_1 w =>
  C.keepS S_4 w fun S_5 =>
  C.calls 12 #[v114_1, v116_1] w fun v117_1 w =>
  C.keepS S_5 w fun S_6 =>
  C.calls 11 #[v28_1, v110_1, v112_1, v117_1] w fun v118_1 w =>
  C.keepT w fun S_7 =>
  C.stepS S_7 (sBin .neq 28 (.tmp 118) (.const (.int .i64 0)) v118_1 (.int .i64 0)) fun v119_1 =>
  C.bool v119_1
  (C.calls 10 #[] w fun v120_1 w =>
  Q v120_1 w)
  (C.step (sFieldAddr 24 v5_1 1) w fun v122_1 w =>
  C.step (sLoad 3 v122_1) w fun v123_1 w =>
  C.calls 15 #[v28_1, v123_1, v24_1] w fun v125_1 w =>
  C.step (sBin .neq 28 (.tmp 125) (.const (.int .i64 0)) v125_1 (.int .i64 0)) w fun v126_1 w =>
  C.bool v126_1
  (Q (.bool false) w)
  (C.calls 14 #[v28_1, (.int .i64 0), v18_1] w fun v130_1 w =>
  C.step (sExtract v130_1 0) w fun v131_1 w =>
  C.step (sExtract v130_1 1) w fun v132_1 w =>
  C.step (sBin .neq 28 (.tmp 133) (.const (.int .i64 0)) v132_1 (.int .i64 0)) w fun v134_1 w =>
  C.bool v134_1
  (flotillalaw08_StableWhole_k3 C w Q)
  (C.step (sBuiltin .len #[34] 3 [false] [v131_1]) w fun v137_1 w =>
  C.step (sBin .neq 3 (.tmp 137) (.tmp 138) v137_1 v18_1) w fun v139_1 w =>
  C.bool v139_1
  (flotillalaw08_StableWhole_k3 C w Q)
  (C.step (sBuiltin .len #[34] 3 [false] [v106_1]) w fun v143_1 w =>
  C.step (sBin .neq 3 (.tmp 143) (.tmp 144) v143_1 v18_1) w fun v145_1 w =>
  C.bool v145_1
  (Q (.bool false) w)
  (C.loop [(.int .i64 0)] w fun dv_1 vs_1 w again_1 =>
  C.step (sBin .lss 3 (.tmp 147) (.tmp 148) (vs_1.getD 0 undef) v18_1) w fun v149_1 w =>
  C.bool v149_1
  (C.join (fun dv_2 vs_2 w => flotillalaw08_StableWhole_j9 C v5_1 v106_1 v131_1 vs_1 again_1 dv_2 vs_2 w Q) (fun j_1 =>
  C.draw w fun S_9 w =>
  C.stepS S_9 (sFieldAddr 24 v5_1 2) fun v153_1 =>
  C.stepS S_9 (sLoad 3 v153_1) fun v154_1 =>
  C.stepS S_9 (sBin .geq 3 (.tmp 152) (.tmp 154) (vs_1.getD 0 undef) v154_1) fun v155_1 =>
  C.bool v155_1
  (C.stepS S_9 (sFieldAddr 24 v5_1 2) fun v158_1 =>
  C.stepS S_9 (sLoad 3 v158_1) fun v159_1 =>
  C.stepS S_9 (sLoad 24 v5_1) fun v160_1 =>
  C.calls 9 #[v160_1] w fun v161_1 w =>
  C.keepS S_9 w fun S_10 =>
  C.stepS S_10 (sBin .add 3 (.tmp 159) (.tmp 161) v159_1 v161_1) fun v162_1 =>
  C.stepS S_10 (sBin .lss 3 (.tmp 157) (.tmp 162) (vs_1.getD 0 undef) v162_1) fun v163_1 =>
  C.bool v163_1
  (C.stepS S_10 (sFieldAddr 24 v5_1 2) fun v168_1 =>
  C.stepS S_10 (sLoad 3 v168_1) fun v169_1 =>
  C.stepS S_10 (sBin .sub 3 (.tmp 167) (.tmp 169) (vs_1.getD 0 undef) v169_1) fun v170_1 =>
  C.stepS S_10 (sBin .quo 3 (.tmp 170) (.const (.int .i64 64)) v170_1 (.int .i64 64)) fun v171_1 =>
  C.stepS S_10 (sBin .gtr 3 (.tmp 166) (.tmp 171) v24_1 v171_1) fun v172_1 =>
  j_1 [v172_1] w)
  (j_1 [(.bool false)] w))
  (j_1 [(.bool false)] w)))
  (flotillalaw08_StableWhole_k4 C w Q))))))
def flotillalaw08_StableWhole_k10 (C : Comb) (vs_4 : List Value) (again_3 : List Value → World → Prop) (w : World) (Q : Value → World → Prop) : Prop :=
  C.step (sBin .add 3 (.tmp 50) (.const (.int .i64 1)) (vs_4.getD 0 undef) (.int .i64 1)) w fun v51_1 w =>
  again_3 [v51_1] w
def flotillalaw08_StableWhole_j11 (C : Comb) (v20_1 : Value) (v28_1 : Value) (vs_4 : List Value) (again_3 : List Value → World → Prop) (dv_5 : Nat → Value) (vs_5 : List Value) (w : World) (Q : Value → World → Prop) : Prop :=
  C.step (sIndexAddr 22 v20_1 (vs_4.getD 0 undef)) w fun v91_1 w =>
  C.step (sFieldAddr 24 v91_1 0) w fun v92_1 w =>
  C.step (sLoad 3 v92_1) w fun v93_1 w =>
  C.step (sBin .eql 3 (.tmp 93) (.const (.int .i64 1)) v93_1 (.int .i64 1)) w fun v94_1 w =>
  C.bool v94_1
  (C.step (sIndexAddr 22 v20_1 (vs_4.getD 0 undef)) w fun v98_1 w =>
  C.step (sFieldAddr 24 v98_1 1) w fun v99_1 w =>
  C.step (sLoad 3 v99_1) w fun v100_1 w =>
  C.calls 13 #[v28_1, v100_1] w fun v101_1 w =>
  flotillalaw08_StableWhole_k10 C vs_4 again_3 w Q)
  (flotillalaw08_StableWhole_k10 C vs_4 again_3 w Q)
def flotillalaw08_StableWhole_x (C : Comb) (a0 : Value) (w : World) (Q : Value → World → Prop) : Prop :=
  C.step (sBox 26 a0) w fun v1_1 w =>
  C.draw w fun S_1 w =>
  C.stepS S_1 (sFieldAddr 26 v1_1 0) fun v17_1 =>
  C.stepS S_1 (sLoad 3 v17_1) fun v18_1 =>
  C.stepS S_1 (sFieldAddr 26 v1_1 1) fun v19_1 =>
  C.stepS S_1 (sLoad 22 v19_1) fun v20_1 =>
  C.stepS S_1 (sFieldAddr 26 v1_1 2) fun v21_1 =>
  C.stepS S_1 (sLoad 24 v21_1) fun v22_1 =>
  C.stepS S_1 (sFieldAddr 26 v1_1 3) fun v23_1 =>
  C.stepS S_1 (sLoad 3 v23_1) fun v24_1 =>
  C.step (sAlloc 24) w fun v5_1 w =>
  C.keepS S_1 w fun S_2 =>
  C.step (sStore 24 v5_1 v22_1) w fun vx_1 w =>
  C.keepS S_2 w fun S_3 =>
  C.calls 8 #[v18_1] w fun v27_1 w =>
  C.step (sExtract v27_1 0) w fun v28_1 w =>
  C.step (sExtract v27_1 1) w fun v29_1 w =>
  C.step (sBin .neq 28 (.tmp 30) (.const (.int .i64 0)) v29_1 (.int .i64 0)) w fun v31_1 w =>
  C.bool v31_1
  (flotillalaw08_StableWhole_k1 C w Q)
  (C.step (sBin .gtr 3 (.tmp 33) (.const (.int .i64 4096)) v18_1 (.int .i64 4096)) w fun v34_1 w =>
  C.bool v34_1
  (flotillalaw08_StableWhole_k1 C w Q)
  (C.step (sLoad 24 v5_1) w fun v37_1 w =>
  C.calls 9 #[v37_1] w fun v38_1 w =>
  C.step (sBin .lss 3 (.tmp 38) (.const (.int .i64 0)) v38_1 (.int .i64 0)) w fun v39_1 w =>
  C.bool v39_1
  (C.calls 10 #[] w fun v41_2 w =>
  Q v41_2 w)
  (C.loop [(.int .i64 0)] w fun dv_4 vs_4 w again_3 =>
  C.step (sBuiltin .len #[22] 3 [false] [v20_1]) w fun v44_1 w =>
  C.step (sBin .lss 3 (.tmp 42) (.tmp 44) (vs_4.getD 0 undef) v44_1) w fun v45_1 w =>
  C.bool v45_1
  (C.step (sBin .lss 3 (.tmp 47) (.const (.int .i64 60)) (vs_4.getD 0 undef) (.int .i64 60)) w fun v48_1 w =>
  C.bool v48_1
  (C.join (fun dv_5 vs_5 w => flotillalaw08_StableWhole_j11 C v20_1 v28_1 vs_4 again_3 dv_5 vs_5 w Q) (fun j_2 =>
  C.step (sIndexAddr 22 v20_1 (vs_4.getD 0 undef)) w fun v54_1 w =>
  C.step (sFieldAddr 24 v54_1 0) w fun v55_1 w =>
  C.step (sLoad 3 v55_1) w fun v56_1 w =>
  C.step (sBin .eql 3 (.tmp 56) (.const (.int .i64 0)) v56_1 (.int .i64 0)) w fun v57_1 w =>
  C.bool v57_1
  (C.step (sIndexAddr 22 v20_1 (vs_4.getD 0 undef)) w fun v61_1 w =>
  C.step (sLoad 24 v61_1) w fun v62_1 w =>
  C.calls 9 #[v62_1] w fun v63_1 w =>
  C.step (sBin .geq 3 (.tmp 63) (.const (.int .i64 0)) v63_1 (.int .i64 0)) w fun v64_1 w =>
  C.bool v64_1
  (C.draw w fun S_11 w =>
  C.stepS S_11 (sIndexAddr 22 v20_1 (vs_4.getD 0 undef)) fun v69_1 =>
  C.stepS S_11 (sFieldAddr 24 v69_1 1) fun v70_1 =>
  C.stepS S_11 (sLoad 3 v70_1) fun v71_1 =>
  C.stepS S_11 (sIndexAddr 22 v20_1 (vs_4.getD 0 undef)) fun v74_1 =>
  C.stepS S_11 (sFieldAddr 24 v74_1 2) fun v75_1 =>
  C.stepS S_11 (sLoad 3 v75_1) fun v76_1 =>
  C.stepS S_11 (sIndexAddr 22 v20_1 (vs_4.getD 0 undef)) fun v79_1 =>
  C.stepS S_11 (sLoad 24 v79_1) fun v80_1 =>
  C.stepS S_11 (sIndexAddr 22 v20_1 (vs_4.getD 0 undef)) fun v84_1 =>
  C.stepS S_11 (sFieldAddr 24 v84_1 4) fun v85_1 =>
  C.stepS S_11 (sLoad 5 v85_1) fun v86_1 =>
  C.calls 9 #[v80_1] w fun v81_1 w =>
  C.keepS S_11 w fun S_12 =>
  C.calls 12 #[v81_1, v86_1] w fun v87_1 w =>
  C.keepS S_12 w fun S_13 =>
  C.calls 11 #[v28_1, v71_1, v76_1, v87_1] w fun v88_1 w =>
  C.keepT w fun S_14 =>
  j_2 [] w)
  (j_2 [] w))
  (j_2 [] w)))
  (flotillalaw08_StableWhole_k2 C v18_1 v24_1 v5_1 v28_1 w Q))
  (flotillalaw08_StableWhole_k2 C v18_1 v24_1 v5_1 v28_1 w Q))))
theorem flotillalaw08_StableWhole_eq (C : Comb) (a0 : Value) (w : World) (Q : Value → World → Prop) : flotillalaw08_StableWhole_x C a0 w Q = FunY Try.prog C 2 [10, 24] Try.f3 [a0] w Q := by kernel_rfl
theorem flotillalaw08_StableWhole_sound (a0 : Value) {w : World} {Q : Value → World → Prop} (h : flotillalaw08_StableWhole_x (std Try.prog) a0 w Q) : CallsR Try.prog 3 #[a0] w Q :=
  calls_of_funY mixed Try.func3 (Eq.mp (flotillalaw08_StableWhole_eq _ a0 w Q) h)

def flotillalaw08_StableStays_k1 (C : Comb) (w : World) (Q : Value → World → Prop) : Prop :=
  C.calls 10 #[] w fun v171_1 w =>
  Q v171_1 w
def flotillalaw08_StableStays_j2 (C : Comb) (a1 : Value) (v16_1 : Value) (vs_1 : List Value) (vs_2 : List Value) (again_1 : List Value → World → Prop) (dv_4 : Nat → Value) (vs_4 : List Value) (w : World) (Q : Value → World → Prop) : Prop :=
  C.step (sBin .mul 3 (.const (.int .i64 64)) (.tmp 156) (.int .i64 64) (vs_1.getD 0 undef)) w fun v157_1 w =>
  C.calls 14 #[v16_1, v157_1, (.int .i64 64)] w fun v158_1 w =>
  C.step (sExtract v158_1 0) w fun v159_1 w =>
  C.step (sExtract v158_1 1) w fun v160_1 w =>
  C.draw w fun S_1 w =>
  C.stepS S_1 (sBin .neq 28 (.tmp 161) (.const (.int .i64 0)) v160_1 (.int .i64 0)) fun v162_1 =>
  C.bool v162_1
  (Q (.bool false) w)
  (C.stepS S_1 (sConv 34 9 v159_1) fun v165_1 =>
  C.calls 12 #[(.int .i64 64), a1] w fun v167_1 w =>
  C.keepS S_1 w fun S_2 =>
  C.stepS S_2 (sConv 34 9 v167_1) fun v168_1 =>
  C.stepS S_2 (sBin .neq 9 (.tmp 165) (.tmp 168) v165_1 v168_1) fun v169_1 =>
  C.bool v169_1
  (Q (.bool false) w)
  (C.step (sBin .add 3 (.tmp 46) (.const (.int .i64 1)) (vs_2.getD 0 undef) (.int .i64 1)) w fun v47_1 w =>
  again_1 [v47_1] w))
def flotillalaw08_StableStays_k3 (C : Comb) (v16_1 : Value) (vs_1 : List Value) (v10_1 : Value) (j_3 : List Value → World → Prop) (w : World) (Q : Value → World → Prop) : Prop :=
  C.step (sFieldAddr 24 v10_1 0) w fun v122_1 w =>
  C.step (sLoad 3 v122_1) w fun v123_1 w =>
  C.step (sBin .eql 3 (.tmp 123) (.const (.int .i64 1)) v123_1 (.int .i64 1)) w fun v124_1 w =>
  C.bool v124_1
  (C.step (sFieldAddr 24 v10_1 1) w fun v126_1 w =>
  C.step (sLoad 3 v126_1) w fun v127_1 w =>
  C.calls 13 #[v16_1, v127_1] w fun v128_1 w =>
  j_3 [] w)
  (C.step (sFieldAddr 24 v10_1 0) w fun v130_1 w =>
  C.step (sLoad 3 v130_1) w fun v131_1 w =>
  C.step (sBin .eql 3 (.tmp 131) (.const (.int .i64 2)) v131_1 (.int .i64 2)) w fun v132_1 w =>
  C.bool v132_1
  (C.step (sFieldAddr 24 v10_1 1) w fun v134_1 w =>
  C.step (sLoad 3 v134_1) w fun v135_1 w =>
  C.step (sFieldAddr 24 v10_1 3) w fun v136_1 w =>
  C.step (sLoad 3 v136_1) w fun v137_1 w =>
  C.calls 15 #[v16_1, v135_1, v137_1] w fun v138_1 w =>
  j_3 [] w)
  (C.step (sFieldAddr 24 v10_1 0) w fun v140_1 w =>
  C.step (sLoad 3 v140_1) w fun v141_1 w =>
  C.step (sBin .eql 3 (.tmp 141) (.const (.int .i64 4)) v141_1 (.int .i64 4)) w fun v142_1 w =>
  C.bool v142_1
  (C.step (sFieldAddr 24 v10_1 2) w fun v144_1 w =>
  C.step (sLoad 3 v144_1) w fun v145_1 w =>
  C.step (sBin .mul 3 (.const (.int .i64 64)) (.tmp 146) (.int .i64 64) (vs_1.getD 0 undef)) w fun v147_1 w =>
  C.step (sBin .gtr 3 (.tmp 145) (.tmp 147) v145_1 v147_1) w fun v148_1 w =>
  C.bool v148_1
  (C.step (sFieldAddr 24 v10_1 2) w fun v151_1 w =>
  C.step (sLoad 3 v151_1) w fun v152_1 w =>
  C.calls 16 #[v16_1, v152_1] w fun v153_1 w =>
  j_3 [] w)
  (j_3 [] w))
  (j_3 [] w)))
def flotillalaw08_StableStays_j4 (C : Comb) (a1 : Value) (v16_1 : Value) (vs_1 : List Value) (vs_2 : List Value) (again_1 : List Value → World → Prop) (v10_1 : Value) (dv_3 : Nat → Value) (vs_3 : List Value) (w : World) (Q : Value → World → Prop) : Prop :=
  C.join (fun dv_4 vs_4 w => flotillalaw08_StableStays_j2 C a1 v16_1 vs_1 vs_2 again_1 dv_4 vs_4 w Q) (fun j_3 =>
  C.step (sFieldAddr 24 v10_1 0) w fun v93_1 w =>
  C.step (sLoad 3 v93_1) w fun v94_1 w =>
  C.step (sBin .eql 3 (.tmp 94) (.const (.int .i64 0)) v94_1 (.int .i64 0)) w fun v95_1 w =>
  C.bool v95_1
  (C.step (sLoad 24 v10_1) w fun v97_1 w =>
  C.calls 9 #[v97_1] w fun v98_1 w =>
  C.step (sBin .geq 3 (.tmp 98) (.const (.int .i64 0)) v98_1 (.int .i64 0)) w fun v99_1 w =>
  C.bool v99_1
  (C.step (sFieldAddr 24 v10_1 2) w fun v102_1 w =>
  C.step (sLoad 3 v102_1) w fun v103_1 w =>
  C.step (sBin .geq 3 (.tmp 103) (.const (.int .i64 0)) v103_1 (.int .i64 0)) w fun v104_1 w =>
  C.bool v104_1
  (C.step (sUn .not (vs_3.getD 0 undef)) w fun v108_1 w =>
  C.bool v108_1
  (C.draw w fun S_3 w =>
  C.stepS S_3 (sFieldAddr 24 v10_1 1) fun v111_1 =>
  C.stepS S_3 (sLoad 3 v111_1) fun v112_1 =>
  C.stepS S_3 (sFieldAddr 24 v10_1 2) fun v113_1 =>
  C.stepS S_3 (sLoad 3 v113_1) fun v114_1 =>
  C.stepS S_3 (sLoad 24 v10_1) fun v115_1 =>
  C.stepS S_3 (sFieldAddr 24 v10_1 4) fun v117_1 =>
  C.stepS S_3 (sLoad 5 v117_1) fun v118_1 =>
  C.calls 9 #[v115_1] w fun v116_1 w =>
  C.keepS S_3 w fun S_4 =>
  C.calls 12 #[v116_1, v118_1] w fun v119_1 w =>
  C.keepS S_4 w fun S_5 =>
  C.calls 11 #[v16_1, v112_1, v114_1, v119_1] w fun v120_1 w =>
  C.keepT w fun S_6 =>
  j_3 [] w)
  (C.step (sFieldAddr 24 v10_1 0) w fun v122_2 w =>
  C.step (sLoad 3 v122_2) w fun v123_2 w =>
  C.step (sBin .eql 3 (.tmp 123) (.const (.int .i64 1)) v123_2 (.int .i64 1)) w fun v124_2 w =>
  C.bool v124_2
  (C.step (sFieldAddr 24 v10_1 1) w fun v126_2 w =>
  C.step (sLoad 3 v126_2) w fun v127_2 w =>
  C.calls 13 #[v16_1, v127_2] w fun v128_2 w =>
  j_3 [] w)
  (C.step (sFieldAddr 24 v10_1 0) w fun v130_2 w =>
  C.step (sLoad 3 v130_2) w fun v131_2 w =>
  C.step (sBin .eql 3 (.tmp 131) (.const (.int .i64 2)) v131_2 (.int .i64 2)) w fun v132_2 w =>
  C.bool v132_2
  (C.step (sFieldAddr 24 v10_1 1) w fun v134_2 w =>
  C.step (sLoad 3 v134_2) w fun v135_2 w =>
  C.step (sFieldAddr 24 v10_1 3) w fun v136_2 w =>
  C.step (sLoad 3 v136_2) w fun v137_2 w =>
  C.calls 15 #[v16_1, v135_2, v137_2] w fun v138_2 w =>
  j_3 [] w)
  (C.step (sFieldAddr 24 v10_1 0) w fun v140_2 w =>
  C.step (sLoad 3 v140_2) w fun v141_2 w =>
  C.step (sBin .eql 3 (.tmp 141) (.const (.int .i64 4)) v141_2 (.int .i64 4)) w fun v142_2 w =>
  C.bool v142_2
  (C.step (sFieldAddr 24 v10_1 2) w fun v144_2 w =>
  C.step (sLoad 3 v144_2) w fun v145_2 w =>
  C.step (sBin .mul 3 (.const (.int .i64 64)) (.tmp 146) (.int .i64 64) (vs_1.getD 0 undef)) w fun v147_2 w =>
  C.step (sBin .gtr 3 (.tmp 145) (.tmp 147) v145_2 v147_2) w fun v148_2 w =>
  C.bool v148_2
  (C.step (sFieldAddr 24 v10_1 2) w fun v151_2 w =>
  C.step (sLoad 3 v151_2) w fun v152_2 w =>
  C.calls 16 #[v16_1, v152_2] w fun v153_2 w =>
  j_3 [] w)
  (j_3 [] w))
  (j_3 [] w)))))
  (flotillalaw08_StableStays_k3 C v16_1 vs_1 v10_1 j_3 w Q))
  (flotillalaw08_StableStays_k3 C v16_1 vs_1 v10_1 j_3 w Q))
  (flotillalaw08_StableStays_k3 C v16_1 vs_1 v10_1 j_3 w Q))
def flotillalaw08_StableStays_j5 (C : Comb) (a1 : Value) (a2 : Value) (v16_1 : Value) (dv_1 : Nat → Value) (vs_1 : List Value) (w : World) (Q : Value → World → Prop) : Prop :=
  C.step (sBin .mul 3 (.const (.int .i64 64)) (.tmp 27) (.int .i64 64) (vs_1.getD 0 undef)) w fun v28_1 w =>
  C.calls 12 #[(.int .i64 64), a1] w fun v30_1 w =>
  C.calls 11 #[v16_1, (.int .i64 0), v28_1, v30_1] w fun v31_1 w =>
  C.step (sBin .neq 28 (.tmp 31) (.const (.int .i64 0)) v31_1 (.int .i64 0)) w fun v32_1 w =>
  C.bool v32_1
  (Q (.bool false) w)
  (C.calls 13 #[v16_1, (.int .i64 0)] w fun v35_1 w =>
  C.step (sBin .neq 28 (.tmp 35) (.const (.int .i64 0)) v35_1 (.int .i64 0)) w fun v36_1 w =>
  C.bool v36_1
  (Q (.bool false) w)
  (C.loop [(.int .i64 0)] w fun dv_2 vs_2 w again_1 =>
  C.step (sBuiltin .len #[22] 3 [false] [a2]) w fun v40_1 w =>
  C.step (sBin .lss 3 (.tmp 38) (.tmp 40) (vs_2.getD 0 undef) v40_1) w fun v41_1 w =>
  C.bool v41_1
  (C.step (sBin .lss 3 (.tmp 43) (.const (.int .i64 60)) (vs_2.getD 0 undef) (.int .i64 60)) w fun v44_1 w =>
  C.bool v44_1
  (C.step (sIndexAddr 22 a2 (vs_2.getD 0 undef)) w fun v50_1 w =>
  C.step (sLoad 24 v50_1) w fun v51_1 w =>
  C.step (sAlloc 24) w fun v10_1 w =>
  C.step (sStore 24 v10_1 v51_1) w fun vx_1 w =>
  C.join (fun dv_3 vs_3 w => flotillalaw08_StableStays_j4 C a1 v16_1 vs_1 vs_2 again_1 v10_1 dv_3 vs_3 w Q) (fun j_2 =>
  C.draw w fun S_7 w =>
  C.stepS S_7 (sFieldAddr 24 v10_1 2) fun v52_1 =>
  C.stepS S_7 (sLoad 3 v52_1) fun v53_1 =>
  C.stepS S_7 (sBin .mul 3 (.const (.int .i64 64)) (.tmp 54) (.int .i64 64) (vs_1.getD 0 undef)) fun v55_1 =>
  C.stepS S_7 (sBin .leq 3 (.tmp 53) (.tmp 55) v53_1 v55_1) fun v56_1 =>
  C.bool v56_1
  (C.stepS S_7 (sFieldAddr 24 v10_1 0) fun v58_1 =>
  C.stepS S_7 (sLoad 3 v58_1) fun v59_1 =>
  C.stepS S_7 (sBin .eql 3 (.tmp 59) (.const (.int .i64 4)) v59_1 (.int .i64 4)) fun v60_1 =>
  C.bool v60_1
  (j_2 [(.bool true)] w)
  (C.stepS S_7 (sLoad 24 v10_1) fun v62_1 =>
  C.stepS S_7 (sBin .mul 3 (.const (.int .i64 64)) (.tmp 64) (.int .i64 64) (vs_1.getD 0 undef)) fun v65_1 =>
  C.stepS S_7 (sFieldAddr 24 v10_1 2) fun v66_1 =>
  C.stepS S_7 (sLoad 3 v66_1) fun v67_1 =>
  C.stepS S_7 (sBin .sub 3 (.tmp 65) (.tmp 67) v65_1 v67_1) fun v68_1 =>
  C.calls 9 #[v62_1] w fun v63_1 w =>
  C.keepS S_7 w fun S_8 =>
  C.stepS S_8 (sBin .gtr 3 (.tmp 63) (.tmp 68) v63_1 v68_1) fun v69_1 =>
  C.bool v69_1
  (j_2 [(.bool true)] w)
  (C.stepS S_8 (sFieldAddr 24 v10_1 2) fun v73_1 =>
  C.stepS S_8 (sLoad 3 v73_1) fun v74_1 =>
  C.stepS S_8 (sBin .mul 3 (.const (.int .i64 64)) (.tmp 75) (.int .i64 64) (vs_1.getD 0 undef)) fun v76_1 =>
  C.stepS S_8 (sBin .gtr 3 (.tmp 74) (.tmp 76) v74_1 v76_1) fun v77_1 =>
  C.bool v77_1
  (C.stepS S_8 (sFieldAddr 24 v10_1 2) fun v79_1 =>
  C.stepS S_8 (sLoad 3 v79_1) fun v80_1 =>
  C.stepS S_8 (sBin .mul 3 (.const (.int .i64 64)) (.tmp 81) (.int .i64 64) (vs_1.getD 0 undef)) fun v82_1 =>
  C.stepS S_8 (sBin .add 3 (.tmp 82) (.const (.int .i64 64)) v82_1 (.int .i64 64)) fun v83_1 =>
  C.stepS S_8 (sBin .lss 3 (.tmp 80) (.tmp 83) v80_1 v83_1) fun v84_1 =>
  C.bool v84_1
  (C.stepS S_8 (sFieldAddr 24 v10_1 0) fun v87_1 =>
  C.stepS S_8 (sLoad 3 v87_1) fun v88_1 =>
  C.stepS S_8 (sBin .neq 3 (.tmp 88) (.const (.int .i64 4)) v88_1 (.int .i64 4)) fun v89_1 =>
  j_2 [v89_1] w)
  (j_2 [(.bool false)] w))
  (j_2 [(.bool false)] w))))
  (C.stepS S_7 (sFieldAddr 24 v10_1 2) fun v73_2 =>
  C.stepS S_7 (sLoad 3 v73_2) fun v74_2 =>
  C.stepS S_7 (sBin .mul 3 (.const (.int .i64 64)) (.tmp 75) (.int .i64 64) (vs_1.getD 0 undef)) fun v76_2 =>
  C.stepS S_7 (sBin .gtr 3 (.tmp 74) (.tmp 76) v74_2 v76_2) fun v77_2 =>
  C.bool v77_2
  (C.stepS S_7 (sFieldAddr 24 v10_1 2) fun v79_2 =>
  C.stepS S_7 (sLoad 3 v79_2) fun v80_2 =>
  C.stepS S_7 (sBin .mul 3 (.const (.int .i64 64)) (.tmp 81) (.int .i64 64) (vs_1.getD 0 undef)) fun v82_2 =>
  C.stepS S_7 (sBin .add 3 (.tmp 82) (.const (.int .i64 64)) v82_2 (.int .i64 64)) fun v83_2 =>
  C.stepS S_7 (sBin .lss 3 (.tmp 80) (.tmp 83) v80_2 v83_2) fun v84_2 =>
  C.bool v84_2
  (C.stepS S_7 (sFieldAddr 24 v10_1 0) fun v87_2 =>
  C.stepS S_7 (sLoad 3 v87_2) fun v88_2 =>
  C.stepS S_7 (sBin .neq 3 (.tmp 88) (.const (.int .i64 4)) v88_2 (.int .i64 4)) fun v89_2 =>
  j_2 [v89_2] w)
  (j_2 [(.bool false)] w))
  (j_2 [(.bool false)] w))))
  (flotillalaw08_StableStays_k1 C w Q))
  (flotillalaw08_StableStays_k1 C w Q)))
def flotillalaw08_StableStays_x (C : Comb) (a0 : Value) (a1 : Value) (a2 : Value) (w : World) (Q : Value → World → Prop) : Prop :=
  C.calls 8 #[(.int .i64 4096)] w fun v15_1 w =>
  C.step (sExtract v15_1 0) w fun v16_1 w =>
  C.step (sExtract v15_1 1) w fun v17_1 w =>
  C.step (sBin .eql 27 (.tmp 18) (.const (.pointer none)) v16_1 (.pointer none)) w fun v19_1 w =>
  C.bool v19_1
  (Q (.bool false) w)
  (C.join (fun dv_1 vs_1 w => flotillalaw08_StableStays_j5 C a1 a2 v16_1 dv_1 vs_1 w Q) (fun j_1 =>
  C.step (sBin .lss 3 (.tmp 20) (.const (.int .i64 0)) a0 (.int .i64 0)) w fun v21_1 w =>
  C.bool v21_1
  (j_1 [(.int .i64 0)] w)
  (C.step (sBin .gtr 3 (.tmp 23) (.const (.int .i64 63)) a0 (.int .i64 63)) w fun v24_1 w =>
  C.bool v24_1
  (j_1 [(.int .i64 0)] w)
  (j_1 [a0] w))))
theorem flotillalaw08_StableStays_eq (C : Comb) (a0 : Value) (a1 : Value) (a2 : Value) (w : World) (Q : Value → World → Prop) : flotillalaw08_StableStays_x C a0 a1 a2 w Q = FunY Try.prog C 2 [6, 13, 21] Try.f4 [a0, a1, a2] w Q := by kernel_rfl
theorem flotillalaw08_StableStays_sound (a0 : Value) (a1 : Value) (a2 : Value) {w : World} {Q : Value → World → Prop} (h : flotillalaw08_StableStays_x (std Try.prog) a0 a1 a2 w Q) : CallsR Try.prog 4 #[a0, a1, a2] w Q :=
  calls_of_funY mixed Try.func4 (Eq.mp (flotillalaw08_StableStays_eq _ a0 a1 a2 w Q) h)

def flotillalaw08_StableApart_k2 (C : Comb) (w : World) (Q : Value → World → Prop) : Prop :=
  Q (.bool false) w
def flotillalaw08_StableApart_k3 (C : Comb) (w : World) (Q : Value → World → Prop) : Prop :=
  Q (.bool false) w
def flotillalaw08_StableApart_k1 (C : Comb) (a2 : Value) (v3_1 : Value) (v4_1 : Value) (w : World) (Q : Value → World → Prop) : Prop :=
  C.calls 8 #[(.int .i64 4096)] w fun v75_1 w =>
  C.step (sExtract v75_1 0) w fun v76_1 w =>
  C.step (sExtract v75_1 1) w fun v77_1 w =>
  C.step (sBin .eql 27 (.tmp 78) (.const (.pointer none)) v76_1 (.pointer none)) w fun v79_1 w =>
  C.bool v79_1
  (Q (.bool false) w)
  (C.draw w fun S_1 w =>
  C.stepS S_1 (sLoad 24 v3_1) fun v80_1 =>
  C.stepS S_1 (sFieldAddr 24 v3_1 4) fun v82_1 =>
  C.stepS S_1 (sLoad 5 v82_1) fun v83_1 =>
  C.stepS S_1 (sLoad 24 v4_1) fun v85_1 =>
  C.stepS S_1 (sFieldAddr 24 v4_1 4) fun v87_1 =>
  C.stepS S_1 (sLoad 5 v87_1) fun v88_1 =>
  C.calls 9 #[v80_1] w fun v81_1 w =>
  C.keepS S_1 w fun S_2 =>
  C.calls 12 #[v81_1, v83_1] w fun v84_1 w =>
  C.keepS S_2 w fun S_3 =>
  C.calls 9 #[v85_1] w fun v86_1 w =>
  C.keepS S_3 w fun S_4 =>
  C.calls 12 #[v86_1, v88_1] w fun v89_1 w =>
  C.keepT w fun S_5 =>
  C.step (sFieldAddr 24 v3_1 1) w fun v91_1 w =>
  C.step (sLoad 3 v91_1) w fun v92_1 w =>
  C.step (sFieldAddr 24 v3_1 2) w fun v93_1 w =>
  C.step (sLoad 3 v93_1) w fun v94_1 w =>
  C.calls 11 #[v76_1, v92_1, v94_1, v84_1] w fun v96_1 w =>
  C.step (sBin .neq 28 (.tmp 96) (.const (.int .i64 0)) v96_1 (.int .i64 0)) w fun v97_1 w =>
  C.bool v97_1
  (C.calls 10 #[] w fun v108_1 w =>
  Q v108_1 w)
  (C.step (sFieldAddr 24 v4_1 1) w fun v100_1 w =>
  C.step (sLoad 3 v100_1) w fun v101_1 w =>
  C.step (sFieldAddr 24 v4_1 2) w fun v102_1 w =>
  C.step (sLoad 3 v102_1) w fun v103_1 w =>
  C.calls 11 #[v76_1, v101_1, v103_1, v89_1] w fun v105_1 w =>
  C.step (sBin .neq 28 (.tmp 105) (.const (.int .i64 0)) v105_1 (.int .i64 0)) w fun v106_1 w =>
  C.bool v106_1
  (C.calls 10 #[] w fun v108_2 w =>
  Q v108_2 w)
  (C.calls 17 #[v76_1] w fun v110_1 w =>
  C.step (sBin .eql 27 (.tmp 111) (.const (.pointer none)) v110_1 (.pointer none)) w fun v112_1 w =>
  C.bool v112_1
  (flotillalaw08_StableApart_k2 C w Q)
  (C.step (sFieldAddr 24 v3_1 1) w fun v115_1 w =>
  C.step (sLoad 3 v115_1) w fun v116_1 w =>
  C.calls 15 #[v76_1, v116_1, a2] w fun v118_1 w =>
  C.step (sBin .neq 28 (.tmp 118) (.const (.int .i64 0)) v118_1 (.int .i64 0)) w fun v119_1 w =>
  C.bool v119_1
  (flotillalaw08_StableApart_k2 C w Q)
  (C.step (sFieldAddr 24 v4_1 1) w fun v123_1 w =>
  C.step (sLoad 3 v123_1) w fun v124_1 w =>
  C.calls 13 #[v76_1, v124_1] w fun v125_1 w =>
  C.step (sBin .neq 28 (.tmp 125) (.const (.int .i64 0)) v125_1 (.int .i64 0)) w fun v126_1 w =>
  C.bool v126_1
  (flotillalaw08_StableApart_k2 C w Q)
  (C.step (sFieldAddr 24 v4_1 1) w fun v130_1 w =>
  C.step (sLoad 3 v130_1) w fun v131_1 w =>
  C.calls 13 #[v110_1, v131_1] w fun v132_1 w =>
  C.step (sBin .neq 28 (.tmp 132) (.const (.int .i64 0)) v132_1 (.int .i64 0)) w fun v133_1 w =>
  C.bool v133_1
  (flotillalaw08_StableApart_k2 C w Q)
  (C.step (sFieldAddr 24 v3_1 1) w fun v137_1 w =>
  C.step (sLoad 3 v137_1) w fun v138_1 w =>
  C.calls 15 #[v110_1, v138_1, a2] w fun v140_1 w =>
  C.step (sBin .neq 28 (.tmp 140) (.const (.int .i64 0)) v140_1 (.int .i64 0)) w fun v141_1 w =>
  C.bool v141_1
  (Q (.bool false) w)
  (C.calls 14 #[v76_1, (.int .i64 0), (.int .i64 4096)] w fun v145_1 w =>
  C.step (sExtract v145_1 0) w fun v146_1 w =>
  C.step (sExtract v145_1 1) w fun v147_1 w =>
  C.calls 14 #[v110_1, (.int .i64 0), (.int .i64 4096)] w fun v150_1 w =>
  C.step (sExtract v150_1 0) w fun v151_1 w =>
  C.step (sExtract v150_1 1) w fun v152_1 w =>
  C.draw w fun S_6 w =>
  C.stepS S_6 (sFieldAddr 24 v4_1 2) fun v155_1 =>
  C.stepS S_6 (sLoad 3 v155_1) fun v156_1 =>
  C.stepS S_6 (sLoad 24 v4_1) fun v157_1 =>
  C.calls 9 #[v157_1] w fun v158_1 w =>
  C.keepS S_6 w fun S_7 =>
  C.calls 14 #[v76_1, v156_1, v158_1] w fun v159_1 w =>
  C.keepT w fun S_8 =>
  C.stepS S_8 (sExtract v159_1 0) fun v160_1 =>
  C.stepS S_8 (sExtract v159_1 1) fun v161_1 =>
  C.step (sConv 34 9 v146_1) w fun v163_1 w =>
  C.step (sConv 34 9 v151_1) w fun v165_1 w =>
  C.step (sBin .eql 9 (.tmp 163) (.tmp 165) v163_1 v165_1) w fun v166_1 w =>
  C.bool v166_1
  (C.step (sConv 34 9 v160_1) w fun v169_1 w =>
  C.step (sConv 34 9 v89_1) w fun v171_1 w =>
  C.step (sBin .eql 9 (.tmp 169) (.tmp 171) v169_1 v171_1) w fun v172_1 w =>
  C.bool v172_1
  (C.calls 10 #[] w fun v175_1 w =>
  Q v175_1 w)
  (flotillalaw08_StableApart_k3 C w Q))
  (flotillalaw08_StableApart_k3 C w Q)))))))))
def flotillalaw08_StableApart_k4 (C : Comb) (w : World) (Q : Value → World → Prop) : Prop :=
  C.calls 10 #[] w fun v73_1 w =>
  Q v73_1 w
def flotillalaw08_StableApart_x (C : Comb) (a0 : Value) (a1 : Value) (a2 : Value) (w : World) (Q : Value → World → Prop) : Prop :=
  C.step (sBox 24 a0) w fun v3_1 w =>
  C.step (sBox 24 a1) w fun v4_1 w =>
  C.draw w fun S_9 w =>
  C.stepS S_9 (sLoad 24 v3_1) fun v18_1 =>
  C.calls 9 #[v18_1] w fun v19_1 w =>
  C.keepT w fun S_10 =>
  C.stepS S_10 (sBin .lss 3 (.tmp 19) (.const (.int .i64 0)) v19_1 (.int .i64 0)) fun v20_1 =>
  C.bool v20_1
  (flotillalaw08_StableApart_k4 C w Q)
  (C.stepS S_10 (sLoad 24 v4_1) fun v22_1 =>
  C.calls 9 #[v22_1] w fun v23_1 w =>
  C.keepT w fun S_11 =>
  C.stepS S_11 (sBin .lss 3 (.tmp 23) (.const (.int .i64 0)) v23_1 (.int .i64 0)) fun v24_1 =>
  C.bool v24_1
  (flotillalaw08_StableApart_k4 C w Q)
  (C.stepS S_11 (sFieldAddr 24 v3_1 1) fun v27_1 =>
  C.stepS S_11 (sLoad 3 v27_1) fun v28_1 =>
  C.stepS S_11 (sFieldAddr 24 v4_1 1) fun v29_1 =>
  C.stepS S_11 (sLoad 3 v29_1) fun v30_1 =>
  C.stepS S_11 (sBin .eql 3 (.tmp 28) (.tmp 30) v28_1 v30_1) fun v31_1 =>
  C.bool v31_1
  (flotillalaw08_StableApart_k4 C w Q)
  (C.stepS S_11 (sFieldAddr 24 v3_1 2) fun v34_1 =>
  C.stepS S_11 (sLoad 3 v34_1) fun v35_1 =>
  C.stepS S_11 (sBin .lss 3 (.tmp 35) (.const (.int .i64 0)) v35_1 (.int .i64 0)) fun v36_1 =>
  C.bool v36_1
  (flotillalaw08_StableApart_k4 C w Q)
  (C.stepS S_11 (sFieldAddr 24 v4_1 2) fun v39_1 =>
  C.stepS S_11 (sLoad 3 v39_1) fun v40_1 =>
  C.stepS S_11 (sBin .lss 3 (.tmp 40) (.const (.int .i64 0)) v40_1 (.int .i64 0)) fun v41_1 =>
  C.bool v41_1
  (flotillalaw08_StableApart_k4 C w Q)
  (C.stepS S_11 (sFieldAddr 24 v3_1 2) fun v44_1 =>
  C.stepS S_11 (sLoad 3 v44_1) fun v45_1 =>
  C.stepS S_11 (sBin .gtr 3 (.tmp 45) (.const (.int .i64 4096)) v45_1 (.int .i64 4096)) fun v46_1 =>
  C.bool v46_1
  (flotillalaw08_StableApart_k4 C w Q)
  (C.stepS S_11 (sFieldAddr 24 v4_1 2) fun v49_1 =>
  C.stepS S_11 (sLoad 3 v49_1) fun v50_1 =>
  C.stepS S_11 (sBin .gtr 3 (.tmp 50) (.const (.int .i64 4096)) v50_1 (.int .i64 4096)) fun v51_1 =>
  C.bool v51_1
  (flotillalaw08_StableApart_k4 C w Q)
  (C.stepS S_11 (sFieldAddr 24 v3_1 2) fun v54_1 =>
  C.stepS S_11 (sLoad 3 v54_1) fun v55_1 =>
  C.stepS S_11 (sFieldAddr 24 v4_1 2) fun v56_1 =>
  C.stepS S_11 (sLoad 3 v56_1) fun v57_1 =>
  C.stepS S_11 (sLoad 24 v4_1) fun v58_1 =>
  C.calls 9 #[v58_1] w fun v59_1 w =>
  C.keepS S_11 w fun S_12 =>
  C.stepS S_12 (sBin .add 3 (.tmp 57) (.tmp 59) v57_1 v59_1) fun v60_1 =>
  C.stepS S_12 (sBin .lss 3 (.tmp 55) (.tmp 60) v55_1 v60_1) fun v61_1 =>
  C.bool v61_1
  (C.stepS S_12 (sFieldAddr 24 v4_1 2) fun v63_1 =>
  C.stepS S_12 (sLoad 3 v63_1) fun v64_1 =>
  C.stepS S_12 (sFieldAddr 24 v3_1 2) fun v65_1 =>
  C.stepS S_12 (sLoad 3 v65_1) fun v66_1 =>
  C.stepS S_12 (sLoad 24 v3_1) fun v67_1 =>
  C.calls 9 #[v67_1] w fun v68_1 w =>
  C.keepS S_12 w fun S_13 =>
  C.stepS S_13 (sBin .add 3 (.tmp 66) (.tmp 68) v66_1 v68_1) fun v69_1 =>
  C.stepS S_13 (sBin .lss 3 (.tmp 64) (.tmp 69) v64_1 v69_1) fun v70_1 =>
  C.bool v70_1
  (C.calls 10 #[] w fun v73_2 w =>
  Q v73_2 w)
  (flotillalaw08_StableApart_k1 C a2 v3_1 v4_1 w Q))
  (flotillalaw08_StableApart_k1 C a2 v3_1 v4_1 w Q))))))))
theorem flotillalaw08_StableApart_eq (C : Comb) (a0 : Value) (a1 : Value) (a2 : Value) (w : World) (Q : Value → World → Prop) : flotillalaw08_StableApart_x C a0 a1 a2 w Q = FunY Try.prog C 2 [] Try.f5 [a0, a1, a2] w Q := by kernel_rfl
theorem flotillalaw08_StableApart_sound (a0 : Value) (a1 : Value) (a2 : Value) {w : World} {Q : Value → World → Prop} (h : flotillalaw08_StableApart_x (std Try.prog) a0 a1 a2 w Q) : CallsR Try.prog 5 #[a0, a1, a2] w Q :=
  calls_of_funY mixed Try.func5 (Eq.mp (flotillalaw08_StableApart_eq _ a0 a1 a2 w Q) h)

def flotillalaw08_StableClones_k1 (C : Comb) (w : World) (Q : Value → World → Prop) : Prop :=
  C.calls 10 #[] w fun v41_1 w =>
  Q v41_1 w
def flotillalaw08_StableClones_k3 (C : Comb) (w : World) (Q : Value → World → Prop) : Prop :=
  Q (.bool false) w
def flotillalaw08_StableClones_k5 (C : Comb) (w : World) (Q : Value → World → Prop) : Prop :=
  Q (.bool false) w
def flotillalaw08_StableClones_k4 (C : Comb) (v5_1 : Value) (v28_1 : Value) (w : World) (Q : Value → World → Prop) : Prop :=
  C.step (sFieldAddr 24 v5_1 1) w fun v214_1 w =>
  C.step (sLoad 3 v214_1) w fun v215_1 w =>
  C.calls 13 #[v28_1, v215_1] w fun v216_1 w =>
  C.step (sBin .neq 28 (.tmp 216) (.const (.int .i64 0)) v216_1 (.int .i64 0)) w fun v217_1 w =>
  C.bool v217_1
  (Q (.bool false) w)
  (C.draw w fun S_12 w =>
  C.stepS S_12 (sFieldAddr 24 v5_1 2) fun v220_1 =>
  C.stepS S_12 (sLoad 3 v220_1) fun v221_1 =>
  C.stepS S_12 (sLoad 24 v5_1) fun v222_1 =>
  C.calls 9 #[v222_1] w fun v223_1 w =>
  C.keepS S_12 w fun S_13 =>
  C.calls 14 #[v28_1, v221_1, v223_1] w fun v224_1 w =>
  C.keepT w fun S_14 =>
  C.stepS S_14 (sExtract v224_1 0) fun v225_1 =>
  C.stepS S_14 (sExtract v224_1 1) fun v226_1 =>
  C.draw w fun S_15 w =>
  C.stepS S_15 (sBin .eql 28 (.tmp 227) (.const (.int .i64 0)) v226_1 (.int .i64 0)) fun v228_1 =>
  C.bool v228_1
  (C.stepS S_15 (sConv 34 9 v225_1) fun v231_1 =>
  C.stepS S_15 (sLoad 24 v5_1) fun v232_1 =>
  C.stepS S_15 (sFieldAddr 24 v5_1 4) fun v234_1 =>
  C.stepS S_15 (sLoad 5 v234_1) fun v235_1 =>
  C.calls 9 #[v232_1] w fun v233_1 w =>
  C.keepS S_15 w fun S_16 =>
  C.calls 12 #[v233_1, v235_1] w fun v236_1 w =>
  C.keepS S_16 w fun S_17 =>
  C.stepS S_17 (sConv 34 9 v236_1) fun v237_1 =>
  C.stepS S_17 (sBin .eql 9 (.tmp 231) (.tmp 237) v231_1 v237_1) fun v238_1 =>
  C.bool v238_1
  (C.calls 10 #[] w fun v241_1 w =>
  C.keepT w fun S_18 =>
  Q v241_1 w)
  (flotillalaw08_StableClones_k5 C w Q))
  (flotillalaw08_StableClones_k5 C w Q))
def flotillalaw08_StableClones_k2 (C : Comb) (a0 : Value) (v5_1 : Value) (v28_1 : Value) (w : World) (Q : Value → World → Prop) : Prop :=
  C.calls 17 #[v28_1] w fun v103_1 w =>
  C.step (sBin .eql 27 (.tmp 104) (.const (.pointer none)) v103_1 (.pointer none)) w fun v105_1 w =>
  C.bool v105_1
  (Q (.bool false) w)
  (C.calls 14 #[v28_1, (.int .i64 0), a0] w fun v109_1 w =>
  C.step (sExtract v109_1 0) w fun v110_1 w =>
  C.step (sExtract v109_1 1) w fun v111_1 w =>
  C.step (sFieldAddr 24 v5_1 1) w fun v114_1 w =>
  C.step (sLoad 3 v114_1) w fun v115_1 w =>
  C.calls 18 #[v28_1, v115_1] w fun v116_1 w =>
  C.step (sExtract v116_1 0) w fun v117_1 w =>
  C.step (sExtract v116_1 1) w fun v118_1 w =>
  C.step (sExtract v116_1 2) w fun v119_1 w =>
  C.step (sFieldAddr 24 v5_1 1) w fun v121_1 w =>
  C.step (sLoad 3 v121_1) w fun v122_1 w =>
  C.calls 13 #[v103_1, v122_1] w fun v123_1 w =>
  C.calls 16 #[v103_1, (.int .i64 0)] w fun v125_1 w =>
  C.draw w fun S_1 w =>
  C.stepS S_1 (sFieldAddr 24 v5_1 1) fun v127_1 =>
  C.stepS S_1 (sLoad 3 v127_1) fun v128_1 =>
  C.stepS S_1 (sFieldAddr 24 v5_1 2) fun v129_1 =>
  C.stepS S_1 (sLoad 3 v129_1) fun v130_1 =>
  C.stepS S_1 (sLoad 24 v5_1) fun v131_1 =>
  C.stepS S_1 (sFieldAddr 24 v5_1 4) fun v133_1 =>
  C.stepS S_1 (sLoad 5 v133_1) fun v134_1 =>
  C.calls 9 #[v131_1] w fun v132_1 w =>
  C.keepS S_1 w fun S_2 =>
  C.calls 12 #[v132_1, v134_1] w fun v135_1 w =>
  C.keepS S_2 w fun S_3 =>
  C.calls 11 #[v103_1, v128_1, v130_1, v135_1] w fun v136_1 w =>
  C.keepT w fun S_4 =>
  C.calls 14 #[v28_1, (.int .i64 0), a0] w fun v140_1 w =>
  C.step (sExtract v140_1 0) w fun v141_1 w =>
  C.step (sExtract v140_1 1) w fun v142_1 w =>
  C.step (sFieldAddr 24 v5_1 1) w fun v145_1 w =>
  C.step (sLoad 3 v145_1) w fun v146_1 w =>
  C.calls 18 #[v28_1, v146_1] w fun v147_1 w =>
  C.step (sExtract v147_1 0) w fun v148_1 w =>
  C.step (sExtract v147_1 1) w fun v149_1 w =>
  C.step (sExtract v147_1 2) w fun v150_1 w =>
  C.step (sBin .neq 28 (.tmp 151) (.const (.int .i64 0)) v142_1 (.int .i64 0)) w fun v152_1 w =>
  C.bool v152_1
  (flotillalaw08_StableClones_k3 C w Q)
  (C.step (sConv 34 9 v141_1) w fun v155_1 w =>
  C.step (sConv 34 9 v110_1) w fun v157_1 w =>
  C.step (sBin .neq 9 (.tmp 155) (.tmp 157) v155_1 v157_1) w fun v158_1 w =>
  C.bool v158_1
  (flotillalaw08_StableClones_k3 C w Q)
  (C.step (sBin .neq 3 (.tmp 161) (.tmp 162) v148_1 v117_1) w fun v163_1 w =>
  C.bool v163_1
  (flotillalaw08_StableClones_k3 C w Q)
  (C.step (sBin .neq 3 (.tmp 166) (.tmp 167) v149_1 v118_1) w fun v168_1 w =>
  C.bool v168_1
  (flotillalaw08_StableClones_k3 C w Q)
  (C.step (sBin .neq 4 (.tmp 171) (.tmp 172) v150_1 v119_1) w fun v173_1 w =>
  C.bool v173_1
  (Q (.bool false) w)
  (C.bool v119_1
  (C.draw w fun S_5 w =>
  C.stepS S_5 (sFieldAddr 24 v5_1 1) fun v177_1 =>
  C.stepS S_5 (sLoad 3 v177_1) fun v178_1 =>
  C.calls 12 #[(.int .i64 64), (.int .u8 1)] w fun v179_1 w =>
  C.keepS S_5 w fun S_6 =>
  C.calls 11 #[v28_1, v178_1, (.int .i64 0), v179_1] w fun v180_1 w =>
  C.keepT w fun S_7 =>
  C.stepS S_7 (sBin .neq 28 (.tmp 180) (.const (.int .i64 0)) v180_1 (.int .i64 0)) fun v181_1 =>
  C.bool v181_1
  (C.calls 10 #[] w fun v183_1 w =>
  C.keepT w fun S_8 =>
  Q v183_1 w)
  (Q (.bool false) w))
  (C.draw w fun S_9 w =>
  C.stepS S_9 (sLoad 24 v5_1) fun v185_1 =>
  C.stepS S_9 (sFieldAddr 24 v5_1 4) fun v187_1 =>
  C.stepS S_9 (sLoad 5 v187_1) fun v188_1 =>
  C.calls 9 #[v185_1] w fun v186_1 w =>
  C.keepS S_9 w fun S_10 =>
  C.calls 12 #[v186_1, v188_1] w fun v189_1 w =>
  C.keepT w fun S_11 =>
  C.step (sFieldAddr 24 v5_1 1) w fun v191_1 w =>
  C.step (sLoad 3 v191_1) w fun v192_1 w =>
  C.step (sFieldAddr 24 v5_1 2) w fun v193_1 w =>
  C.step (sLoad 3 v193_1) w fun v194_1 w =>
  C.calls 11 #[v28_1, v192_1, v194_1, v189_1] w fun v196_1 w =>
  C.step (sBin .neq 28 (.tmp 196) (.const (.int .i64 0)) v196_1 (.int .i64 0)) w fun v197_1 w =>
  C.bool v197_1
  (C.calls 10 #[] w fun v198_1 w =>
  Q v198_1 w)
  (C.loop [(.int .i64 0)] w fun dv_1 vs_1 w again_1 =>
  C.step (sBuiltin .len #[34] 3 [false] [v189_1]) w fun v201_1 w =>
  C.step (sBin .lss 3 (.tmp 199) (.tmp 201) (vs_1.getD 0 undef) v201_1) w fun v202_1 w =>
  C.bool v202_1
  (C.step (sIndexAddr 34 v189_1 (vs_1.getD 0 undef)) w fun v209_1 w =>
  C.step (sLoad 5 v209_1) w fun v210_1 w =>
  C.step (sBin .xor 5 (.tmp 210) (.const (.int .u8 255)) v210_1 (.int .u8 255)) w fun v211_1 w =>
  C.step (sIndexAddr 34 v189_1 (vs_1.getD 0 undef)) w fun v212_1 w =>
  C.step (sStore 5 v212_1 v211_1) w fun vx_1 w =>
  C.step (sBin .add 3 (.tmp 203) (.const (.int .i64 1)) (vs_1.getD 0 undef) (.int .i64 1)) w fun v204_1 w =>
  again_1 [v204_1] w)
  (flotillalaw08_StableClones_k4 C v5_1 v28_1 w Q)))))))))
def flotillalaw08_StableClones_k6 (C : Comb) (vs_2 : List Value) (again_2 : List Value → World → Prop) (w : World) (Q : Value → World → Prop) : Prop :=
  C.step (sBin .add 3 (.tmp 50) (.const (.int .i64 1)) (vs_2.getD 0 undef) (.int .i64 1)) w fun v51_1 w =>
  again_2 [v51_1] w
def flotillalaw08_StableClones_j7 (C : Comb) (a1 : Value) (v28_1 : Value) (vs_2 : List Value) (again_2 : List Value → World → Prop) (dv_3 : Nat → Value) (vs_3 : List Value) (w : World) (Q : Value → World → Prop) : Prop :=
  C.step (sIndexAddr 22 a1 (vs_2.getD 0 undef)) w fun v91_1 w =>
  C.step (sFieldAddr 24 v91_1 0) w fun v92_1 w =>
  C.step (sLoad 3 v92_1) w fun v93_1 w =>
  C.step (sBin .eql 3 (.tmp 93) (.const (.int .i64 1)) v93_1 (.int .i64 1)) w fun v94_1 w =>
  C.bool v94_1
  (C.step (sIndexAddr 22 a1 (vs_2.getD 0 undef)) w fun v98_1 w =>
  C.step (sFieldAddr 24 v98_1 1) w fun v99_1 w =>
  C.step (sLoad 3 v99_1) w fun v100_1 w =>
  C.calls 13 #[v28_1, v100_1] w fun v101_1 w =>
  flotillalaw08_StableClones_k6 C vs_2 again_2 w Q)
  (flotillalaw08_StableClones_k6 C vs_2 again_2 w Q)
def flotillalaw08_StableClones_x (C : Comb) (a0 : Value) (a1 : Value) (a2 : Value) (w : World) (Q : Value → World → Prop) : Prop :=
  C.step (sBox 24 a2) w fun v5_1 w =>
  C.calls 8 #[a0] w fun v27_1 w =>
  C.step (sExtract v27_1 0) w fun v28_1 w =>
  C.step (sExtract v27_1 1) w fun v29_1 w =>
  C.step (sBin .neq 28 (.tmp 30) (.const (.int .i64 0)) v29_1 (.int .i64 0)) w fun v31_1 w =>
  C.bool v31_1
  (flotillalaw08_StableClones_k1 C w Q)
  (C.step (sBin .gtr 3 (.tmp 33) (.const (.int .i64 4096)) a0 (.int .i64 4096)) w fun v34_1 w =>
  C.bool v34_1
  (flotillalaw08_StableClones_k1 C w Q)
  (C.step (sLoad 24 v5_1) w fun v37_1 w =>
  C.calls 9 #[v37_1] w fun v38_1 w =>
  C.step (sBin .lss 3 (.tmp 38) (.const (.int .i64 0)) v38_1 (.int .i64 0)) w fun v39_1 w =>
  C.bool v39_1
  (C.calls 10 #[] w fun v41_2 w =>
  Q v41_2 w)
  (C.loop [(.int .i64 0)] w fun dv_2 vs_2 w again_2 =>
  C.step (sBuiltin .len #[22] 3 [false] [a1]) w fun v44_1 w =>
  C.step (sBin .lss 3 (.tmp 42) (.tmp 44) (vs_2.getD 0 undef) v44_1) w fun v45_1 w =>
  C.bool v45_1
  (C.step (sBin .lss 3 (.tmp 47) (.const (.int .i64 60)) (vs_2.getD 0 undef) (.int .i64 60)) w fun v48_1 w =>
  C.bool v48_1
  (C.join (fun dv_3 vs_3 w => flotillalaw08_StableClones_j7 C a1 v28_1 vs_2 again_2 dv_3 vs_3 w Q) (fun j_1 =>
  C.step (sIndexAddr 22 a1 (vs_2.getD 0 undef)) w fun v54_1 w =>
  C.step (sFieldAddr 24 v54_1 0) w fun v55_1 w =>
  C.step (sLoad 3 v55_1) w fun v56_1 w =>
  C.step (sBin .eql 3 (.tmp 56) (.const (.int .i64 0)) v56_1 (.int .i64 0)) w fun v57_1 w =>
  C.bool v57_1
  (C.step (sIndexAddr 22 a1 (vs_2.getD 0 undef)) w fun v61_1 w =>
  C.step (sLoad 24 v61_1) w fun v62_1 w =>
  C.calls 9 #[v62_1] w fun v63_1 w =>
  C.step (sBin .geq 3 (.tmp 63) (.const (.int .i64 0)) v63_1 (.int .i64 0)) w fun v64_1 w =>
  C.bool v64_1
  (C.draw w fun S_19 w =>
  C.stepS S_19 (sIndexAddr 22 a1 (vs_2.getD 0 undef)) fun v69_1 =>
  C.stepS S_19 (sFieldAddr 24 v69_1 1) fun v70_1 =>
  C.stepS S_19 (sLoad 3 v70_1) fun v71_1 =>
  C.stepS S_19 (sIndexAddr 22 a1 (vs_2.getD 0 undef)) fun v74_1 =>
  C.stepS S_19 (sFieldAddr 24 v74_1 2) fun v75_1 =>
  C.stepS S_19 (sLoad 3 v75_1) fun v76_1 =>
  C.stepS S_19 (sIndexAddr 22 a1 (vs_2.getD 0 undef)) fun v79_1 =>
  C.stepS S_19 (sLoad 24 v79_1) fun v80_1 =>
  C.stepS S_19 (sIndexAddr 22 a1 (vs_2.getD 0 undef)) fun v84_1 =>
  C.stepS S_19 (sFieldAddr 24 v84_1 4) fun v85_1 =>
  C.stepS S_19 (sLoad 5 v85_1) fun v86_1 =>
  C.calls 9 #[v80_1] w fun v81_1 w =>
  C.keepS S_19 w fun S_20 =>
  C.calls 12 #[v81_1, v86_1] w fun v87_1 w =>
  C.keepS S_20 w fun S_21 =>
  C.calls 11 #[v28_1, v71_1, v76_1, v87_1] w fun v88_1 w =>
  C.keepT w fun S_22 =>
  j_1 [] w)
  (j_1 [] w))
  (j_1 [] w)))
  (flotillalaw08_StableClones_k2 C a0 v5_1 v28_1 w Q))
  (flotillalaw08_StableClones_k2 C a0 v5_1 v28_1 w Q))))
theorem flotillalaw08_StableClones_eq (C : Comb) (a0 : Value) (a1 : Value) (a2 : Value) (w : World) (Q : Value → World → Prop) : flotillalaw08_StableClones_x C a0 a1 a2 w Q = FunY Try.prog C 2 [9] Try.f6 [a0, a1, a2] w Q := by kernel_rfl
theorem flotillalaw08_StableClones_sound (a0 : Value) (a1 : Value) (a2 : Value) {w : World} {Q : Value → World → Prop} (h : flotillalaw08_StableClones_x (std Try.prog) a0 a1 a2 w Q) : CallsR Try.prog 6 #[a0, a1, a2] w Q :=
  calls_of_funY mixed Try.func6 (Eq.mp (flotillalaw08_StableClones_eq _ a0 a1 a2 w Q) h)

def flotillalaw08_StableNews_k1 (C : Comb) (w : World) (Q : Value → World → Prop) : Prop :=
  Q (.bool false) w
def flotillalaw08_StableNews_k2 (C : Comb) (w : World) (Q : Value → World → Prop) : Prop :=
  Q (.bool false) w
def flotillalaw08_StableNews_x (C : Comb) (a0 : Value) (w : World) (Q : Value → World → Prop) : Prop :=
  C.calls 8 #[a0] w fun v15_1 w =>
  C.step (sExtract v15_1 0) w fun v16_1 w =>
  C.step (sExtract v15_1 1) w fun v17_1 w =>
  C.calls 19 #[a0] w fun v20_1 w =>
  C.step (sExtract v20_1 0) w fun v21_1 w =>
  C.step (sExtract v20_1 1) w fun v22_1 w =>
  C.step (sAlloc 51) w fun v5_1 w =>
  C.step (sStore 51 v5_1 v21_1) w fun vx_1 w =>
  C.step (sUn .not v22_1) w fun v24_1 w =>
  C.bool v24_1
  (C.step (sBin .eql 27 (.tmp 25) (.const (.pointer none)) v16_1 (.pointer none)) w fun v26_1 w =>
  C.bool v26_1
  (C.step (sBin .eql 28 (.tmp 28) (.const (.int .i64 1)) v17_1 (.int .i64 1)) w fun v29_1 w =>
  C.bool v29_1
  (C.calls 10 #[] w fun v32_1 w =>
  Q v32_1 w)
  (flotillalaw08_StableNews_k1 C w Q))
  (flotillalaw08_StableNews_k1 C w Q))
  (C.calls 14 #[(.pointer none), (.int .i64 0), (.int .i64 0)] w fun v36_1 w =>
  C.step (sExtract v36_1 0) w fun v37_1 w =>
  C.step (sExtract v36_1 1) w fun v38_1 w =>
  C.calls 18 #[(.pointer none), (.int .i64 0)] w fun v41_1 w =>
  C.step (sExtract v41_1 0) w fun v42_1 w =>
  C.step (sExtract v41_1 1) w fun v43_1 w =>
  C.step (sExtract v41_1 2) w fun v44_1 w =>
  C.step (sBin .neq 27 (.tmp 45) (.const (.pointer none)) v16_1 (.pointer none)) w fun v46_1 w =>
  C.bool v46_1
  (C.step (sBin .eql 28 (.tmp 48) (.const (.int .i64 0)) v17_1 (.int .i64 0)) w fun v49_1 w =>
  C.bool v49_1
  (C.step (sLoad 51 v5_1) w fun v53_1 w =>
  C.calls 20 #[v16_1, v53_1] w fun v54_1 w =>
  C.bool v54_1
  (C.step (sBuiltin .len #[34] 3 [false] [v37_1]) w fun v58_1 w =>
  C.step (sBin .eql 3 (.tmp 58) (.const (.int .i64 0)) v58_1 (.int .i64 0)) w fun v59_1 w =>
  C.bool v59_1
  (C.step (sBin .eql 28 (.tmp 62) (.const (.int .i64 1)) v38_1 (.int .i64 1)) w fun v63_1 w =>
  C.bool v63_1
  (C.step (sUn .not v44_1) w fun v67_1 w =>
  C.bool v67_1
  (C.calls 21 #[(.pointer none)] w fun v71_1 w =>
  C.step (sBin .eql 3 (.tmp 71) (.const (.int .i64 0)) v71_1 (.int .i64 0)) w fun v72_1 w =>
  C.bool v72_1
  (C.calls 12 #[(.int .i64 64), (.int .u8 1)] w fun v76_1 w =>
  C.calls 11 #[(.pointer none), (.int .i64 0), (.int .i64 0), v76_1] w fun v77_1 w =>
  C.step (sBin .eql 28 (.tmp 77) (.const (.int .i64 1)) v77_1 (.int .i64 1)) w fun v78_1 w =>
  C.bool v78_1
  (C.calls 13 #[(.pointer none), (.int .i64 0)] w fun v82_1 w =>
  C.step (sBin .eql 28 (.tmp 82) (.const (.int .i64 1)) v82_1 (.int .i64 1)) w fun v83_1 w =>
  C.bool v83_1
  (C.calls 15 #[(.pointer none), (.int .i64 0), (.int .i64 1)] w fun v87_1 w =>
  C.step (sBin .eql 28 (.tmp 87) (.const (.int .i64 1)) v87_1 (.int .i64 1)) w fun v88_1 w =>
  C.bool v88_1
  (C.calls 16 #[(.pointer none), (.int .i64 0)] w fun v92_1 w =>
  C.step (sBin .eql 28 (.tmp 92) (.const (.int .i64 1)) v92_1 (.int .i64 1)) w fun v93_1 w =>
  C.bool v93_1
  (C.calls 17 #[(.pointer none)] w fun v97_1 w =>
  C.step (sBin .eql 27 (.tmp 97) (.const (.pointer none)) v97_1 (.pointer none)) w fun v98_1 w =>
  C.bool v98_1
  (C.calls 10 #[] w fun v101_1 w =>
  Q v101_1 w)
  (flotillalaw08_StableNews_k2 C w Q))
  (flotillalaw08_StableNews_k2 C w Q))
  (flotillalaw08_StableNews_k2 C w Q))
  (flotillalaw08_StableNews_k2 C w Q))
  (flotillalaw08_StableNews_k2 C w Q))
  (flotillalaw08_StableNews_k2 C w Q))
  (flotillalaw08_StableNews_k2 C w Q))
  (flotillalaw08_StableNews_k2 C w Q))
  (flotillalaw08_StableNews_k2 C w Q))
  (flotillalaw08_StableNews_k2 C w Q))
  (flotillalaw08_StableNews_k2 C w Q))
  (flotillalaw08_StableNews_k2 C w Q))
theorem flotillalaw08_StableNews_eq (C : Comb) (a0 : Value) (w : World) (Q : Value → World → Prop) : flotillalaw08_StableNews_x C a0 w Q = FunY Try.prog C 2 [] Try.f7 [a0] w Q := by kernel_rfl
theorem flotillalaw08_StableNews_sound (a0 : Value) {w : World} {Q : Value → World → Prop} (h : flotillalaw08_StableNews_x (std Try.prog) a0 w Q) : CallsR Try.prog 7 #[a0] w Q :=
  calls_of_funY mixed Try.func7 (Eq.mp (flotillalaw08_StableNews_eq _ a0 w Q) h)

def stable_New_k1 (C : Comb) (w : World) (Q : Value → World → Prop) : Prop :=
  Q (.tuple #[(.pointer none), (.int .i64 1)]) w
def stable_New_x (C : Comb) (a0 : Value) (w : World) (Q : Value → World → Prop) : Prop :=
  C.step (sBin .lss 3 (.tmp 4) (.const (.int .i64 0)) a0 (.int .i64 0)) w fun v5_1 w =>
  C.bool v5_1
  (stable_New_k1 C w Q)
  (C.step (sBin .gtr 3 (.tmp 7) (.const (.int .i64 65536)) a0 (.int .i64 65536)) w fun v8_1 w =>
  C.bool v8_1
  (stable_New_k1 C w Q)
  (C.step (sBin .rem 3 (.tmp 11) (.const (.int .i64 64)) a0 (.int .i64 64)) w fun v12_1 w =>
  C.step (sBin .neq 3 (.tmp 12) (.const (.int .i64 0)) v12_1 (.int .i64 0)) w fun v13_1 w =>
  C.bool v13_1
  (Q (.tuple #[(.pointer none), (.int .i64 1)]) w)
  (C.step (sMakeSlice 34 a0 a0) w fun v16_1 w =>
  C.step (sBuild 60 [(0, v16_1)]) w fun v17_1 w =>
  C.step (sBox 60 v17_1) w fun v18_1 w =>
  Q (.tuple #[v18_1, (.int .i64 0)]) w)))
theorem stable_New_eq (C : Comb) (a0 : Value) (w : World) (Q : Value → World → Prop) : stable_New_x C a0 w Q = FunY Try.prog C 2 [] Try.f8 [a0] w Q := by kernel_rfl
theorem stable_New_sound (a0 : Value) {w : World} {Q : Value → World → Prop} (h : stable_New_x (std Try.prog) a0 w Q) : CallsR Try.prog 8 #[a0] w Q :=
  calls_of_funY mixed Try.func8 (Eq.mp (stable_New_eq _ a0 w Q) h)

def flotillalaw08_long_x (C : Comb) (a0 : Value) (w : World) (Q : Value → World → Prop) : Prop :=
  C.step (sBox 24 a0) w fun v1_1 w =>
  C.step (sFieldAddr 24 v1_1 3) w fun v3_1 w =>
  C.step (sLoad 3 v3_1) w fun v4_1 w =>
  C.step (sBin .gtr 3 (.tmp 4) (.const (.int .i64 40)) v4_1 (.int .i64 40)) w fun v5_1 w =>
  C.bool v5_1
  (Q (.int .i64 (-1)) w)
  (C.step (sFieldAddr 24 v1_1 3) w fun v7_1 w =>
  C.step (sLoad 3 v7_1) w fun v8_1 w =>
  C.step (sBin .lss 3 (.tmp 8) (.const (.int .i64 (-3000))) v8_1 (.int .i64 (-3000))) w fun v9_1 w =>
  C.bool v9_1
  (Q (.int .i64 (-1)) w)
  (C.step (sFieldAddr 24 v1_1 3) w fun v11_1 w =>
  C.step (sLoad 3 v11_1) w fun v12_1 w =>
  C.step (sBin .lss 3 (.tmp 12) (.const (.int .i64 0)) v12_1 (.int .i64 0)) w fun v13_1 w =>
  C.bool v13_1
  (C.step (sFieldAddr 24 v1_1 3) w fun v14_1 w =>
  C.step (sLoad 3 v14_1) w fun v15_1 w =>
  C.step (sUn .neg v15_1) w fun v16_1 w =>
  Q v16_1 w)
  (C.step (sFieldAddr 24 v1_1 3) w fun v17_1 w =>
  C.step (sLoad 3 v17_1) w fun v18_1 w =>
  C.step (sBin .mul 3 (.const (.int .i64 64)) (.tmp 18) (.int .i64 64) v18_1) w fun v19_1 w =>
  Q v19_1 w)))
theorem flotillalaw08_long_eq (C : Comb) (a0 : Value) (w : World) (Q : Value → World → Prop) : flotillalaw08_long_x C a0 w Q = FunY Try.prog C 2 [] Try.f9 [a0] w Q := by kernel_rfl
theorem flotillalaw08_long_sound (a0 : Value) {w : World} {Q : Value → World → Prop} (h : flotillalaw08_long_x (std Try.prog) a0 w Q) : CallsR Try.prog 9 #[a0] w Q :=
  calls_of_funY mixed Try.func9 (Eq.mp (flotillalaw08_long_eq _ a0 w Q) h)

def flotillalaw08_lives_k1 (C : Comb) (w : World) (Q : Value → World → Prop) : Prop :=
  Q (.bool false) w
def flotillalaw08_lives_k2 (C : Comb) (w : World) (Q : Value → World → Prop) : Prop :=
  Q (.bool false) w
def flotillalaw08_lives_k3 (C : Comb) (w : World) (Q : Value → World → Prop) : Prop :=
  Q (.bool false) w
def flotillalaw08_lives_x (C : Comb) (w : World) (Q : Value → World → Prop) : Prop :=
  C.calls 8 #[(.int .i64 128)] w fun v6_1 w =>
  C.step (sExtract v6_1 0) w fun v7_1 w =>
  C.step (sExtract v6_1 1) w fun v8_1 w =>
  C.step (sBin .eql 27 (.tmp 9) (.const (.pointer none)) v7_1 (.pointer none)) w fun v10_1 w =>
  C.bool v10_1
  (flotillalaw08_lives_k1 C w Q)
  (C.step (sBin .neq 28 (.tmp 12) (.const (.int .i64 0)) v8_1 (.int .i64 0)) w fun v13_1 w =>
  C.bool v13_1
  (flotillalaw08_lives_k1 C w Q)
  (C.calls 12 #[(.int .i64 64), (.int .u8 7)] w fun v17_1 w =>
  C.calls 11 #[v7_1, (.int .i64 0), (.int .i64 64), v17_1] w fun v18_1 w =>
  C.step (sBin .neq 28 (.tmp 18) (.const (.int .i64 0)) v18_1 (.int .i64 0)) w fun v19_1 w =>
  C.bool v19_1
  (Q (.bool false) w)
  (C.calls 14 #[v7_1, (.int .i64 64), (.int .i64 64)] w fun v23_1 w =>
  C.step (sExtract v23_1 0) w fun v24_1 w =>
  C.step (sExtract v23_1 1) w fun v25_1 w =>
  C.step (sBin .neq 28 (.tmp 26) (.const (.int .i64 0)) v25_1 (.int .i64 0)) w fun v27_1 w =>
  C.bool v27_1
  (flotillalaw08_lives_k2 C w Q)
  (C.step (sBuiltin .len #[34] 3 [false] [v24_1]) w fun v30_1 w =>
  C.step (sBin .neq 3 (.tmp 30) (.const (.int .i64 64)) v30_1 (.int .i64 64)) w fun v31_1 w =>
  C.bool v31_1
  (flotillalaw08_lives_k2 C w Q)
  (C.step (sIndexAddr 34 v24_1 (.int .i64 0)) w fun v35_1 w =>
  C.step (sLoad 5 v35_1) w fun v36_1 w =>
  C.step (sBin .neq 5 (.tmp 36) (.const (.int .u8 0)) v36_1 (.int .u8 0)) w fun v37_1 w =>
  C.bool v37_1
  (flotillalaw08_lives_k2 C w Q)
  (C.calls 13 #[v7_1, (.int .i64 0)] w fun v41_1 w =>
  C.step (sBin .neq 28 (.tmp 41) (.const (.int .i64 0)) v41_1 (.int .i64 0)) w fun v42_1 w =>
  C.bool v42_1
  (Q (.bool false) w)
  (C.calls 14 #[v7_1, (.int .i64 64), (.int .i64 64)] w fun v46_1 w =>
  C.step (sExtract v46_1 0) w fun v47_1 w =>
  C.step (sExtract v46_1 1) w fun v48_1 w =>
  C.step (sBin .eql 28 (.tmp 49) (.const (.int .i64 0)) v48_1 (.int .i64 0)) w fun v50_1 w =>
  C.bool v50_1
  (C.step (sBuiltin .len #[34] 3 [false] [v47_1]) w fun v53_1 w =>
  C.step (sBin .eql 3 (.tmp 53) (.const (.int .i64 64)) v53_1 (.int .i64 64)) w fun v54_1 w =>
  C.bool v54_1
  (C.step (sIndexAddr 34 v47_1 (.int .i64 63)) w fun v58_1 w =>
  C.step (sLoad 5 v58_1) w fun v59_1 w =>
  C.step (sBin .eql 5 (.tmp 59) (.const (.int .u8 7)) v59_1 (.int .u8 7)) w fun v60_1 w =>
  Q v60_1 w)
  (flotillalaw08_lives_k3 C w Q))
  (flotillalaw08_lives_k3 C w Q))))))))
theorem flotillalaw08_lives_eq (C : Comb) (w : World) (Q : Value → World → Prop) : flotillalaw08_lives_x C w Q = FunY Try.prog C 5 [] Try.f10 [] w Q := by kernel_rfl
theorem flotillalaw08_lives_sound {w : World} {Q : Value → World → Prop} (h : flotillalaw08_lives_x (std Try.prog) w Q) : CallsR Try.prog 10 #[] w Q :=
  calls_of_funY mixed Try.func10 (Eq.mp (flotillalaw08_lives_eq _ w Q) h)

def stable_Device_Start_k1 (C : Comb) (w : World) (Q : Value → World → Prop) : Prop :=
  Q (.int .i64 1) w
def stable_Device_Start_k2 (C : Comb) (w : World) (Q : Value → World → Prop) : Prop :=
  Q (.int .i64 2) w
def stable_Device_Start_x (C : Comb) (a0 : Value) (a1 : Value) (a2 : Value) (a3 : Value) (w : World) (Q : Value → World → Prop) : Prop :=
  C.calls 22 #[a0, a1] w fun v11_1 w =>
  C.step (sUn .not v11_1) w fun v12_1 w =>
  C.bool v12_1
  (stable_Device_Start_k1 C w Q)
  (C.step (sBin .rem 3 (.tmp 14) (.const (.int .i64 64)) a2 (.int .i64 64)) w fun v15_1 w =>
  C.step (sBin .neq 3 (.tmp 15) (.const (.int .i64 0)) v15_1 (.int .i64 0)) w fun v16_1 w =>
  C.bool v16_1
  (stable_Device_Start_k1 C w Q)
  (C.step (sBuiltin .len #[34] 3 [false] [a3]) w fun v20_1 w =>
  C.step (sBin .rem 3 (.tmp 20) (.const (.int .i64 64)) v20_1 (.int .i64 64)) w fun v21_1 w =>
  C.step (sBin .neq 3 (.tmp 21) (.const (.int .i64 0)) v21_1 (.int .i64 0)) w fun v22_1 w =>
  C.bool v22_1
  (stable_Device_Start_k1 C w Q)
  (C.step (sBuiltin .len #[34] 3 [false] [a3]) w fun v26_1 w =>
  C.step (sBin .eql 3 (.tmp 26) (.const (.int .i64 0)) v26_1 (.int .i64 0)) w fun v27_1 w =>
  C.bool v27_1
  (Q (.int .i64 1) w)
  (C.step (sBin .lss 3 (.tmp 29) (.const (.int .i64 0)) a2 (.int .i64 0)) w fun v30_1 w =>
  C.bool v30_1
  (stable_Device_Start_k2 C w Q)
  (C.step (sNil a0) w fun v34_1 w =>
  C.step (sFieldAddr 60 v34_1 0) w fun v35_1 w =>
  C.step (sLoad 34 v35_1) w fun v36_1 w =>
  C.step (sBuiltin .len #[34] 3 [false] [v36_1]) w fun v37_1 w =>
  C.step (sBin .gtr 3 (.tmp 32) (.tmp 37) a2 v37_1) w fun v38_1 w =>
  C.bool v38_1
  (stable_Device_Start_k2 C w Q)
  (C.step (sBuiltin .len #[34] 3 [false] [a3]) w fun v42_1 w =>
  C.step (sNil a0) w fun v44_1 w =>
  C.step (sFieldAddr 60 v44_1 0) w fun v45_1 w =>
  C.step (sLoad 34 v45_1) w fun v46_1 w =>
  C.step (sBuiltin .len #[34] 3 [false] [v46_1]) w fun v47_1 w =>
  C.step (sBin .sub 3 (.tmp 47) (.tmp 48) v47_1 a2) w fun v49_1 w =>
  C.step (sBin .gtr 3 (.tmp 42) (.tmp 49) v42_1 v49_1) w fun v50_1 w =>
  C.bool v50_1
  (Q (.int .i64 2) w)
  (C.step (sNil a0) w fun v54_1 w =>
  C.step (sFieldAddr 60 v54_1 1) w fun v55_1 w =>
  C.step (sIndexAddr 58 v55_1 a1) w fun v56_1 w =>
  C.step (sLoad 57 v56_1) w fun v57_1 w =>
  C.step (sBin .neq 57 (.tmp 57) (.const (.pointer none)) v57_1 (.pointer none)) w fun v58_1 w =>
  C.bool v58_1
  (Q (.int .i64 10) w)
  (C.draw w fun S_1 w =>
  C.stepS S_1 (sNil a0) fun v67_1 =>
  C.stepS S_1 (sFieldAddr 60 v67_1 1) fun v68_1 =>
  C.step (sBuildSlice 34 0 []) w fun v62_1 w =>
  C.keepS S_1 w fun S_2 =>
  C.step (sBuiltin .append #[34, 34] 34 [false, false] [v62_1, a3]) w fun v64_1 w =>
  C.keepS S_2 w fun S_3 =>
  C.step (sBuild 62 [(0, a2), (1, v64_1)]) w fun v65_1 w =>
  C.keepS S_3 w fun S_4 =>
  C.step (sBox 62 v65_1) w fun v66_1 w =>
  C.keepS S_4 w fun S_5 =>
  C.stepS S_5 (sIndexAddr 58 v68_1 a1) fun v69_1 =>
  C.step (sStore 57 v69_1 v66_1) w fun vx_1 w =>
  C.keepT w fun S_6 =>
  Q (.int .i64 0) w))))))))
theorem stable_Device_Start_eq (C : Comb) (a0 : Value) (a1 : Value) (a2 : Value) (a3 : Value) (w : World) (Q : Value → World → Prop) : stable_Device_Start_x C a0 a1 a2 a3 w Q = FunY Try.prog C 2 [] Try.f11 [a0, a1, a2, a3] w Q := by kernel_rfl
theorem stable_Device_Start_sound (a0 : Value) (a1 : Value) (a2 : Value) (a3 : Value) {w : World} {Q : Value → World → Prop} (h : stable_Device_Start_x (std Try.prog) a0 a1 a2 a3 w Q) : CallsR Try.prog 11 #[a0, a1, a2, a3] w Q :=
  calls_of_funY mixed Try.func11 (Eq.mp (stable_Device_Start_eq _ a0 a1 a2 a3 w Q) h)

def flotillalaw08_filled_k1 (C : Comb) (v8_1 : Value) (w : World) (Q : Value → World → Prop) : Prop :=
  Q v8_1 w
def flotillalaw08_filled_x (C : Comb) (a0 : Value) (a1 : Value) (w : World) (Q : Value → World → Prop) : Prop :=
  C.step (sMakeSlice 34 a0 a0) w fun v8_1 w =>
  C.loop [(.int .i64 0)] w fun dv_1 vs_1 w again_1 =>
  C.step (sBuiltin .len #[34] 3 [false] [v8_1]) w fun v11_1 w =>
  C.step (sBin .lss 3 (.tmp 9) (.tmp 11) (vs_1.getD 0 undef) v11_1) w fun v12_1 w =>
  C.bool v12_1
  (C.step (sIndexAddr 34 v8_1 (vs_1.getD 0 undef)) w fun v18_1 w =>
  C.step (sStore 5 v18_1 a1) w fun vx_1 w =>
  C.step (sBin .add 3 (.tmp 13) (.const (.int .i64 1)) (vs_1.getD 0 undef) (.int .i64 1)) w fun v14_1 w =>
  again_1 [v14_1] w)
  (flotillalaw08_filled_k1 C v8_1 w Q)
theorem flotillalaw08_filled_eq (C : Comb) (a0 : Value) (a1 : Value) (w : World) (Q : Value → World → Prop) : flotillalaw08_filled_x C a0 a1 w Q = FunY Try.prog C 7 [] Try.f12 [a0, a1] w Q := by kernel_rfl
theorem flotillalaw08_filled_sound (a0 : Value) (a1 : Value) {w : World} {Q : Value → World → Prop} (h : flotillalaw08_filled_x (std Try.prog) a0 a1 w Q) : CallsR Try.prog 12 #[a0, a1] w Q :=
  calls_of_funY mixed Try.func12 (Eq.mp (flotillalaw08_filled_eq _ a0 a1 w Q) h)

def stable_Device_Finish_x (C : Comb) (a0 : Value) (a1 : Value) (w : World) (Q : Value → World → Prop) : Prop :=
  C.calls 23 #[a0, a1, (.int .i64 (-1))] w fun v7_1 w =>
  Q v7_1 w
theorem stable_Device_Finish_eq (C : Comb) (a0 : Value) (a1 : Value) (w : World) (Q : Value → World → Prop) : stable_Device_Finish_x C a0 a1 w Q = FunY Try.prog C 4 [] Try.f13 [a0, a1] w Q := by kernel_rfl
theorem stable_Device_Finish_sound (a0 : Value) (a1 : Value) {w : World} {Q : Value → World → Prop} (h : stable_Device_Finish_x (std Try.prog) a0 a1 w Q) : CallsR Try.prog 13 #[a0, a1] w Q :=
  calls_of_funY mixed Try.func13 (Eq.mp (stable_Device_Finish_eq _ a0 a1 w Q) h)

def stable_Device_Read_k1 (C : Comb) (w : World) (Q : Value → World → Prop) : Prop :=
  Q (.tuple #[(.slice none 0 0), (.int .i64 2)]) w
def stable_Device_Read_x (C : Comb) (a0 : Value) (a1 : Value) (a2 : Value) (w : World) (Q : Value → World → Prop) : Prop :=
  C.step (sBin .eql 27 (.tmp 8) (.const (.pointer none)) a0 (.pointer none)) w fun v9_1 w =>
  C.bool v9_1
  (Q (.tuple #[(.slice none 0 0), (.int .i64 1)]) w)
  (C.step (sBin .lss 3 (.tmp 10) (.const (.int .i64 0)) a1 (.int .i64 0)) w fun v11_1 w =>
  C.bool v11_1
  (stable_Device_Read_k1 C w Q)
  (C.step (sBin .lss 3 (.tmp 13) (.const (.int .i64 0)) a2 (.int .i64 0)) w fun v14_1 w =>
  C.bool v14_1
  (stable_Device_Read_k1 C w Q)
  (C.step (sNil a0) w fun v19_1 w =>
  C.step (sFieldAddr 60 v19_1 0) w fun v20_1 w =>
  C.step (sLoad 34 v20_1) w fun v21_1 w =>
  C.step (sBuiltin .len #[34] 3 [false] [v21_1]) w fun v22_1 w =>
  C.step (sBin .gtr 3 (.tmp 17) (.tmp 22) a1 v22_1) w fun v23_1 w =>
  C.bool v23_1
  (stable_Device_Read_k1 C w Q)
  (C.step (sNil a0) w fun v28_1 w =>
  C.step (sFieldAddr 60 v28_1 0) w fun v29_1 w =>
  C.step (sLoad 34 v29_1) w fun v30_1 w =>
  C.step (sBuiltin .len #[34] 3 [false] [v30_1]) w fun v31_1 w =>
  C.step (sBin .sub 3 (.tmp 31) (.tmp 32) v31_1 a1) w fun v33_1 w =>
  C.step (sBin .gtr 3 (.tmp 26) (.tmp 33) a2 v33_1) w fun v34_1 w =>
  C.bool v34_1
  (Q (.tuple #[(.slice none 0 0), (.int .i64 2)]) w)
  (C.step (sBuildSlice 34 0 []) w fun v36_1 w =>
  C.step (sNil a0) w fun v38_1 w =>
  C.step (sFieldAddr 60 v38_1 0) w fun v39_1 w =>
  C.step (sLoad 34 v39_1) w fun v40_1 w =>
  C.step (sBin .add 3 (.tmp 42) (.tmp 43) a1 a2) w fun v44_1 w =>
  C.step (sSlice 34 v40_1 (some a1) (some v44_1) none) w fun v45_1 w =>
  C.step (sBuiltin .append #[34, 34] 34 [false, false] [v36_1, v45_1]) w fun v46_1 w =>
  Q (.tuple #[v46_1, (.int .i64 0)]) w)))))
theorem stable_Device_Read_eq (C : Comb) (a0 : Value) (a1 : Value) (a2 : Value) (w : World) (Q : Value → World → Prop) : stable_Device_Read_x C a0 a1 a2 w Q = FunY Try.prog C 6 [] Try.f14 [a0, a1, a2] w Q := by kernel_rfl
theorem stable_Device_Read_sound (a0 : Value) (a1 : Value) (a2 : Value) {w : World} {Q : Value → World → Prop} (h : stable_Device_Read_x (std Try.prog) a0 a1 a2 w Q) : CallsR Try.prog 14 #[a0, a1, a2] w Q :=
  calls_of_funY mixed Try.func14 (Eq.mp (stable_Device_Read_eq _ a0 a1 a2 w Q) h)

def stable_Device_Crash_x (C : Comb) (a0 : Value) (a1 : Value) (a2 : Value) (w : World) (Q : Value → World → Prop) : Prop :=
  C.step (sBuiltin .max #[3, 3] 3 [false, true] [a2, (.int .i64 0)]) w fun v10_1 w =>
  C.calls 23 #[a0, a1, v10_1] w fun v11_1 w =>
  Q v11_1 w
theorem stable_Device_Crash_eq (C : Comb) (a0 : Value) (a1 : Value) (a2 : Value) (w : World) (Q : Value → World → Prop) : stable_Device_Crash_x C a0 a1 a2 w Q = FunY Try.prog C 6 [] Try.f15 [a0, a1, a2] w Q := by kernel_rfl
theorem stable_Device_Crash_sound (a0 : Value) (a1 : Value) (a2 : Value) {w : World} {Q : Value → World → Prop} (h : stable_Device_Crash_x (std Try.prog) a0 a1 a2 w Q) : CallsR Try.prog 15 #[a0, a1, a2] w Q :=
  calls_of_funY mixed Try.func15 (Eq.mp (stable_Device_Crash_eq _ a0 a1 a2 w Q) h)

def stable_Device_Trim_x (C : Comb) (a0 : Value) (a1 : Value) (w : World) (Q : Value → World → Prop) : Prop :=
  C.step (sBin .eql 27 (.tmp 5) (.const (.pointer none)) a0 (.pointer none)) w fun v6_1 w =>
  C.bool v6_1
  (Q (.int .i64 1) w)
  (C.step (sBin .lss 3 (.tmp 7) (.const (.int .i64 0)) a1 (.int .i64 0)) w fun v8_1 w =>
  C.bool v8_1
  (Q (.int .i64 2) w)
  (C.step (sNil a0) w fun v12_1 w =>
  C.step (sFieldAddr 60 v12_1 0) w fun v13_1 w =>
  C.step (sLoad 34 v13_1) w fun v14_1 w =>
  C.step (sBuiltin .len #[34] 3 [false] [v14_1]) w fun v15_1 w =>
  C.step (sBin .gtr 3 (.tmp 10) (.tmp 15) a1 v15_1) w fun v16_1 w =>
  C.bool v16_1
  (Q (.int .i64 2) w)
  (C.step (sNil a0) w fun v19_1 w =>
  C.step (sFieldAddr 60 v19_1 0) w fun v20_1 w =>
  C.step (sLoad 34 v20_1) w fun v21_1 w =>
  C.step (sBin .add 3 (.tmp 22) (.const (.int .i64 64)) a1 (.int .i64 64)) w fun v23_1 w =>
  C.step (sBin .sub 3 (.tmp 23) (.const (.int .i64 1)) v23_1 (.int .i64 1)) w fun v24_1 w =>
  C.step (sBin .quo 3 (.tmp 24) (.const (.int .i64 64)) v24_1 (.int .i64 64)) w fun v25_1 w =>
  C.step (sBin .mul 3 (.tmp 25) (.const (.int .i64 64)) v25_1 (.int .i64 64)) w fun v26_1 w =>
  C.step (sSlice 34 v21_1 (some v26_1) none none) w fun v27_1 w =>
  C.step (sBuiltin .clear #[34] 0 [false] [v27_1]) w fun vx_1 w =>
  Q (.int .i64 0) w)))
theorem stable_Device_Trim_eq (C : Comb) (a0 : Value) (a1 : Value) (w : World) (Q : Value → World → Prop) : stable_Device_Trim_x C a0 a1 w Q = FunY Try.prog C 4 [] Try.f16 [a0, a1] w Q := by kernel_rfl
theorem stable_Device_Trim_sound (a0 : Value) (a1 : Value) {w : World} {Q : Value → World → Prop} (h : stable_Device_Trim_x (std Try.prog) a0 a1 w Q) : CallsR Try.prog 16 #[a0, a1] w Q :=
  calls_of_funY mixed Try.func16 (Eq.mp (stable_Device_Trim_eq _ a0 a1 w Q) h)

def stable_Device_Clone_k1 (C : Comb) (v15_1 : Value) (w : World) (Q : Value → World → Prop) : Prop :=
  Q v15_1 w
def stable_Device_Clone_k2 (C : Comb) (vs_1 : List Value) (again_1 : List Value → World → Prop) (u4_2 : Value) (u5_2 : Value) (w : World) (Q : Value → World → Prop) : Prop :=
  C.step (sBin .add 3 (.tmp 20) (.const (.int .i64 1)) (vs_1.getD 2 undef) (.int .i64 1)) w fun v43_1 w =>
  again_1 [u4_2, u5_2, v43_1] w
def stable_Device_Clone_x (C : Comb) (a0 : Value) (w : World) (Q : Value → World → Prop) : Prop :=
  C.step (sBin .eql 27 (.tmp 6) (.const (.pointer none)) a0 (.pointer none)) w fun v7_1 w =>
  C.bool v7_1
  (Q (.pointer none) w)
  (C.step (sBuildSlice 34 0 []) w fun v8_1 w =>
  C.step (sNil a0) w fun v10_1 w =>
  C.step (sFieldAddr 60 v10_1 0) w fun v11_1 w =>
  C.step (sLoad 34 v11_1) w fun v12_1 w =>
  C.step (sBuiltin .append #[34, 34] 34 [false, false] [v8_1, v12_1]) w fun v13_1 w =>
  C.step (sBuild 60 [(0, v13_1)]) w fun v14_1 w =>
  C.step (sBox 60 v14_1) w fun v15_1 w =>
  C.step (sNil a0) w fun v17_1 w =>
  C.step (sFieldAddr 60 v17_1 1) w fun v18_1 w =>
  C.step (sLoad 58 v18_1) w fun v19_1 w =>
  C.loop [undef, undef, (.int .i64 0)] w fun dv_1 vs_1 w again_1 =>
  C.step (sBin .lss 3 (.tmp 20) (.const (.int .i64 8)) (vs_1.getD 2 undef) (.int .i64 8)) w fun v21_1 w =>
  C.bool v21_1
  (C.step (sIndex 58 v19_1 (vs_1.getD 2 undef)) w fun v23_1 w =>
  C.step (sBin .neq 57 (.tmp 24) (.const (.pointer none)) v23_1 (.pointer none)) w fun v25_1 w =>
  C.bool v25_1
  (C.draw w fun S_1 w =>
  C.stepS S_1 (sNil v23_1) fun v29_1 =>
  C.stepS S_1 (sFieldAddr 62 v29_1 0) fun v30_1 =>
  C.stepS S_1 (sLoad 3 v30_1) fun v31_1 =>
  C.stepS S_1 (sNil v23_1) fun v34_1 =>
  C.stepS S_1 (sFieldAddr 62 v34_1 1) fun v35_1 =>
  C.stepS S_1 (sLoad 34 v35_1) fun v36_1 =>
  C.stepS S_1 (sNil v15_1) fun v40_1 =>
  C.stepS S_1 (sFieldAddr 60 v40_1 1) fun v41_1 =>
  C.step (sBuildSlice 34 0 []) w fun v32_1 w =>
  C.keepS S_1 w fun S_2 =>
  C.step (sBuiltin .append #[34, 34] 34 [false, false] [v32_1, v36_1]) w fun v37_1 w =>
  C.keepS S_2 w fun S_3 =>
  C.step (sBuild 62 [(0, v31_1), (1, v37_1)]) w fun v38_1 w =>
  C.keepS S_3 w fun S_4 =>
  C.step (sBox 62 v38_1) w fun v39_1 w =>
  C.keepS S_4 w fun S_5 =>
  C.stepS S_5 (sIndexAddr 58 v41_1 (vs_1.getD 2 undef)) fun v42_1 =>
  C.step (sStore 57 v42_1 v39_1) w fun vx_1 w =>
  C.keepT w fun S_6 =>
  stable_Device_Clone_k2 C vs_1 again_1 (vs_1.getD 2 undef) v23_1 w Q)
  (stable_Device_Clone_k2 C vs_1 again_1 (vs_1.getD 2 undef) v23_1 w Q))
  (stable_Device_Clone_k1 C v15_1 w Q))
theorem stable_Device_Clone_eq (C : Comb) (a0 : Value) (w : World) (Q : Value → World → Prop) : stable_Device_Clone_x C a0 w Q = FunY Try.prog C 6 [] Try.f17 [a0] w Q := by kernel_rfl
theorem stable_Device_Clone_sound (a0 : Value) {w : World} {Q : Value → World → Prop} (h : stable_Device_Clone_x (std Try.prog) a0 w Q) : CallsR Try.prog 17 #[a0] w Q :=
  calls_of_funY mixed Try.func17 (Eq.mp (stable_Device_Clone_eq _ a0 w Q) h)

def stable_Device_Flying_x (C : Comb) (a0 : Value) (a1 : Value) (w : World) (Q : Value → World → Prop) : Prop :=
  C.calls 22 #[a0, a1] w fun v9_1 w =>
  C.step (sUn .not v9_1) w fun v10_1 w =>
  C.bool v10_1
  (Q (.tuple #[(.int .i64 0), (.int .i64 0), (.bool false)]) w)
  (C.step (sNil a0) w fun v14_1 w =>
  C.step (sFieldAddr 60 v14_1 1) w fun v15_1 w =>
  C.step (sIndexAddr 58 v15_1 a1) w fun v16_1 w =>
  C.step (sLoad 57 v16_1) w fun v17_1 w =>
  C.step (sBin .eql 57 (.tmp 17) (.const (.pointer none)) v17_1 (.pointer none)) w fun v18_1 w =>
  C.bool v18_1
  (Q (.tuple #[(.int .i64 0), (.int .i64 0), (.bool false)]) w)
  (C.draw w fun S_1 w =>
  C.stepS S_1 (sNil a0) fun v22_1 =>
  C.stepS S_1 (sFieldAddr 60 v22_1 1) fun v23_1 =>
  C.stepS S_1 (sIndexAddr 58 v23_1 a1) fun v24_1 =>
  C.stepS S_1 (sLoad 57 v24_1) fun v25_1 =>
  C.stepS S_1 (sNil v25_1) fun v26_1 =>
  C.stepS S_1 (sFieldAddr 62 v26_1 0) fun v27_1 =>
  C.stepS S_1 (sLoad 3 v27_1) fun v28_1 =>
  C.stepS S_1 (sNil a0) fun v31_1 =>
  C.stepS S_1 (sFieldAddr 60 v31_1 1) fun v32_1 =>
  C.stepS S_1 (sIndexAddr 58 v32_1 a1) fun v33_1 =>
  C.stepS S_1 (sLoad 57 v33_1) fun v34_1 =>
  C.stepS S_1 (sNil v34_1) fun v35_1 =>
  C.stepS S_1 (sFieldAddr 62 v35_1 1) fun v36_1 =>
  C.stepS S_1 (sLoad 34 v36_1) fun v37_1 =>
  C.stepS S_1 (sBuiltin .len #[34] 3 [false] [v37_1]) fun v38_1 =>
  Q (.tuple #[v28_1, v38_1, (.bool true)]) w))
theorem stable_Device_Flying_eq (C : Comb) (a0 : Value) (a1 : Value) (w : World) (Q : Value → World → Prop) : stable_Device_Flying_x C a0 a1 w Q = FunY Try.prog C 7 [] Try.f18 [a0, a1] w Q := by kernel_rfl
theorem stable_Device_Flying_sound (a0 : Value) (a1 : Value) {w : World} {Q : Value → World → Prop} (h : stable_Device_Flying_x (std Try.prog) a0 a1 w Q) : CallsR Try.prog 18 #[a0, a1] w Q :=
  calls_of_funY mixed Try.func18 (Eq.mp (stable_Device_Flying_eq _ a0 a1 w Q) h)

def flotillaref08_New_k1 (C : Comb) (v2_1 : Value) (w : World) (Q : Value → World → Prop) : Prop :=
  C.step (sBuild 51 []) w fun v15_1 w =>
  C.step (sStore 51 v2_1 v15_1) w fun vx_1 w =>
  C.loadR 51 v2_1 w fun r_1 =>
  Q (.tuple #[r_1, (.bool false)]) w
def flotillaref08_New_x (C : Comb) (a0 : Value) (w : World) (Q : Value → World → Prop) : Prop :=
  C.step (sAlloc 51) w fun v2_1 w =>
  C.step (sBin .lss 3 (.tmp 4) (.const (.int .i64 0)) a0 (.int .i64 0)) w fun v5_1 w =>
  C.bool v5_1
  (flotillaref08_New_k1 C v2_1 w Q)
  (C.step (sBin .gtr 3 (.tmp 7) (.const (.int .i64 65536)) a0 (.int .i64 65536)) w fun v8_1 w =>
  C.bool v8_1
  (flotillaref08_New_k1 C v2_1 w Q)
  (C.step (sBin .rem 3 (.tmp 11) (.const (.int .i64 64)) a0 (.int .i64 64)) w fun v12_1 w =>
  C.step (sBin .neq 3 (.tmp 12) (.const (.int .i64 0)) v12_1 (.int .i64 0)) w fun v13_1 w =>
  C.bool v13_1
  (C.step (sBuild 51 []) w fun v15_2 w =>
  C.step (sStore 51 v2_1 v15_2) w fun vx_2 w =>
  C.loadR 51 v2_1 w fun r_2 =>
  Q (.tuple #[r_2, (.bool false)]) w)
  (C.calls 24 #[a0] w fun v17_1 w =>
  C.step (sBuild 51 [(0, v17_1)]) w fun v18_1 w =>
  C.step (sStore 51 v2_1 v18_1) w fun vx_3 w =>
  C.loadR 51 v2_1 w fun r_3 =>
  Q (.tuple #[r_3, (.bool true)]) w)))
theorem flotillaref08_New_eq (C : Comb) (a0 : Value) (w : World) (Q : Value → World → Prop) : flotillaref08_New_x C a0 w Q = FunY Try.prog C 2 [] Try.f19 [a0] w Q := by kernel_rfl
theorem flotillaref08_New_sound (a0 : Value) {w : World} {Q : Value → World → Prop} (h : flotillaref08_New_x (std Try.prog) a0 w Q) : CallsR Try.prog 19 #[a0] w Q :=
  calls_of_funY mixed Try.func19 (Eq.mp (flotillaref08_New_eq _ a0 w Q) h)

def flotillalaw08_alike_k1 (C : Comb) (w : World) (Q : Value → World → Prop) : Prop :=
  Q (.bool false) w
def flotillalaw08_alike_k2 (C : Comb) (w : World) (Q : Value → World → Prop) : Prop :=
  Q (.bool true) w
def flotillalaw08_alike_k4 (C : Comb) (w : World) (Q : Value → World → Prop) : Prop :=
  Q (.bool false) w
def flotillalaw08_alike_k3 (C : Comb) (vs_1 : List Value) (again_1 : List Value → World → Prop) (v44_1 : Value) (v45_1 : Value) (v46_1 : Value) (v11_1 : Value) (w : World) (Q : Value → World → Prop) : Prop :=
  C.step (sFieldAddr 48 v11_1 0) w fun v59_1 w =>
  C.step (sLoad 4 v59_1) w fun v60_1 w =>
  C.step (sBin .neq 4 (.tmp 58) (.tmp 60) v46_1 v60_1) w fun v61_1 w =>
  C.bool v61_1
  (flotillalaw08_alike_k4 C w Q)
  (C.step (sFieldAddr 48 v11_1 1) w fun v64_1 w =>
  C.step (sLoad 3 v64_1) w fun v65_1 w =>
  C.step (sBin .neq 3 (.tmp 63) (.tmp 65) v44_1 v65_1) w fun v66_1 w =>
  C.bool v66_1
  (flotillalaw08_alike_k4 C w Q)
  (C.step (sFieldAddr 48 v11_1 2) w fun v70_1 w =>
  C.step (sLoad 9 v70_1) w fun v71_1 w =>
  C.step (sBuiltin .len #[9] 3 [false] [v71_1]) w fun v72_1 w =>
  C.step (sBin .neq 3 (.tmp 69) (.tmp 72) v45_1 v72_1) w fun v73_1 w =>
  C.bool v73_1
  (Q (.bool false) w)
  (C.step (sBin .add 3 (.tmp 38) (.const (.int .i64 1)) (vs_1.getD 0 undef) (.int .i64 1)) w fun v39_1 w =>
  again_1 [v39_1] w)))
def flotillalaw08_alike_x (C : Comb) (a0 : Value) (a1 : Value) (w : World) (Q : Value → World → Prop) : Prop :=
  C.step (sBox 51 a1) w fun v3_1 w =>
  C.calls 21 #[a0] w fun v15_1 w =>
  C.calls 14 #[a0, (.int .i64 0), v15_1] w fun v16_1 w =>
  C.step (sExtract v16_1 0) w fun v17_1 w =>
  C.step (sExtract v16_1 1) w fun v18_1 w =>
  C.draw w fun S_1 w =>
  C.stepS S_1 (sBin .neq 28 (.tmp 19) (.const (.int .i64 0)) v18_1 (.int .i64 0)) fun v20_1 =>
  C.bool v20_1
  (flotillalaw08_alike_k1 C w Q)
  (C.stepS S_1 (sFieldAddr 51 v3_1 0) fun v24_1 =>
  C.stepS S_1 (sLoad 9 v24_1) fun v25_1 =>
  C.stepS S_1 (sBuiltin .len #[9] 3 [false] [v25_1]) fun v26_1 =>
  C.calls 21 #[a0] w fun v23_1 w =>
  C.keepS S_1 w fun S_2 =>
  C.stepS S_2 (sBin .neq 3 (.tmp 23) (.tmp 26) v23_1 v26_1) fun v27_1 =>
  C.bool v27_1
  (flotillalaw08_alike_k1 C w Q)
  (C.stepS S_2 (sConv 34 9 v17_1) fun v31_1 =>
  C.stepS S_2 (sFieldAddr 51 v3_1 0) fun v32_1 =>
  C.stepS S_2 (sLoad 9 v32_1) fun v33_1 =>
  C.stepS S_2 (sBin .neq 9 (.tmp 31) (.tmp 33) v31_1 v33_1) fun v34_1 =>
  C.bool v34_1
  (Q (.bool false) w)
  (C.loop [(.int .i64 (-1))] w fun dv_1 vs_1 w again_1 =>
  C.step (sBin .leq 3 (.tmp 36) (.const (.int .i64 8)) (vs_1.getD 0 undef) (.int .i64 8)) w fun v37_1 w =>
  C.bool v37_1
  (C.calls 18 #[a0, (vs_1.getD 0 undef)] w fun v43_1 w =>
  C.step (sExtract v43_1 0) w fun v44_1 w =>
  C.step (sExtract v43_1 1) w fun v45_1 w =>
  C.step (sExtract v43_1 2) w fun v46_1 w =>
  C.step (sBuild 48 []) w fun v47_1 w =>
  C.step (sAlloc 48) w fun v11_1 w =>
  C.step (sStore 48 v11_1 v47_1) w fun vx_1 w =>
  C.step (sBin .geq 3 (.tmp 48) (.const (.int .i64 0)) (vs_1.getD 0 undef) (.int .i64 0)) w fun v49_1 w =>
  C.bool v49_1
  (C.step (sBin .lss 3 (.tmp 51) (.const (.int .i64 8)) (vs_1.getD 0 undef) (.int .i64 8)) w fun v52_1 w =>
  C.bool v52_1
  (C.step (sFieldAddr 51 v3_1 1) w fun v55_1 w =>
  C.step (sIndexAddr 49 v55_1 (vs_1.getD 0 undef)) w fun v56_1 w =>
  C.step (sLoad 48 v56_1) w fun v57_1 w =>
  C.step (sStore 48 v11_1 v57_1) w fun vx_2 w =>
  flotillalaw08_alike_k3 C vs_1 again_1 v44_1 v45_1 v46_1 v11_1 w Q)
  (flotillalaw08_alike_k3 C vs_1 again_1 v44_1 v45_1 v46_1 v11_1 w Q))
  (flotillalaw08_alike_k3 C vs_1 again_1 v44_1 v45_1 v46_1 v11_1 w Q))
  (flotillalaw08_alike_k2 C w Q))))
theorem flotillalaw08_alike_eq (C : Comb) (a0 : Value) (a1 : Value) (w : World) (Q : Value → World → Prop) : flotillalaw08_alike_x C a0 a1 w Q = FunY Try.prog C 2 [] Try.f20 [a0, a1] w Q := by kernel_rfl
theorem flotillalaw08_alike_sound (a0 : Value) (a1 : Value) {w : World} {Q : Value → World → Prop} (h : flotillalaw08_alike_x (std Try.prog) a0 a1 w Q) : CallsR Try.prog 20 #[a0, a1] w Q :=
  calls_of_funY mixed Try.func20 (Eq.mp (flotillalaw08_alike_eq _ a0 a1 w Q) h)

def stable_Device_Size_x (C : Comb) (a0 : Value) (w : World) (Q : Value → World → Prop) : Prop :=
  C.step (sBin .eql 27 (.tmp 3) (.const (.pointer none)) a0 (.pointer none)) w fun v4_1 w =>
  C.bool v4_1
  (Q (.int .i64 0) w)
  (C.step (sNil a0) w fun v6_1 w =>
  C.step (sFieldAddr 60 v6_1 0) w fun v7_1 w =>
  C.step (sLoad 34 v7_1) w fun v8_1 w =>
  C.step (sBuiltin .len #[34] 3 [false] [v8_1]) w fun v9_1 w =>
  Q v9_1 w)
theorem stable_Device_Size_eq (C : Comb) (a0 : Value) (w : World) (Q : Value → World → Prop) : stable_Device_Size_x C a0 w Q = FunY Try.prog C 2 [] Try.f21 [a0] w Q := by kernel_rfl
theorem stable_Device_Size_sound (a0 : Value) {w : World} {Q : Value → World → Prop} (h : stable_Device_Size_x (std Try.prog) a0 w Q) : CallsR Try.prog 21 #[a0] w Q :=
  calls_of_funY mixed Try.func21 (Eq.mp (stable_Device_Size_eq _ a0 w Q) h)

def stable_Device_known_k1 (C : Comb) (w : World) (Q : Value → World → Prop) : Prop :=
  Q (.bool false) w
def stable_Device_known_x (C : Comb) (a0 : Value) (a1 : Value) (w : World) (Q : Value → World → Prop) : Prop :=
  C.step (sBin .neq 27 (.tmp 5) (.const (.pointer none)) a0 (.pointer none)) w fun v6_1 w =>
  C.bool v6_1
  (C.step (sBin .geq 3 (.tmp 8) (.const (.int .i64 0)) a1 (.int .i64 0)) w fun v9_1 w =>
  C.bool v9_1
  (C.step (sBin .lss 3 (.tmp 12) (.const (.int .i64 8)) a1 (.int .i64 8)) w fun v13_1 w =>
  Q v13_1 w)
  (stable_Device_known_k1 C w Q))
  (stable_Device_known_k1 C w Q)
theorem stable_Device_known_eq (C : Comb) (a0 : Value) (a1 : Value) (w : World) (Q : Value → World → Prop) : stable_Device_known_x C a0 a1 w Q = FunY Try.prog C 4 [] Try.f22 [a0, a1] w Q := by kernel_rfl
theorem stable_Device_known_sound (a0 : Value) (a1 : Value) {w : World} {Q : Value → World → Prop} (h : stable_Device_known_x (std Try.prog) a0 a1 w Q) : CallsR Try.prog 22 #[a0, a1] w Q :=
  calls_of_funY mixed Try.func22 (Eq.mp (stable_Device_known_eq _ a0 a1 w Q) h)

def flotillaref08_Noughts_x (C : Comb) (a0 : Value) (w : World) (Q : Value → World → Prop) : Prop :=
  C.step (sMakeSlice 34 a0 a0) w fun v4_1 w =>
  C.step (sConv 34 9 v4_1) w fun v5_1 w =>
  Q v5_1 w
theorem flotillaref08_Noughts_eq (C : Comb) (a0 : Value) (w : World) (Q : Value → World → Prop) : flotillaref08_Noughts_x C a0 w Q = FunY Try.prog C 2 [] Try.f24 [a0] w Q := by kernel_rfl
theorem flotillaref08_Noughts_sound (a0 : Value) {w : World} {Q : Value → World → Prop} (h : flotillaref08_Noughts_x (std Try.prog) a0 w Q) : CallsR Try.prog 24 #[a0] w Q :=
  calls_of_funY mixed Try.func24 (Eq.mp (flotillaref08_Noughts_eq _ a0 w Q) h)

def stable_write_sectors_x (C : Comb) (a0 : Value) (a1 : Value) (w : World) (Q : Value → World → Prop) : Prop :=
  C.loop [(.int .i64 0)] w fun dv_1 vs_1 w again_1 =>
  C.step (sNil a0) w fun v7_1 w =>
  C.step (sFieldAddr 62 v7_1 1) w fun v8_1 w =>
  C.step (sLoad 34 v8_1) w fun v9_1 w =>
  C.step (sBuiltin .len #[34] 3 [false] [v9_1]) w fun v10_1 w =>
  C.step (sBin .lss 3 (.tmp 5) (.tmp 10) (vs_1.getD 0 undef) v10_1) w fun v11_1 w =>
  C.bool v11_1
  (C.step (sCallV a1 [(vs_1.getD 0 undef)]) w fun v16_1 w =>
  C.step (sUn .not v16_1) w fun v17_1 w =>
  C.bool v17_1
  (Q (.tuple #[]) w)
  (C.step (sBin .add 3 (.tmp 12) (.const (.int .i64 64)) (vs_1.getD 0 undef) (.int .i64 64)) w fun v13_1 w =>
  again_1 [v13_1] w))
  (Q (.tuple #[]) w)
theorem stable_write_sectors_eq (C : Comb) (a0 : Value) (a1 : Value) (w : World) (Q : Value → World → Prop) : stable_write_sectors_x C a0 a1 w Q = FunY Try.prog C 5 [] Try.f25 [a0, a1] w Q := by kernel_rfl
theorem stable_write_sectors_sound (a0 : Value) (a1 : Value) {w : World} {Q : Value → World → Prop} (h : stable_write_sectors_x (std Try.prog) a0 a1 w Q) : CallsR Try.prog 25 #[a0, a1] w Q :=
  calls_of_funY mixed Try.func25 (Eq.mp (stable_write_sectors_eq _ a0 a1 w Q) h)

end Go.Proofs.Ytdkahgknoohbpaa
