/- Functions of the program, read as statements without slots. Written by a program of this work. -/
import Derived.Test.YtilfkccahlkcaaaXf
import Derived.Test.YtilfkccahlkcaaaProg
import Derived.KernelRfl
namespace Go.Proofs.Ytilfkccahlkcaaa
open Go Xf
set_option maxRecDepth 100000
set_option linter.unusedVariables false

theorem mixed : Try.prog.follows .mixedOrders = true := by kernel_rfl

def flotillalaw20_OwnOne_k1 (C : Comb) (w : World) (Q : Value → World → Prop) : Prop :=
  C.calls 9 #[] w fun v218_1 w =>
  Q v218_1 w
def flotillalaw20_OwnOne_k2 (C : Comb) (vs_1 : List Value) (again_1 : List Value → World → Prop) (w : World) (Q : Value → World → Prop) : Prop :=
  C.step (sBin .add 3 (.tmp 45) (.const (.int .i64 1)) (vs_1.getD 0 undef) (.int .i64 1)) w fun v46_1 w =>
  again_1 [v46_1] w
def flotillalaw20_OwnOne_k5 (C : Comb) (vs_2 : List Value) (again_2 : List Value → World → Prop) (w : World) (Q : Value → World → Prop) : Prop :=
  C.step (sBin .add 3 (.tmp 189) (.const (.int .i64 1)) (vs_2.getD 0 undef) (.int .i64 1)) w fun v190_1 w =>
  again_2 [v190_1] w
def flotillalaw20_OwnOne_k6 (C : Comb) (w : World) (Q : Value → World → Prop) : Prop :=
  Q (.bool false) w
def flotillalaw20_OwnOne_k4 (C : Comb) (v28_1 : Value) (v9_1 : Value) (v10_1 : Value) (vs_1 : List Value) (again_1 : List Value → World → Prop) (u13_3 : Value) (w : World) (Q : Value → World → Prop) : Prop :=
  C.step (sLoad 29 v9_1) w fun v179_1 w =>
  C.calls 15 #[v179_1, u13_3] w fun v181_1 w =>
  C.step (sExtract v181_1 0) w fun v182_1 w =>
  C.step (sExtract v181_1 1) w fun v183_1 w =>
  C.step (sAlloc 29) w fun v17_1 w =>
  C.step (sStore 29 v17_1 v182_1) w fun vx_2 w =>
  C.step (sUn .not v183_1) w fun v185_1 w =>
  C.bool v185_1
  (Q (.bool false) w)
  (C.step (sLoad 29 v17_1) w fun v186_1 w =>
  C.step (sStore 29 v9_1 v186_1) w fun vx_3 w =>
  C.loop [(.int .i64 0)] w fun dv_2 vs_2 w again_2 =>
  C.step (sBin .lss 3 (.tmp 187) (.const (.int .i64 16)) (vs_2.getD 0 undef) (.int .i64 16)) w fun v188_1 w =>
  C.bool v188_1
  (C.draw w fun S_1 w =>
  C.stepS S_1 (sIndexAddr 29 v9_1 (vs_2.getD 0 undef)) fun v195_1 =>
  C.stepS S_1 (sLoad 3 v195_1) fun v196_1 =>
  C.calls 16 #[v28_1, (vs_2.getD 0 undef)] w fun v193_1 w =>
  C.keepS S_1 w fun S_2 =>
  C.stepS S_2 (sBin .neq 3 (.tmp 193) (.tmp 196) v193_1 v196_1) fun v197_1 =>
  C.bool v197_1
  (flotillalaw20_OwnOne_k6 C w Q)
  (C.stepS S_2 (sIndexAddr 30 v10_1 (vs_2.getD 0 undef)) fun v203_1 =>
  C.stepS S_2 (sLoad 4 v203_1) fun v204_1 =>
  C.calls 17 #[v28_1, (vs_2.getD 0 undef)] w fun v201_1 w =>
  C.keepS S_2 w fun S_3 =>
  C.stepS S_3 (sBin .neq 4 (.tmp 201) (.tmp 204) v201_1 v204_1) fun v205_1 =>
  C.bool v205_1
  (flotillalaw20_OwnOne_k6 C w Q)
  (C.stepS S_3 (sIndexAddr 29 v9_1 (vs_2.getD 0 undef)) fun v209_1 =>
  C.stepS S_3 (sLoad 3 v209_1) fun v210_1 =>
  C.stepS S_3 (sBin .neq 3 (.tmp 210) (.const (.int .i64 0)) v210_1 (.int .i64 0)) fun v211_1 =>
  C.bool v211_1
  (C.stepS S_3 (sIndexAddr 30 v10_1 (vs_2.getD 0 undef)) fun v214_1 =>
  C.stepS S_3 (sLoad 4 v214_1) fun v215_1 =>
  C.bool v215_1
  (Q (.bool false) w)
  (flotillalaw20_OwnOne_k5 C vs_2 again_2 w Q))
  (flotillalaw20_OwnOne_k5 C vs_2 again_2 w Q))))
  (flotillalaw20_OwnOne_k2 C vs_1 again_1 w Q))
def flotillalaw20_OwnOne_k3 (C : Comb) (v28_1 : Value) (v9_1 : Value) (v10_1 : Value) (vs_1 : List Value) (again_1 : List Value → World → Prop) (u13_3 : Value) (u14_3 : Value) (w : World) (Q : Value → World → Prop) : Prop :=
  C.step (sBin .neq 26 (.tmp 171) (.const (.int .i64 0)) u14_3 (.int .i64 0)) w fun v172_1 w =>
  C.bool v172_1
  (C.step (sBuiltin .len #[33] 3 [false] [u13_3]) w fun v175_1 w =>
  C.step (sBin .gtr 3 (.tmp 175) (.const (.int .i64 0)) v175_1 (.int .i64 0)) w fun v176_1 w =>
  C.bool v176_1
  (Q (.bool false) w)
  (flotillalaw20_OwnOne_k4 C v28_1 v9_1 v10_1 vs_1 again_1 u13_3 w Q))
  (flotillalaw20_OwnOne_k4 C v28_1 v9_1 v10_1 vs_1 again_1 u13_3 w Q)
def flotillalaw20_OwnOne_k7 (C : Comb) (w : World) (Q : Value → World → Prop) : Prop :=
  Q (.bool false) w
def flotillalaw20_OwnOne_k8 (C : Comb) (w : World) (Q : Value → World → Prop) : Prop :=
  Q (.bool false) w
def flotillalaw20_OwnOne_k9 (C : Comb) (w : World) (Q : Value → World → Prop) : Prop :=
  Q (.bool false) w
def flotillalaw20_OwnOne_x (C : Comb) (a0 : Value) (a1 : Value) (a2 : Value) (w : World) (Q : Value → World → Prop) : Prop :=
  C.step (sBuiltin .len #[22] 3 [false] [a1]) w fun v21_1 w =>
  C.step (sBin .gtr 3 (.tmp 21) (.const (.int .i64 100)) v21_1 (.int .i64 100)) w fun v22_1 w =>
  C.bool v22_1
  (C.calls 9 #[] w fun v23_1 w =>
  Q v23_1 w)
  (C.calls 10 #[a0, a1] w fun v27_1 w =>
  C.step (sExtract v27_1 0) w fun v28_1 w =>
  C.step (sExtract v27_1 1) w fun v29_1 w =>
  C.step (sBin .neq 26 (.tmp 30) (.const (.int .i64 0)) v29_1 (.int .i64 0)) w fun v31_1 w =>
  C.bool v31_1
  (C.step (sBin .eql 25 (.tmp 32) (.const (.pointer none)) v28_1 (.pointer none)) w fun v33_1 w =>
  C.bool v33_1
  (C.calls 9 #[] w fun v35_1 w =>
  Q v35_1 w)
  (Q (.bool false) w))
  (C.step (sAlloc 29) w fun v9_1 w =>
  C.step (sAlloc 30) w fun v10_1 w =>
  C.loop [(.int .i64 0)] w fun dv_1 vs_1 w again_1 =>
  C.step (sBuiltin .len #[23] 3 [false] [a2]) w fun v39_1 w =>
  C.step (sBin .lss 3 (.tmp 37) (.tmp 39) (vs_1.getD 0 undef) v39_1) w fun v40_1 w =>
  C.bool v40_1
  (C.step (sBin .lss 3 (.tmp 42) (.const (.int .i64 100)) (vs_1.getD 0 undef) (.int .i64 100)) w fun v43_1 w =>
  C.bool v43_1
  (C.step (sIndexAddr 23 a2 (vs_1.getD 0 undef)) w fun v49_1 w =>
  C.step (sLoad 32 v49_1) w fun v50_1 w =>
  C.step (sAlloc 32) w fun v12_1 w =>
  C.step (sStore 32 v12_1 v50_1) w fun vx_1 w =>
  C.step (sFieldAddr 32 v12_1 0) w fun v51_1 w =>
  C.step (sLoad 3 v51_1) w fun v52_1 w =>
  C.step (sBin .eql 3 (.tmp 52) (.const (.int .i64 0)) v52_1 (.int .i64 0)) w fun v54_1 w =>
  C.bool v54_1
  (C.step (sFieldAddr 32 v12_1 1) w fun v57_1 w =>
  C.step (sLoad 3 v57_1) w fun v58_1 w =>
  C.step (sFieldAddr 32 v12_1 2) w fun v59_1 w =>
  C.step (sLoad 3 v59_1) w fun v60_1 w =>
  C.calls 11 #[v28_1, v58_1, v60_1] w fun v61_1 w =>
  C.step (sExtract v61_1 0) w fun v62_1 w =>
  C.step (sExtract v61_1 1) w fun v63_1 w =>
  flotillalaw20_OwnOne_k3 C v28_1 v9_1 v10_1 vs_1 again_1 v62_1 v63_1 w Q)
  (C.step (sBin .eql 3 (.tmp 52) (.const (.int .i64 1)) v52_1 (.int .i64 1)) w fun v65_1 w =>
  C.bool v65_1
  (C.step (sFieldAddr 32 v12_1 1) w fun v68_1 w =>
  C.step (sLoad 3 v68_1) w fun v69_1 w =>
  C.step (sFieldAddr 32 v12_1 2) w fun v70_1 w =>
  C.step (sLoad 3 v70_1) w fun v71_1 w =>
  C.calls 12 #[v28_1, v69_1, v71_1] w fun v72_1 w =>
  C.step (sExtract v72_1 0) w fun v73_1 w =>
  C.step (sExtract v72_1 1) w fun v74_1 w =>
  C.step (sBin .eql 26 (.tmp 75) (.const (.int .i64 0)) v74_1 (.int .i64 0)) w fun v76_1 w =>
  C.bool v76_1
  (C.draw w fun S_4 w =>
  C.stepS S_4 (sFieldAddr 32 v12_1 1) fun v77_1 =>
  C.stepS S_4 (sLoad 3 v77_1) fun v78_1 =>
  C.stepS S_4 (sBin .lss 3 (.tmp 78) (.const (.int .i64 0)) v78_1 (.int .i64 0)) fun v79_1 =>
  C.bool v79_1
  (flotillalaw20_OwnOne_k7 C w Q)
  (C.stepS S_4 (sFieldAddr 32 v12_1 1) fun v81_1 =>
  C.stepS S_4 (sLoad 3 v81_1) fun v82_1 =>
  C.stepS S_4 (sBin .gtr 3 (.tmp 82) (.const (.int .i64 15)) v82_1 (.int .i64 15)) fun v83_1 =>
  C.bool v83_1
  (flotillalaw20_OwnOne_k7 C w Q)
  (C.stepS S_4 (sFieldAddr 32 v12_1 1) fun v86_1 =>
  C.stepS S_4 (sLoad 3 v86_1) fun v87_1 =>
  C.stepS S_4 (sIndexAddr 29 v9_1 v87_1) fun v88_1 =>
  C.stepS S_4 (sLoad 3 v88_1) fun v89_1 =>
  C.stepS S_4 (sFieldAddr 32 v12_1 2) fun v90_1 =>
  C.stepS S_4 (sLoad 3 v90_1) fun v91_1 =>
  C.stepS S_4 (sBin .neq 3 (.tmp 89) (.tmp 91) v89_1 v91_1) fun v92_1 =>
  C.bool v92_1
  (Q (.bool false) w)
  (C.step (sFieldAddr 32 v12_1 1) w fun v94_1 w =>
  C.step (sLoad 3 v94_1) w fun v95_1 w =>
  C.step (sIndexAddr 29 v9_1 v95_1) w fun v96_1 w =>
  C.step (sStore 3 v96_1 (.int .i64 0)) w fun vx_4 w =>
  flotillalaw20_OwnOne_k3 C v28_1 v9_1 v10_1 vs_1 again_1 v73_1 v74_1 w Q))))
  (flotillalaw20_OwnOne_k3 C v28_1 v9_1 v10_1 vs_1 again_1 v73_1 v74_1 w Q))
  (C.step (sBin .eql 3 (.tmp 52) (.const (.int .i64 2)) v52_1 (.int .i64 2)) w fun v98_1 w =>
  C.bool v98_1
  (C.step (sFieldAddr 32 v12_1 2) w fun v100_1 w =>
  C.step (sLoad 3 v100_1) w fun v101_1 w =>
  C.calls 13 #[v28_1, v101_1] w fun v102_1 w =>
  C.loop [(.int .i64 0)] w fun dv_3 vs_3 w again_3 =>
  C.step (sBuiltin .len #[36] 3 [false] [v102_1]) w fun v105_1 w =>
  C.step (sBin .lss 3 (.tmp 103) (.tmp 105) (vs_3.getD 0 undef) v105_1) w fun v106_1 w =>
  C.bool v106_1
  (C.draw w fun S_5 w =>
  C.stepS S_5 (sIndexAddr 36 v102_1 (vs_3.getD 0 undef)) fun v111_1 =>
  C.stepS S_5 (sLoad 3 v111_1) fun v112_1 =>
  C.stepS S_5 (sBin .lss 3 (.tmp 112) (.const (.int .i64 0)) v112_1 (.int .i64 0)) fun v113_1 =>
  C.bool v113_1
  (flotillalaw20_OwnOne_k8 C w Q)
  (C.stepS S_5 (sIndexAddr 36 v102_1 (vs_3.getD 0 undef)) fun v117_1 =>
  C.stepS S_5 (sLoad 3 v117_1) fun v118_1 =>
  C.stepS S_5 (sBin .gtr 3 (.tmp 118) (.const (.int .i64 15)) v118_1 (.int .i64 15)) fun v119_1 =>
  C.bool v119_1
  (flotillalaw20_OwnOne_k8 C w Q)
  (C.stepS S_5 (sIndexAddr 36 v102_1 (vs_3.getD 0 undef)) fun v124_1 =>
  C.stepS S_5 (sLoad 3 v124_1) fun v125_1 =>
  C.stepS S_5 (sIndexAddr 29 v9_1 v125_1) fun v126_1 =>
  C.stepS S_5 (sLoad 3 v126_1) fun v127_1 =>
  C.stepS S_5 (sFieldAddr 32 v12_1 2) fun v128_1 =>
  C.stepS S_5 (sLoad 3 v128_1) fun v129_1 =>
  C.stepS S_5 (sBin .neq 3 (.tmp 127) (.tmp 129) v127_1 v129_1) fun v130_1 =>
  C.bool v130_1
  (Q (.bool false) w)
  (C.step (sIndexAddr 36 v102_1 (vs_3.getD 0 undef)) w fun v134_1 w =>
  C.step (sLoad 3 v134_1) w fun v135_1 w =>
  C.step (sIndexAddr 29 v9_1 v135_1) w fun v136_1 w =>
  C.step (sStore 3 v136_1 (.int .i64 0)) w fun vx_5 w =>
  C.step (sIndexAddr 36 v102_1 (vs_3.getD 0 undef)) w fun v139_1 w =>
  C.step (sLoad 3 v139_1) w fun v140_1 w =>
  C.step (sIndexAddr 30 v10_1 v140_1) w fun v141_1 w =>
  C.step (sStore 4 v141_1 (.bool true)) w fun vx_6 w =>
  C.step (sBin .add 3 (.tmp 107) (.const (.int .i64 1)) (vs_3.getD 0 undef) (.int .i64 1)) w fun v108_1 w =>
  again_3 [v108_1] w))))
  (flotillalaw20_OwnOne_k3 C v28_1 v9_1 v10_1 vs_1 again_1 (.slice none 0 0) (.int .i64 0) w Q))
  (C.step (sBin .eql 3 (.tmp 52) (.const (.int .i64 3)) v52_1 (.int .i64 3)) w fun v143_1 w =>
  C.bool v143_1
  (C.step (sFieldAddr 32 v12_1 1) w fun v146_1 w =>
  C.step (sLoad 3 v146_1) w fun v147_1 w =>
  C.calls 14 #[v28_1, v147_1] w fun v148_1 w =>
  C.step (sExtract v148_1 0) w fun v149_1 w =>
  C.step (sExtract v148_1 1) w fun v150_1 w =>
  C.step (sBin .eql 26 (.tmp 151) (.const (.int .i64 0)) v150_1 (.int .i64 0)) w fun v152_1 w =>
  C.bool v152_1
  (C.step (sFieldAddr 32 v12_1 1) w fun v153_1 w =>
  C.step (sLoad 3 v153_1) w fun v154_1 w =>
  C.step (sBin .lss 3 (.tmp 154) (.const (.int .i64 0)) v154_1 (.int .i64 0)) w fun v155_1 w =>
  C.bool v155_1
  (flotillalaw20_OwnOne_k9 C w Q)
  (C.step (sFieldAddr 32 v12_1 1) w fun v157_1 w =>
  C.step (sLoad 3 v157_1) w fun v158_1 w =>
  C.step (sBin .gtr 3 (.tmp 158) (.const (.int .i64 15)) v158_1 (.int .i64 15)) w fun v159_1 w =>
  C.bool v159_1
  (flotillalaw20_OwnOne_k9 C w Q)
  (C.step (sFieldAddr 32 v12_1 1) w fun v162_1 w =>
  C.step (sLoad 3 v162_1) w fun v163_1 w =>
  C.step (sIndexAddr 30 v10_1 v163_1) w fun v164_1 w =>
  C.step (sLoad 4 v164_1) w fun v165_1 w =>
  C.step (sUn .not v165_1) w fun v166_1 w =>
  C.bool v166_1
  (Q (.bool false) w)
  (C.step (sFieldAddr 32 v12_1 1) w fun v168_1 w =>
  C.step (sLoad 3 v168_1) w fun v169_1 w =>
  C.step (sIndexAddr 30 v10_1 v169_1) w fun v170_1 w =>
  C.step (sStore 4 v170_1 (.bool false)) w fun vx_7 w =>
  flotillalaw20_OwnOne_k3 C v28_1 v9_1 v10_1 vs_1 again_1 v149_1 v150_1 w Q))))
  (flotillalaw20_OwnOne_k3 C v28_1 v9_1 v10_1 vs_1 again_1 v149_1 v150_1 w Q))
  (flotillalaw20_OwnOne_k3 C v28_1 v9_1 v10_1 vs_1 again_1 (.slice none 0 0) (.int .i64 0) w Q)))))
  (flotillalaw20_OwnOne_k1 C w Q))
  (flotillalaw20_OwnOne_k1 C w Q)))
theorem flotillalaw20_OwnOne_eq (C : Comb) (a0 : Value) (a1 : Value) (a2 : Value) (w : World) (Q : Value → World → Prop) : flotillalaw20_OwnOne_x C a0 a1 a2 w Q = FunY Try.prog C 2 Try.f3 [a0, a1, a2] w Q := by kernel_rfl
theorem flotillalaw20_OwnOne_sound (a0 : Value) (a1 : Value) (a2 : Value) {w : World} {Q : Value → World → Prop} (h : flotillalaw20_OwnOne_x (std Try.prog) a0 a1 a2 w Q) : CallsR Try.prog 3 #[a0, a1, a2] w Q :=
  calls_of_funY mixed Try.func3 (Eq.mp (flotillalaw20_OwnOne_eq _ a0 a1 a2 w Q) h)

def flotillalaw20_OwnTurns_k3 (C : Comb) (a2 : Value) (v19_1 : Value) (w : World) (Q : Value → World → Prop) : Prop :=
  C.calls 18 #[v19_1, a2] w fun v246_1 w =>
  C.step (sBuiltin .len #[36] 3 [false] [v246_1]) w fun v247_1 w =>
  C.step (sBin .eql 3 (.tmp 247) (.const (.int .i64 0)) v247_1 (.int .i64 0)) w fun v248_1 w =>
  C.bool v248_1
  (C.calls 9 #[] w fun v250_1 w =>
  Q v250_1 w)
  (Q (.bool false) w)
def flotillalaw20_OwnTurns_k4 (C : Comb) (vs_1 : List Value) (again_1 : List Value → World → Prop) (w : World) (Q : Value → World → Prop) : Prop :=
  C.step (sBin .add 3 (.tmp 154) (.const (.int .i64 1)) (vs_1.getD 0 undef) (.int .i64 1)) w fun v155_1 w =>
  again_1 [v155_1] w
def flotillalaw20_OwnTurns_k5 (C : Comb) (w : World) (Q : Value → World → Prop) : Prop :=
  Q (.bool false) w
def flotillalaw20_OwnTurns_k6 (C : Comb) (w : World) (Q : Value → World → Prop) : Prop :=
  Q (.bool false) w
def flotillalaw20_OwnTurns_k2 (C : Comb) (a2 : Value) (v19_1 : Value) (u10_2 : Value) (w : World) (Q : Value → World → Prop) : Prop :=
  C.loop [(.int .i64 0)] w fun dv_1 vs_1 w again_1 =>
  C.step (sBuiltin .len #[36] 3 [false] [u10_2]) w fun v152_1 w =>
  C.step (sBin .lss 3 (.tmp 150) (.tmp 152) (vs_1.getD 0 undef) v152_1) w fun v153_1 w =>
  C.bool v153_1
  (C.calls 16 #[v19_1, a2] w fun v161_1 w =>
  C.calls 12 #[v19_1, a2, v161_1] w fun v162_1 w =>
  C.step (sExtract v162_1 0) w fun v163_1 w =>
  C.step (sExtract v162_1 1) w fun v164_1 w =>
  C.draw w fun S_1 w =>
  C.stepS S_1 (sBin .neq 26 (.tmp 165) (.const (.int .i64 0)) v164_1 (.int .i64 0)) fun v166_1 =>
  C.bool v166_1
  (flotillalaw20_OwnTurns_k5 C w Q)
  (C.stepS S_1 (sBuiltin .len #[33] 3 [false] [v163_1]) fun v169_1 =>
  C.stepS S_1 (sBin .eql 3 (.tmp 169) (.const (.int .i64 0)) v169_1 (.int .i64 0)) fun v170_1 =>
  C.bool v170_1
  (flotillalaw20_OwnTurns_k5 C w Q)
  (C.stepS S_1 (sIndexAddr 33 v163_1 (.int .i64 0)) fun v174_1 =>
  C.stepS S_1 (sFieldAddr 46 v174_1 0) fun v175_1 =>
  C.stepS S_1 (sLoad 44 v175_1) fun v176_1 =>
  C.stepS S_1 (sBin .neq 44 (.tmp 176) (.const (.int .i64 1)) v176_1 (.int .i64 1)) fun v177_1 =>
  C.bool v177_1
  (flotillalaw20_OwnTurns_k5 C w Q)
  (C.stepS S_1 (sIndexAddr 33 v163_1 (.int .i64 0)) fun v181_1 =>
  C.stepS S_1 (sFieldAddr 46 v181_1 3) fun v182_1 =>
  C.stepS S_1 (sLoad 3 v182_1) fun v183_1 =>
  C.stepS S_1 (sIndexAddr 36 u10_2 (vs_1.getD 0 undef)) fun v186_1 =>
  C.stepS S_1 (sLoad 3 v186_1) fun v187_1 =>
  C.stepS S_1 (sBin .neq 3 (.tmp 183) (.tmp 187) v183_1 v187_1) fun v188_1 =>
  C.bool v188_1
  (flotillalaw20_OwnTurns_k5 C w Q)
  (C.stepS S_1 (sIndexAddr 36 u10_2 (vs_1.getD 0 undef)) fun v196_1 =>
  C.stepS S_1 (sLoad 3 v196_1) fun v197_1 =>
  C.calls 16 #[v19_1, a2] w fun v193_1 w =>
  C.keepS S_1 w fun S_2 =>
  C.stepS S_2 (sBin .neq 3 (.tmp 193) (.tmp 197) v193_1 v197_1) fun v198_1 =>
  C.bool v198_1
  (Q (.bool false) w)
  (C.draw w fun S_3 w =>
  C.stepS S_3 (sBuiltin .len #[33] 3 [false] [v163_1]) fun v201_1 =>
  C.stepS S_3 (sBin .eql 3 (.tmp 201) (.const (.int .i64 2)) v201_1 (.int .i64 2)) fun v202_1 =>
  C.stepS S_3 (sBin .add 3 (.tmp 203) (.const (.int .i64 1)) (vs_1.getD 0 undef) (.int .i64 1)) fun v204_1 =>
  C.stepS S_3 (sBuiltin .len #[36] 3 [false] [u10_2]) fun v206_1 =>
  C.stepS S_3 (sBin .lss 3 (.tmp 204) (.tmp 206) v204_1 v206_1) fun v207_1 =>
  C.stepS S_3 (sBin .neq 4 (.tmp 202) (.tmp 207) v202_1 v207_1) fun v208_1 =>
  C.bool v208_1
  (flotillalaw20_OwnTurns_k6 C w Q)
  (C.stepS S_3 (sBuiltin .len #[33] 3 [false] [v163_1]) fun v211_1 =>
  C.stepS S_3 (sBin .eql 3 (.tmp 211) (.const (.int .i64 2)) v211_1 (.int .i64 2)) fun v212_1 =>
  C.bool v212_1
  (C.stepS S_3 (sIndexAddr 33 v163_1 (.int .i64 1)) fun v215_1 =>
  C.stepS S_3 (sFieldAddr 46 v215_1 0) fun v216_1 =>
  C.stepS S_3 (sLoad 44 v216_1) fun v217_1 =>
  C.stepS S_3 (sBin .neq 44 (.tmp 217) (.const (.int .i64 2)) v217_1 (.int .i64 2)) fun v218_1 =>
  C.bool v218_1
  (flotillalaw20_OwnTurns_k6 C w Q)
  (C.stepS S_3 (sIndexAddr 33 v163_1 (.int .i64 1)) fun v221_1 =>
  C.stepS S_3 (sFieldAddr 46 v221_1 2) fun v222_1 =>
  C.stepS S_3 (sLoad 3 v222_1) fun v223_1 =>
  C.stepS S_3 (sIndexAddr 36 u10_2 (vs_1.getD 0 undef)) fun v226_1 =>
  C.stepS S_3 (sLoad 3 v226_1) fun v227_1 =>
  C.stepS S_3 (sBin .neq 3 (.tmp 223) (.tmp 227) v223_1 v227_1) fun v228_1 =>
  C.bool v228_1
  (flotillalaw20_OwnTurns_k6 C w Q)
  (C.stepS S_3 (sIndexAddr 33 v163_1 (.int .i64 1)) fun v232_1 =>
  C.stepS S_3 (sFieldAddr 46 v232_1 3) fun v233_1 =>
  C.stepS S_3 (sLoad 3 v233_1) fun v234_1 =>
  C.stepS S_3 (sBin .add 3 (.tmp 236) (.const (.int .i64 1)) (vs_1.getD 0 undef) (.int .i64 1)) fun v237_1 =>
  C.stepS S_3 (sIndexAddr 36 u10_2 v237_1) fun v238_1 =>
  C.stepS S_3 (sLoad 3 v238_1) fun v239_1 =>
  C.stepS S_3 (sBin .neq 3 (.tmp 234) (.tmp 239) v234_1 v239_1) fun v240_1 =>
  C.bool v240_1
  (Q (.bool false) w)
  (flotillalaw20_OwnTurns_k4 C vs_1 again_1 w Q))))
  (flotillalaw20_OwnTurns_k4 C vs_1 again_1 w Q))))))))
  (flotillalaw20_OwnTurns_k3 C a2 v19_1 w Q)
def flotillalaw20_OwnTurns_k7 (C : Comb) (a2 : Value) (v19_1 : Value) (v106_1 : Value) (w : World) (Q : Value → World → Prop) : Prop :=
  C.step (sBuiltin .len #[36] 3 [false] [v106_1]) w fun v146_1 w =>
  C.step (sBin .gtr 3 (.tmp 146) (.const (.int .i64 0)) v146_1 (.int .i64 0)) w fun v147_1 w =>
  C.bool v147_1
  (C.step (sSlice 36 v106_1 (some (.int .i64 1)) none none) w fun v149_1 w =>
  flotillalaw20_OwnTurns_k2 C a2 v19_1 v149_1 w Q)
  (flotillalaw20_OwnTurns_k2 C a2 v19_1 v106_1 w Q)
def flotillalaw20_OwnTurns_k8 (C : Comb) (w : World) (Q : Value → World → Prop) : Prop :=
  Q (.bool false) w
def flotillalaw20_OwnTurns_k1 (C : Comb) (a0 : Value) (a2 : Value) (v19_1 : Value) (w : World) (Q : Value → World → Prop) : Prop :=
  C.step (sBin .lss 3 (.tmp 89) (.const (.int .i64 0)) a2 (.int .i64 0)) w fun v90_1 w =>
  C.bool v90_1
  (C.calls 18 #[v19_1, a2] w fun v98_1 w =>
  C.step (sBuiltin .len #[36] 3 [false] [v98_1]) w fun v99_1 w =>
  C.step (sBin .eql 3 (.tmp 99) (.const (.int .i64 0)) v99_1 (.int .i64 0)) w fun v100_1 w =>
  C.bool v100_1
  (C.calls 9 #[] w fun v102_1 w =>
  Q v102_1 w)
  (Q (.bool false) w))
  (C.step (sBin .geq 3 (.tmp 92) (.tmp 93) a2 a0) w fun v94_1 w =>
  C.bool v94_1
  (C.calls 18 #[v19_1, a2] w fun v98_2 w =>
  C.step (sBuiltin .len #[36] 3 [false] [v98_2]) w fun v99_2 w =>
  C.step (sBin .eql 3 (.tmp 99) (.const (.int .i64 0)) v99_2 (.int .i64 0)) w fun v100_2 w =>
  C.bool v100_2
  (C.calls 9 #[] w fun v102_2 w =>
  Q v102_2 w)
  (Q (.bool false) w))
  (C.calls 18 #[v19_1, a2] w fun v106_1 w =>
  C.calls 17 #[v19_1, a2] w fun v109_1 w =>
  C.bool v109_1
  (C.calls 14 #[v19_1, a2] w fun v113_1 w =>
  C.step (sExtract v113_1 0) w fun v114_1 w =>
  C.step (sExtract v113_1 1) w fun v115_1 w =>
  C.draw w fun S_4 w =>
  C.stepS S_4 (sBin .neq 26 (.tmp 116) (.const (.int .i64 0)) v115_1 (.int .i64 0)) fun v117_1 =>
  C.bool v117_1
  (flotillalaw20_OwnTurns_k8 C w Q)
  (C.stepS S_4 (sBuiltin .len #[36] 3 [false] [v106_1]) fun v120_1 =>
  C.stepS S_4 (sBin .gtr 3 (.tmp 120) (.const (.int .i64 0)) v120_1 (.int .i64 0)) fun v121_1 =>
  C.bool v121_1
  (C.stepS S_4 (sBuiltin .len #[33] 3 [false] [v114_1]) fun v124_1 =>
  C.stepS S_4 (sBin .eql 3 (.tmp 124) (.const (.int .i64 0)) v124_1 (.int .i64 0)) fun v125_1 =>
  C.bool v125_1
  (flotillalaw20_OwnTurns_k8 C w Q)
  (C.stepS S_4 (sIndexAddr 33 v114_1 (.int .i64 0)) fun v128_1 =>
  C.stepS S_4 (sFieldAddr 46 v128_1 0) fun v129_1 =>
  C.stepS S_4 (sLoad 44 v129_1) fun v130_1 =>
  C.stepS S_4 (sBin .neq 44 (.tmp 130) (.const (.int .i64 1)) v130_1 (.int .i64 1)) fun v131_1 =>
  C.bool v131_1
  (flotillalaw20_OwnTurns_k8 C w Q)
  (C.stepS S_4 (sIndexAddr 33 v114_1 (.int .i64 0)) fun v135_1 =>
  C.stepS S_4 (sFieldAddr 46 v135_1 3) fun v136_1 =>
  C.stepS S_4 (sLoad 3 v136_1) fun v137_1 =>
  C.stepS S_4 (sIndexAddr 36 v106_1 (.int .i64 0)) fun v139_1 =>
  C.stepS S_4 (sLoad 3 v139_1) fun v140_1 =>
  C.stepS S_4 (sBin .neq 3 (.tmp 137) (.tmp 140) v137_1 v140_1) fun v141_1 =>
  C.bool v141_1
  (Q (.bool false) w)
  (flotillalaw20_OwnTurns_k7 C a2 v19_1 v106_1 w Q))))
  (flotillalaw20_OwnTurns_k7 C a2 v19_1 v106_1 w Q)))
  (flotillalaw20_OwnTurns_k2 C a2 v19_1 v106_1 w Q)))
def flotillalaw20_OwnTurns_k9 (C : Comb) (vs_2 : List Value) (again_2 : List Value → World → Prop) (w : World) (Q : Value → World → Prop) : Prop :=
  C.step (sBin .add 3 (.tmp 36) (.const (.int .i64 1)) (vs_2.getD 0 undef) (.int .i64 1)) w fun v37_1 w =>
  again_2 [v37_1] w
def flotillalaw20_OwnTurns_x (C : Comb) (a0 : Value) (a1 : Value) (a2 : Value) (w : World) (Q : Value → World → Prop) : Prop :=
  C.calls 10 #[a0, (.slice none 0 0)] w fun v18_1 w =>
  C.step (sExtract v18_1 0) w fun v19_1 w =>
  C.step (sExtract v18_1 1) w fun v20_1 w =>
  C.step (sBin .neq 26 (.tmp 21) (.const (.int .i64 0)) v20_1 (.int .i64 0)) w fun v22_1 w =>
  C.bool v22_1
  (C.step (sBin .eql 25 (.tmp 23) (.const (.pointer none)) v19_1 (.pointer none)) w fun v24_1 w =>
  C.bool v24_1
  (C.calls 9 #[] w fun v26_1 w =>
  Q v26_1 w)
  (Q (.bool false) w))
  (C.loop [(.int .i64 0)] w fun dv_2 vs_2 w again_2 =>
  C.step (sBuiltin .len #[23] 3 [false] [a1]) w fun v30_1 w =>
  C.step (sBin .lss 3 (.tmp 28) (.tmp 30) (vs_2.getD 0 undef) v30_1) w fun v31_1 w =>
  C.bool v31_1
  (C.step (sBin .lss 3 (.tmp 33) (.const (.int .i64 80)) (vs_2.getD 0 undef) (.int .i64 80)) w fun v34_1 w =>
  C.bool v34_1
  (C.step (sIndexAddr 23 a1 (vs_2.getD 0 undef)) w fun v40_1 w =>
  C.step (sFieldAddr 32 v40_1 0) w fun v41_1 w =>
  C.step (sLoad 3 v41_1) w fun v42_1 w =>
  C.step (sBin .eql 3 (.tmp 42) (.const (.int .i64 0)) v42_1 (.int .i64 0)) w fun v44_1 w =>
  C.bool v44_1
  (C.draw w fun S_5 w =>
  C.stepS S_5 (sIndexAddr 23 a1 (vs_2.getD 0 undef)) fun v48_1 =>
  C.stepS S_5 (sFieldAddr 32 v48_1 1) fun v49_1 =>
  C.stepS S_5 (sLoad 3 v49_1) fun v50_1 =>
  C.stepS S_5 (sIndexAddr 23 a1 (vs_2.getD 0 undef)) fun v53_1 =>
  C.stepS S_5 (sFieldAddr 32 v53_1 2) fun v54_1 =>
  C.stepS S_5 (sLoad 3 v54_1) fun v55_1 =>
  C.calls 11 #[v19_1, v50_1, v55_1] w fun v56_1 w =>
  C.keepT w fun S_6 =>
  flotillalaw20_OwnTurns_k9 C vs_2 again_2 w Q)
  (C.step (sBin .eql 3 (.tmp 42) (.const (.int .i64 1)) v42_1 (.int .i64 1)) w fun v58_1 w =>
  C.bool v58_1
  (C.draw w fun S_7 w =>
  C.stepS S_7 (sIndexAddr 23 a1 (vs_2.getD 0 undef)) fun v62_1 =>
  C.stepS S_7 (sFieldAddr 32 v62_1 1) fun v63_1 =>
  C.stepS S_7 (sLoad 3 v63_1) fun v64_1 =>
  C.stepS S_7 (sIndexAddr 23 a1 (vs_2.getD 0 undef)) fun v67_1 =>
  C.stepS S_7 (sFieldAddr 32 v67_1 2) fun v68_1 =>
  C.stepS S_7 (sLoad 3 v68_1) fun v69_1 =>
  C.calls 12 #[v19_1, v64_1, v69_1] w fun v70_1 w =>
  C.keepT w fun S_8 =>
  flotillalaw20_OwnTurns_k9 C vs_2 again_2 w Q)
  (C.step (sBin .eql 3 (.tmp 42) (.const (.int .i64 2)) v42_1 (.int .i64 2)) w fun v72_1 w =>
  C.bool v72_1
  (C.step (sIndexAddr 23 a1 (vs_2.getD 0 undef)) w fun v76_1 w =>
  C.step (sFieldAddr 32 v76_1 2) w fun v77_1 w =>
  C.step (sLoad 3 v77_1) w fun v78_1 w =>
  C.calls 13 #[v19_1, v78_1] w fun v79_1 w =>
  flotillalaw20_OwnTurns_k9 C vs_2 again_2 w Q)
  (C.step (sBin .eql 3 (.tmp 42) (.const (.int .i64 3)) v42_1 (.int .i64 3)) w fun v81_1 w =>
  C.bool v81_1
  (C.step (sIndexAddr 23 a1 (vs_2.getD 0 undef)) w fun v85_1 w =>
  C.step (sFieldAddr 32 v85_1 1) w fun v86_1 w =>
  C.step (sLoad 3 v86_1) w fun v87_1 w =>
  C.calls 14 #[v19_1, v87_1] w fun v88_1 w =>
  flotillalaw20_OwnTurns_k9 C vs_2 again_2 w Q)
  (flotillalaw20_OwnTurns_k9 C vs_2 again_2 w Q)))))
  (flotillalaw20_OwnTurns_k1 C a0 a2 v19_1 w Q))
  (flotillalaw20_OwnTurns_k1 C a0 a2 v19_1 w Q))
theorem flotillalaw20_OwnTurns_eq (C : Comb) (a0 : Value) (a1 : Value) (a2 : Value) (w : World) (Q : Value → World → Prop) : flotillalaw20_OwnTurns_x C a0 a1 a2 w Q = FunY Try.prog C 2 Try.f4 [a0, a1, a2] w Q := by kernel_rfl
theorem flotillalaw20_OwnTurns_sound (a0 : Value) (a1 : Value) (a2 : Value) {w : World} {Q : Value → World → Prop} (h : flotillalaw20_OwnTurns_x (std Try.prog) a0 a1 a2 w Q) : CallsR Try.prog 4 #[a0, a1, a2] w Q :=
  calls_of_funY mixed Try.func4 (Eq.mp (flotillalaw20_OwnTurns_eq _ a0 a1 a2 w Q) h)

def flotillalaw20_OwnEnds_k4 (C : Comb) (w : World) (Q : Value → World → Prop) : Prop :=
  C.calls 9 #[] w fun v185_1 w =>
  Q v185_1 w
def flotillalaw20_OwnEnds_k3 (C : Comb) (a0 : Value) (v20_1 : Value) (w : World) (Q : Value → World → Prop) : Prop :=
  C.loop [(.int .i64 0)] w fun dv_1 vs_1 w again_1 =>
  C.step (sBin .lss 3 (.tmp 170) (.tmp 171) (vs_1.getD 0 undef) a0) w fun v172_1 w =>
  C.bool v172_1
  (C.calls 18 #[v20_1, (vs_1.getD 0 undef)] w fun v177_1 w =>
  C.step (sBuiltin .len #[36] 3 [false] [v177_1]) w fun v178_1 w =>
  C.step (sBin .gtr 3 (.tmp 178) (.const (.int .i64 0)) v178_1 (.int .i64 0)) w fun v179_1 w =>
  C.bool v179_1
  (Q (.bool false) w)
  (C.calls 17 #[v20_1, (vs_1.getD 0 undef)] w fun v183_1 w =>
  C.bool v183_1
  (Q (.bool false) w)
  (C.step (sBin .add 3 (.tmp 173) (.const (.int .i64 1)) (vs_1.getD 0 undef) (.int .i64 1)) w fun v174_1 w =>
  again_1 [v174_1] w)))
  (flotillalaw20_OwnEnds_k4 C w Q)
def flotillalaw20_OwnEnds_k5 (C : Comb) (vs_2 : List Value) (again_2 : List Value → World → Prop) (u7_5 : Value) (w : World) (Q : Value → World → Prop) : Prop :=
  C.step (sBin .add 3 (.tmp 127) (.const (.int .i64 1)) (vs_2.getD 1 undef) (.int .i64 1)) w fun v128_1 w =>
  again_2 [u7_5, v128_1] w
def flotillalaw20_OwnEnds_k2 (C : Comb) (a0 : Value) (v20_1 : Value) (u7_2 : Value) (w : World) (Q : Value → World → Prop) : Prop :=
  C.loop [u7_2, (.int .i64 0)] w fun dv_2 vs_2 w again_2 =>
  C.step (sBuiltin .len #[33] 3 [false] [(vs_2.getD 0 undef)]) w fun v121_1 w =>
  C.step (sBin .lss 3 (.tmp 119) (.tmp 121) (vs_2.getD 1 undef) v121_1) w fun v122_1 w =>
  C.bool v122_1
  (C.step (sBin .lss 3 (.tmp 124) (.const (.int .i64 2000)) (vs_2.getD 1 undef) (.int .i64 2000)) w fun v125_1 w =>
  C.bool v125_1
  (C.draw w fun S_1 w =>
  C.stepS S_1 (sIndexAddr 33 (vs_2.getD 0 undef) (vs_2.getD 1 undef)) fun v131_1 =>
  C.stepS S_1 (sFieldAddr 46 v131_1 0) fun v132_1 =>
  C.stepS S_1 (sLoad 44 v132_1) fun v133_1 =>
  C.stepS S_1 (sBin .eql 44 (.tmp 133) (.const (.int .i64 2)) v133_1 (.int .i64 2)) fun v134_1 =>
  C.bool v134_1
  (C.stepS S_1 (sIndexAddr 33 (vs_2.getD 0 undef) (vs_2.getD 1 undef)) fun v139_1 =>
  C.stepS S_1 (sFieldAddr 46 v139_1 1) fun v140_1 =>
  C.stepS S_1 (sLoad 3 v140_1) fun v141_1 =>
  C.stepS S_1 (sIndexAddr 33 (vs_2.getD 0 undef) (vs_2.getD 1 undef)) fun v145_1 =>
  C.stepS S_1 (sFieldAddr 46 v145_1 2) fun v146_1 =>
  C.stepS S_1 (sLoad 3 v146_1) fun v147_1 =>
  C.calls 16 #[v20_1, v141_1] w fun v142_1 w =>
  C.keepS S_1 w fun S_2 =>
  C.stepS S_2 (sBin .eql 3 (.tmp 142) (.tmp 147) v142_1 v147_1) fun v148_1 =>
  C.bool v148_1
  (C.draw w fun S_3 w =>
  C.stepS S_3 (sIndexAddr 33 (vs_2.getD 0 undef) (vs_2.getD 1 undef)) fun v154_1 =>
  C.stepS S_3 (sFieldAddr 46 v154_1 1) fun v155_1 =>
  C.stepS S_3 (sLoad 3 v155_1) fun v156_1 =>
  C.stepS S_3 (sIndexAddr 33 (vs_2.getD 0 undef) (vs_2.getD 1 undef)) fun v159_1 =>
  C.stepS S_3 (sFieldAddr 46 v159_1 2) fun v160_1 =>
  C.stepS S_3 (sLoad 3 v160_1) fun v161_1 =>
  C.calls 12 #[v20_1, v156_1, v161_1] w fun v162_1 w =>
  C.keepT w fun S_4 =>
  C.stepS S_4 (sExtract v162_1 0) fun v163_1 =>
  C.stepS S_4 (sExtract v162_1 1) fun v164_1 =>
  C.step (sBin .neq 26 (.tmp 165) (.const (.int .i64 0)) v164_1 (.int .i64 0)) w fun v166_1 w =>
  C.bool v166_1
  (Q (.bool false) w)
  (C.step (sBuiltin .append #[33, 33] 33 [false, false] [(vs_2.getD 0 undef), v163_1]) w fun v169_1 w =>
  flotillalaw20_OwnEnds_k5 C vs_2 again_2 v169_1 w Q))
  (flotillalaw20_OwnEnds_k5 C vs_2 again_2 (vs_2.getD 0 undef) w Q))
  (flotillalaw20_OwnEnds_k5 C vs_2 again_2 (vs_2.getD 0 undef) w Q))
  (flotillalaw20_OwnEnds_k3 C a0 v20_1 w Q))
  (flotillalaw20_OwnEnds_k3 C a0 v20_1 w Q)
def flotillalaw20_OwnEnds_k6 (C : Comb) (vs_3 : List Value) (again_3 : List Value → World → Prop) (u7_6 : Value) (w : World) (Q : Value → World → Prop) : Prop :=
  C.step (sBin .add 3 (.tmp 105) (.const (.int .i64 1)) (vs_3.getD 1 undef) (.int .i64 1)) w fun v106_1 w =>
  again_3 [u7_6, v106_1] w
def flotillalaw20_OwnEnds_k1 (C : Comb) (a0 : Value) (v20_1 : Value) (u7_1 : Value) (w : World) (Q : Value → World → Prop) : Prop :=
  C.loop [u7_1, (.int .i64 0)] w fun dv_3 vs_3 w again_3 =>
  C.step (sBin .lss 3 (.tmp 102) (.tmp 103) (vs_3.getD 1 undef) a0) w fun v104_1 w =>
  C.bool v104_1
  (C.calls 17 #[v20_1, (vs_3.getD 1 undef)] w fun v109_1 w =>
  C.bool v109_1
  (C.calls 14 #[v20_1, (vs_3.getD 1 undef)] w fun v113_1 w =>
  C.step (sExtract v113_1 0) w fun v114_1 w =>
  C.step (sExtract v113_1 1) w fun v115_1 w =>
  C.step (sBuiltin .append #[33, 33] 33 [false, false] [(vs_3.getD 0 undef), v114_1]) w fun v118_1 w =>
  flotillalaw20_OwnEnds_k6 C vs_3 again_3 v118_1 w Q)
  (flotillalaw20_OwnEnds_k6 C vs_3 again_3 (vs_3.getD 0 undef) w Q))
  (flotillalaw20_OwnEnds_k2 C a0 v20_1 (vs_3.getD 0 undef) w Q)
def flotillalaw20_OwnEnds_k7 (C : Comb) (vs_4 : List Value) (again_4 : List Value → World → Prop) (u9_7 : Value) (w : World) (Q : Value → World → Prop) : Prop :=
  C.step (sBuiltin .append #[33, 33] 33 [false, false] [(vs_4.getD 0 undef), u9_7]) w fun v101_1 w =>
  C.step (sBin .add 3 (.tmp 37) (.const (.int .i64 1)) (vs_4.getD 1 undef) (.int .i64 1)) w fun v38_1 w =>
  again_4 [v101_1, v38_1] w
def flotillalaw20_OwnEnds_x (C : Comb) (a0 : Value) (a1 : Value) (w : World) (Q : Value → World → Prop) : Prop :=
  C.calls 10 #[a0, (.slice none 0 0)] w fun v19_1 w =>
  C.step (sExtract v19_1 0) w fun v20_1 w =>
  C.step (sExtract v19_1 1) w fun v21_1 w =>
  C.step (sBin .neq 26 (.tmp 22) (.const (.int .i64 0)) v21_1 (.int .i64 0)) w fun v23_1 w =>
  C.bool v23_1
  (C.step (sBin .eql 25 (.tmp 24) (.const (.pointer none)) v20_1 (.pointer none)) w fun v25_1 w =>
  C.bool v25_1
  (C.calls 9 #[] w fun v27_1 w =>
  Q v27_1 w)
  (Q (.bool false) w))
  (C.loop [(.slice none 0 0), (.int .i64 0)] w fun dv_4 vs_4 w again_4 =>
  C.step (sBuiltin .len #[23] 3 [false] [a1]) w fun v31_1 w =>
  C.step (sBin .lss 3 (.tmp 29) (.tmp 31) (vs_4.getD 1 undef) v31_1) w fun v32_1 w =>
  C.bool v32_1
  (C.step (sBin .lss 3 (.tmp 34) (.const (.int .i64 80)) (vs_4.getD 1 undef) (.int .i64 80)) w fun v35_1 w =>
  C.bool v35_1
  (C.step (sIndexAddr 23 a1 (vs_4.getD 1 undef)) w fun v41_1 w =>
  C.step (sFieldAddr 32 v41_1 0) w fun v42_1 w =>
  C.step (sLoad 3 v42_1) w fun v43_1 w =>
  C.step (sBin .eql 3 (.tmp 43) (.const (.int .i64 0)) v43_1 (.int .i64 0)) w fun v45_1 w =>
  C.bool v45_1
  (C.draw w fun S_5 w =>
  C.stepS S_5 (sIndexAddr 23 a1 (vs_4.getD 1 undef)) fun v50_1 =>
  C.stepS S_5 (sFieldAddr 32 v50_1 1) fun v51_1 =>
  C.stepS S_5 (sLoad 3 v51_1) fun v52_1 =>
  C.stepS S_5 (sIndexAddr 23 a1 (vs_4.getD 1 undef)) fun v55_1 =>
  C.stepS S_5 (sFieldAddr 32 v55_1 2) fun v56_1 =>
  C.stepS S_5 (sLoad 3 v56_1) fun v57_1 =>
  C.calls 11 #[v20_1, v52_1, v57_1] w fun v58_1 w =>
  C.keepT w fun S_6 =>
  C.stepS S_6 (sExtract v58_1 0) fun v59_1 =>
  C.stepS S_6 (sExtract v58_1 1) fun v60_1 =>
  flotillalaw20_OwnEnds_k7 C vs_4 again_4 v59_1 w Q)
  (C.step (sBin .eql 3 (.tmp 43) (.const (.int .i64 1)) v43_1 (.int .i64 1)) w fun v62_1 w =>
  C.bool v62_1
  (C.draw w fun S_7 w =>
  C.stepS S_7 (sIndexAddr 23 a1 (vs_4.getD 1 undef)) fun v67_1 =>
  C.stepS S_7 (sFieldAddr 32 v67_1 1) fun v68_1 =>
  C.stepS S_7 (sLoad 3 v68_1) fun v69_1 =>
  C.stepS S_7 (sIndexAddr 23 a1 (vs_4.getD 1 undef)) fun v72_1 =>
  C.stepS S_7 (sFieldAddr 32 v72_1 2) fun v73_1 =>
  C.stepS S_7 (sLoad 3 v73_1) fun v74_1 =>
  C.calls 12 #[v20_1, v69_1, v74_1] w fun v75_1 w =>
  C.keepT w fun S_8 =>
  C.stepS S_8 (sExtract v75_1 0) fun v76_1 =>
  C.stepS S_8 (sExtract v75_1 1) fun v77_1 =>
  flotillalaw20_OwnEnds_k7 C vs_4 again_4 v76_1 w Q)
  (C.step (sBin .eql 3 (.tmp 43) (.const (.int .i64 2)) v43_1 (.int .i64 2)) w fun v79_1 w =>
  C.bool v79_1
  (C.step (sIndexAddr 23 a1 (vs_4.getD 1 undef)) w fun v83_1 w =>
  C.step (sFieldAddr 32 v83_1 2) w fun v84_1 w =>
  C.step (sLoad 3 v84_1) w fun v85_1 w =>
  C.calls 13 #[v20_1, v85_1] w fun v86_1 w =>
  flotillalaw20_OwnEnds_k7 C vs_4 again_4 (.slice none 0 0) w Q)
  (C.step (sBin .eql 3 (.tmp 43) (.const (.int .i64 3)) v43_1 (.int .i64 3)) w fun v88_1 w =>
  C.bool v88_1
  (C.step (sIndexAddr 23 a1 (vs_4.getD 1 undef)) w fun v93_1 w =>
  C.step (sFieldAddr 32 v93_1 1) w fun v94_1 w =>
  C.step (sLoad 3 v94_1) w fun v95_1 w =>
  C.calls 14 #[v20_1, v95_1] w fun v96_1 w =>
  C.step (sExtract v96_1 0) w fun v97_1 w =>
  C.step (sExtract v96_1 1) w fun v98_1 w =>
  flotillalaw20_OwnEnds_k7 C vs_4 again_4 v97_1 w Q)
  (flotillalaw20_OwnEnds_k7 C vs_4 again_4 (.slice none 0 0) w Q)))))
  (flotillalaw20_OwnEnds_k1 C a0 v20_1 (vs_4.getD 0 undef) w Q))
  (flotillalaw20_OwnEnds_k1 C a0 v20_1 (vs_4.getD 0 undef) w Q))
theorem flotillalaw20_OwnEnds_eq (C : Comb) (a0 : Value) (a1 : Value) (w : World) (Q : Value → World → Prop) : flotillalaw20_OwnEnds_x C a0 a1 w Q = FunY Try.prog C 2 Try.f5 [a0, a1] w Q := by kernel_rfl
theorem flotillalaw20_OwnEnds_sound (a0 : Value) (a1 : Value) {w : World} {Q : Value → World → Prop} (h : flotillalaw20_OwnEnds_x (std Try.prog) a0 a1 w Q) : CallsR Try.prog 5 #[a0, a1] w Q :=
  calls_of_funY mixed Try.func5 (Eq.mp (flotillalaw20_OwnEnds_eq _ a0 a1 w Q) h)

def flotillalaw20_OwnGone_k3 (C : Comb) (w : World) (Q : Value → World → Prop) : Prop :=
  C.calls 9 #[] w fun v216_1 w =>
  Q v216_1 w
def flotillalaw20_OwnGone_k4 (C : Comb) (vs_1 : List Value) (again_1 : List Value → World → Prop) (w : World) (Q : Value → World → Prop) : Prop :=
  C.step (sBin .add 3 (.tmp 130) (.const (.int .i64 1)) (vs_1.getD 0 undef) (.int .i64 1)) w fun v131_1 w =>
  again_1 [v131_1] w
def flotillalaw20_OwnGone_k8 (C : Comb) (w : World) (Q : Value → World → Prop) : Prop :=
  Q (.bool false) w
def flotillalaw20_OwnGone_k9 (C : Comb) (vs_1 : List Value) (again_1 : List Value → World → Prop) (u215_9 : Value) (w : World) (Q : Value → World → Prop) : Prop :=
  C.bool u215_9
  (Q (.bool false) w)
  (flotillalaw20_OwnGone_k4 C vs_1 again_1 w Q)
def flotillalaw20_OwnGone_k7 (C : Comb) (v25_1 : Value) (vs_1 : List Value) (again_1 : List Value → World → Prop) (v137_1 : Value) (u16_5 : Value) (u18_7 : Value) (w : World) (Q : Value → World → Prop) : Prop :=
  C.step (sBin .neq 3 (.tmp 179) (.tmp 180) v137_1 u16_5) w fun v181_1 w =>
  C.bool v181_1
  (Q (.bool false) w)
  (C.calls 18 #[v25_1, (vs_1.getD 0 undef)] w fun v185_1 w =>
  C.calls 20 #[v185_1, u18_7] w fun v187_1 w =>
  C.step (sUn .not v187_1) w fun v188_1 w =>
  C.bool v188_1
  (Q (.bool false) w)
  (C.calls 17 #[v25_1, (vs_1.getD 0 undef)] w fun v192_1 w =>
  C.bool v192_1
  (C.calls 11 #[v25_1, (vs_1.getD 0 undef), (.int .i64 8)] w fun v196_1 w =>
  C.step (sExtract v196_1 0) w fun v197_1 w =>
  C.step (sExtract v196_1 1) w fun v198_1 w =>
  C.step (sBuiltin .len #[33] 3 [false] [v197_1]) w fun v200_1 w =>
  C.step (sBin .neq 3 (.tmp 200) (.const (.int .i64 0)) v200_1 (.int .i64 0)) w fun v201_1 w =>
  C.bool v201_1
  (flotillalaw20_OwnGone_k8 C w Q)
  (C.step (sBin .neq 26 (.tmp 203) (.const (.int .i64 0)) v198_1 (.int .i64 0)) w fun v204_1 w =>
  C.bool v204_1
  (C.step (sBin .neq 26 (.tmp 206) (.const (.int .i64 9)) v198_1 (.int .i64 9)) w fun v207_1 w =>
  C.bool v207_1
  (flotillalaw20_OwnGone_k8 C w Q)
  (C.calls 16 #[v25_1, (vs_1.getD 0 undef)] w fun v213_1 w =>
  C.step (sBin .neq 3 (.tmp 213) (.const (.int .i64 0)) v213_1 (.int .i64 0)) w fun v214_1 w =>
  flotillalaw20_OwnGone_k9 C vs_1 again_1 v214_1 w Q))
  (C.calls 16 #[v25_1, (vs_1.getD 0 undef)] w fun v213_2 w =>
  C.step (sBin .neq 3 (.tmp 213) (.const (.int .i64 0)) v213_2 (.int .i64 0)) w fun v214_2 w =>
  flotillalaw20_OwnGone_k9 C vs_1 again_1 v214_2 w Q)))
  (flotillalaw20_OwnGone_k4 C vs_1 again_1 w Q)))
def flotillalaw20_OwnGone_k6 (C : Comb) (a2 : Value) (v25_1 : Value) (v11_1 : Value) (vs_1 : List Value) (again_1 : List Value → World → Prop) (v137_1 : Value) (u16_5 : Value) (u18_6 : Value) (w : World) (Q : Value → World → Prop) : Prop :=
  C.step (sBin .lss 3 (.tmp 170) (.const (.int .i64 1)) a2 (.int .i64 1)) w fun v171_1 w =>
  C.bool v171_1
  (C.step (sIndexAddr 49 v11_1 (vs_1.getD 0 undef)) w fun v177_1 w =>
  C.step (sLoad 36 v177_1) w fun v178_1 w =>
  flotillalaw20_OwnGone_k7 C v25_1 vs_1 again_1 v137_1 u16_5 v178_1 w Q)
  (C.step (sBin .gtr 3 (.tmp 173) (.const (.int .i64 8)) a2 (.int .i64 8)) w fun v174_1 w =>
  C.bool v174_1
  (C.step (sIndexAddr 49 v11_1 (vs_1.getD 0 undef)) w fun v177_2 w =>
  C.step (sLoad 36 v177_2) w fun v178_2 w =>
  flotillalaw20_OwnGone_k7 C v25_1 vs_1 again_1 v137_1 u16_5 v178_2 w Q)
  (flotillalaw20_OwnGone_k7 C v25_1 vs_1 again_1 v137_1 u16_5 u18_6 w Q))
def flotillalaw20_OwnGone_k10 (C : Comb) (vs_2 : List Value) (again_2 : List Value → World → Prop) (u18_10 : Value) (w : World) (Q : Value → World → Prop) : Prop :=
  C.step (sBin .add 3 (.tmp 151) (.const (.int .i64 1)) (vs_2.getD 1 undef) (.int .i64 1)) w fun v152_1 w =>
  again_2 [u18_10, v152_1] w
def flotillalaw20_OwnGone_k5 (C : Comb) (a2 : Value) (v25_1 : Value) (v11_1 : Value) (vs_1 : List Value) (again_1 : List Value → World → Prop) (v137_1 : Value) (u16_5 : Value) (w : World) (Q : Value → World → Prop) : Prop :=
  C.loop [(.slice none 0 0), (.int .i64 0)] w fun dv_2 vs_2 w again_2 =>
  C.step (sIndexAddr 49 v11_1 (vs_1.getD 0 undef)) w fun v147_1 w =>
  C.step (sLoad 36 v147_1) w fun v148_1 w =>
  C.step (sBuiltin .len #[36] 3 [false] [v148_1]) w fun v149_1 w =>
  C.step (sBin .lss 3 (.tmp 145) (.tmp 149) (vs_2.getD 1 undef) v149_1) w fun v150_1 w =>
  C.bool v150_1
  (C.step (sIndexAddr 49 v11_1 (vs_1.getD 0 undef)) w fun v154_1 w =>
  C.step (sLoad 36 v154_1) w fun v155_1 w =>
  C.step (sIndexAddr 36 v155_1 (vs_2.getD 1 undef)) w fun v157_1 w =>
  C.step (sLoad 3 v157_1) w fun v158_1 w =>
  C.step (sBin .neq 3 (.tmp 158) (.tmp 159) v158_1 a2) w fun v160_1 w =>
  C.bool v160_1
  (C.step (sIndexAddr 49 v11_1 (vs_1.getD 0 undef)) w fun v163_1 w =>
  C.step (sLoad 36 v163_1) w fun v164_1 w =>
  C.step (sIndexAddr 36 v164_1 (vs_2.getD 1 undef)) w fun v166_1 w =>
  C.step (sLoad 3 v166_1) w fun v167_1 w =>
  C.step (sBuildSlice 36 1 [(0, v167_1)]) w fun v168_1 w =>
  C.step (sBuiltin .append #[36, 36] 36 [false, false] [(vs_2.getD 0 undef), v168_1]) w fun v169_1 w =>
  flotillalaw20_OwnGone_k10 C vs_2 again_2 v169_1 w Q)
  (flotillalaw20_OwnGone_k10 C vs_2 again_2 (vs_2.getD 0 undef) w Q))
  (flotillalaw20_OwnGone_k6 C a2 v25_1 v11_1 vs_1 again_1 v137_1 u16_5 (vs_2.getD 0 undef) w Q)
def flotillalaw20_OwnGone_k2 (C : Comb) (a0 : Value) (a2 : Value) (v25_1 : Value) (v10_1 : Value) (v11_1 : Value) (w : World) (Q : Value → World → Prop) : Prop :=
  C.calls 19 #[v25_1, a2] w fun v112_1 w =>
  C.calls 13 #[v25_1, a2] w fun v115_1 w =>
  C.calls 20 #[v112_1, v115_1] w fun v118_1 w =>
  C.step (sUn .not v118_1) w fun v119_1 w =>
  C.bool v119_1
  (Q (.bool false) w)
  (C.calls 19 #[v25_1, a2] w fun v123_1 w =>
  C.step (sBuiltin .len #[36] 3 [false] [v123_1]) w fun v124_1 w =>
  C.step (sBin .neq 3 (.tmp 124) (.const (.int .i64 0)) v124_1 (.int .i64 0)) w fun v125_1 w =>
  C.bool v125_1
  (Q (.bool false) w)
  (C.loop [(.int .i64 0)] w fun dv_1 vs_1 w again_1 =>
  C.step (sBin .lss 3 (.tmp 127) (.tmp 128) (vs_1.getD 0 undef) a0) w fun v129_1 w =>
  C.bool v129_1
  (C.draw w fun S_1 w =>
  C.stepS S_1 (sIndexAddr 29 v10_1 (vs_1.getD 0 undef)) fun v133_1 =>
  C.stepS S_1 (sLoad 3 v133_1) fun v134_1 =>
  C.calls 16 #[v25_1, (vs_1.getD 0 undef)] w fun v137_1 w =>
  C.keepS S_1 w fun S_2 =>
  C.calls 21 #[v112_1, (vs_1.getD 0 undef)] w fun v140_1 w =>
  C.bool v140_1
  (C.calls 17 #[v25_1, (vs_1.getD 0 undef)] w fun v143_1 w =>
  C.step (sUn .not v143_1) w fun v144_1 w =>
  C.bool v144_1
  (Q (.bool false) w)
  (flotillalaw20_OwnGone_k5 C a2 v25_1 v11_1 vs_1 again_1 v137_1 (.int .i64 0) w Q))
  (flotillalaw20_OwnGone_k5 C a2 v25_1 v11_1 vs_1 again_1 v137_1 v134_1 w Q))
  (flotillalaw20_OwnGone_k3 C w Q)))
def flotillalaw20_OwnGone_k1 (C : Comb) (a0 : Value) (a2 : Value) (v25_1 : Value) (w : World) (Q : Value → World → Prop) : Prop :=
  C.step (sAlloc 29) w fun v10_1 w =>
  C.step (sAlloc 49) w fun v11_1 w =>
  C.loop [(.int .i64 0)] w fun dv_3 vs_3 w again_3 =>
  C.step (sBin .lss 3 (.tmp 95) (.tmp 96) (vs_3.getD 0 undef) a0) w fun v97_1 w =>
  C.bool v97_1
  (C.draw w fun S_3 w =>
  C.calls 16 #[v25_1, (vs_3.getD 0 undef)] w fun v104_1 w =>
  C.keepS S_3 w fun S_4 =>
  C.stepS S_4 (sIndexAddr 29 v10_1 (vs_3.getD 0 undef)) fun v108_1 =>
  C.calls 18 #[v25_1, (vs_3.getD 0 undef)] w fun v107_1 w =>
  C.keepS S_4 w fun S_5 =>
  C.step (sStore 3 v108_1 v104_1) w fun vx_1 w =>
  C.keepS S_5 w fun S_6 =>
  C.stepS S_6 (sIndexAddr 49 v11_1 (vs_3.getD 0 undef)) fun v109_1 =>
  C.step (sStore 36 v109_1 v107_1) w fun vx_2 w =>
  C.keepT w fun S_7 =>
  C.step (sBin .add 3 (.tmp 98) (.const (.int .i64 1)) (vs_3.getD 0 undef) (.int .i64 1)) w fun v99_1 w =>
  again_3 [v99_1] w)
  (flotillalaw20_OwnGone_k2 C a0 a2 v25_1 v10_1 v11_1 w Q)
def flotillalaw20_OwnGone_k11 (C : Comb) (vs_4 : List Value) (again_4 : List Value → World → Prop) (w : World) (Q : Value → World → Prop) : Prop :=
  C.step (sBin .add 3 (.tmp 42) (.const (.int .i64 1)) (vs_4.getD 0 undef) (.int .i64 1)) w fun v43_1 w =>
  again_4 [v43_1] w
def flotillalaw20_OwnGone_x (C : Comb) (a0 : Value) (a1 : Value) (a2 : Value) (w : World) (Q : Value → World → Prop) : Prop :=
  C.calls 10 #[a0, (.slice none 0 0)] w fun v24_1 w =>
  C.step (sExtract v24_1 0) w fun v25_1 w =>
  C.step (sExtract v24_1 1) w fun v26_1 w =>
  C.step (sBin .neq 26 (.tmp 27) (.const (.int .i64 0)) v26_1 (.int .i64 0)) w fun v28_1 w =>
  C.bool v28_1
  (C.step (sBin .eql 25 (.tmp 29) (.const (.pointer none)) v25_1 (.pointer none)) w fun v30_1 w =>
  C.bool v30_1
  (C.calls 9 #[] w fun v32_1 w =>
  Q v32_1 w)
  (Q (.bool false) w))
  (C.loop [(.int .i64 0)] w fun dv_4 vs_4 w again_4 =>
  C.step (sBuiltin .len #[23] 3 [false] [a1]) w fun v36_1 w =>
  C.step (sBin .lss 3 (.tmp 34) (.tmp 36) (vs_4.getD 0 undef) v36_1) w fun v37_1 w =>
  C.bool v37_1
  (C.step (sBin .lss 3 (.tmp 39) (.const (.int .i64 80)) (vs_4.getD 0 undef) (.int .i64 80)) w fun v40_1 w =>
  C.bool v40_1
  (C.step (sIndexAddr 23 a1 (vs_4.getD 0 undef)) w fun v46_1 w =>
  C.step (sFieldAddr 32 v46_1 0) w fun v47_1 w =>
  C.step (sLoad 3 v47_1) w fun v48_1 w =>
  C.step (sBin .eql 3 (.tmp 48) (.const (.int .i64 0)) v48_1 (.int .i64 0)) w fun v50_1 w =>
  C.bool v50_1
  (C.draw w fun S_8 w =>
  C.stepS S_8 (sIndexAddr 23 a1 (vs_4.getD 0 undef)) fun v54_1 =>
  C.stepS S_8 (sFieldAddr 32 v54_1 1) fun v55_1 =>
  C.stepS S_8 (sLoad 3 v55_1) fun v56_1 =>
  C.stepS S_8 (sIndexAddr 23 a1 (vs_4.getD 0 undef)) fun v59_1 =>
  C.stepS S_8 (sFieldAddr 32 v59_1 2) fun v60_1 =>
  C.stepS S_8 (sLoad 3 v60_1) fun v61_1 =>
  C.calls 11 #[v25_1, v56_1, v61_1] w fun v62_1 w =>
  C.keepT w fun S_9 =>
  flotillalaw20_OwnGone_k11 C vs_4 again_4 w Q)
  (C.step (sBin .eql 3 (.tmp 48) (.const (.int .i64 1)) v48_1 (.int .i64 1)) w fun v64_1 w =>
  C.bool v64_1
  (C.draw w fun S_10 w =>
  C.stepS S_10 (sIndexAddr 23 a1 (vs_4.getD 0 undef)) fun v68_1 =>
  C.stepS S_10 (sFieldAddr 32 v68_1 1) fun v69_1 =>
  C.stepS S_10 (sLoad 3 v69_1) fun v70_1 =>
  C.stepS S_10 (sIndexAddr 23 a1 (vs_4.getD 0 undef)) fun v73_1 =>
  C.stepS S_10 (sFieldAddr 32 v73_1 2) fun v74_1 =>
  C.stepS S_10 (sLoad 3 v74_1) fun v75_1 =>
  C.calls 12 #[v25_1, v70_1, v75_1] w fun v76_1 w =>
  C.keepT w fun S_11 =>
  flotillalaw20_OwnGone_k11 C vs_4 again_4 w Q)
  (C.step (sBin .eql 3 (.tmp 48) (.const (.int .i64 2)) v48_1 (.int .i64 2)) w fun v78_1 w =>
  C.bool v78_1
  (C.step (sIndexAddr 23 a1 (vs_4.getD 0 undef)) w fun v82_1 w =>
  C.step (sFieldAddr 32 v82_1 2) w fun v83_1 w =>
  C.step (sLoad 3 v83_1) w fun v84_1 w =>
  C.calls 13 #[v25_1, v84_1] w fun v85_1 w =>
  flotillalaw20_OwnGone_k11 C vs_4 again_4 w Q)
  (C.step (sBin .eql 3 (.tmp 48) (.const (.int .i64 3)) v48_1 (.int .i64 3)) w fun v87_1 w =>
  C.bool v87_1
  (C.step (sIndexAddr 23 a1 (vs_4.getD 0 undef)) w fun v91_1 w =>
  C.step (sFieldAddr 32 v91_1 1) w fun v92_1 w =>
  C.step (sLoad 3 v92_1) w fun v93_1 w =>
  C.calls 14 #[v25_1, v93_1] w fun v94_1 w =>
  flotillalaw20_OwnGone_k11 C vs_4 again_4 w Q)
  (flotillalaw20_OwnGone_k11 C vs_4 again_4 w Q)))))
  (flotillalaw20_OwnGone_k1 C a0 a2 v25_1 w Q))
  (flotillalaw20_OwnGone_k1 C a0 a2 v25_1 w Q))
theorem flotillalaw20_OwnGone_eq (C : Comb) (a0 : Value) (a1 : Value) (a2 : Value) (w : World) (Q : Value → World → Prop) : flotillalaw20_OwnGone_x C a0 a1 a2 w Q = FunY Try.prog C 2 Try.f6 [a0, a1, a2] w Q := by kernel_rfl
theorem flotillalaw20_OwnGone_sound (a0 : Value) (a1 : Value) (a2 : Value) {w : World} {Q : Value → World → Prop} (h : flotillalaw20_OwnGone_x (std Try.prog) a0 a1 a2 w Q) : CallsR Try.prog 6 #[a0, a1, a2] w Q :=
  calls_of_funY mixed Try.func6 (Eq.mp (flotillalaw20_OwnGone_eq _ a0 a1 a2 w Q) h)

def flotillalaw20_OwnPlays_k1 (C : Comb) (w : World) (Q : Value → World → Prop) : Prop :=
  Q (.bool false) w
def flotillalaw20_OwnPlays_k2 (C : Comb) (w : World) (Q : Value → World → Prop) : Prop :=
  C.calls 9 #[] w fun v73_1 w =>
  Q v73_1 w
def flotillalaw20_OwnPlays_x (C : Comb) (a0 : Value) (a1 : Value) (a2 : Value) (w : World) (Q : Value → World → Prop) : Prop :=
  C.step (sBuiltin .len #[22] 3 [false] [a1]) w fun v13_1 w =>
  C.step (sBin .gtr 3 (.tmp 13) (.const (.int .i64 100)) v13_1 (.int .i64 100)) w fun v14_1 w =>
  C.bool v14_1
  (C.calls 9 #[] w fun v15_1 w =>
  Q v15_1 w)
  (C.calls 10 #[a0, a1] w fun v19_1 w =>
  C.step (sExtract v19_1 0) w fun v20_1 w =>
  C.step (sExtract v19_1 1) w fun v21_1 w =>
  C.calls 22 #[a0, a1] w fun v25_1 w =>
  C.step (sExtract v25_1 0) w fun v26_1 w =>
  C.step (sExtract v25_1 1) w fun v27_1 w =>
  C.step (sUn .not v27_1) w fun v29_1 w =>
  C.bool v29_1
  (C.step (sBin .eql 25 (.tmp 30) (.const (.pointer none)) v20_1 (.pointer none)) w fun v31_1 w =>
  C.bool v31_1
  (C.step (sBin .eql 26 (.tmp 33) (.const (.int .i64 1)) v21_1 (.int .i64 1)) w fun v34_1 w =>
  C.bool v34_1
  (C.calls 9 #[] w fun v37_1 w =>
  Q v37_1 w)
  (flotillalaw20_OwnPlays_k1 C w Q))
  (flotillalaw20_OwnPlays_k1 C w Q))
  (C.step (sBin .eql 25 (.tmp 39) (.const (.pointer none)) v20_1 (.pointer none)) w fun v40_1 w =>
  C.bool v40_1
  (Q (.bool false) w)
  (C.step (sBin .neq 26 (.tmp 42) (.const (.int .i64 0)) v21_1 (.int .i64 0)) w fun v43_1 w =>
  C.bool v43_1
  (Q (.bool false) w)
  (C.loop [v26_1, (.int .i64 0)] w fun dv_1 vs_1 w again_1 =>
  C.step (sBuiltin .len #[23] 3 [false] [a2]) w fun v47_1 w =>
  C.step (sBin .lss 3 (.tmp 45) (.tmp 47) (vs_1.getD 1 undef) v47_1) w fun v48_1 w =>
  C.bool v48_1
  (C.step (sBin .lss 3 (.tmp 50) (.const (.int .i64 100)) (vs_1.getD 1 undef) (.int .i64 100)) w fun v51_1 w =>
  C.bool v51_1
  (C.step (sIndexAddr 23 a2 (vs_1.getD 1 undef)) w fun v60_1 w =>
  C.step (sLoad 32 v60_1) w fun v61_1 w =>
  C.calls 23 #[v20_1, (vs_1.getD 0 undef), v61_1] w fun v62_1 w =>
  C.step (sExtract v62_1 0) w fun v63_1 w =>
  C.step (sExtract v62_1 1) w fun v64_1 w =>
  C.step (sUn .not v64_1) w fun v66_1 w =>
  C.bool v66_1
  (Q (.bool false) w)
  (C.calls 24 #[v20_1, v63_1] w fun v70_1 w =>
  C.step (sUn .not v70_1) w fun v71_1 w =>
  C.bool v71_1
  (Q (.bool false) w)
  (C.step (sBin .add 3 (.tmp 53) (.const (.int .i64 1)) (vs_1.getD 1 undef) (.int .i64 1)) w fun v54_1 w =>
  again_1 [v63_1, v54_1] w)))
  (flotillalaw20_OwnPlays_k2 C w Q))
  (flotillalaw20_OwnPlays_k2 C w Q)))))
theorem flotillalaw20_OwnPlays_eq (C : Comb) (a0 : Value) (a1 : Value) (a2 : Value) (w : World) (Q : Value → World → Prop) : flotillalaw20_OwnPlays_x C a0 a1 a2 w Q = FunY Try.prog C 2 Try.f7 [a0, a1, a2] w Q := by kernel_rfl
theorem flotillalaw20_OwnPlays_sound (a0 : Value) (a1 : Value) (a2 : Value) {w : World} {Q : Value → World → Prop} (h : flotillalaw20_OwnPlays_x (std Try.prog) a0 a1 a2 w Q) : CallsR Try.prog 7 #[a0, a1, a2] w Q :=
  calls_of_funY mixed Try.func7 (Eq.mp (flotillalaw20_OwnPlays_eq _ a0 a1 a2 w Q) h)

def flotillalaw20_OwnNils_k1 (C : Comb) (w : World) (Q : Value → World → Prop) : Prop :=
  Q (.bool false) w
def flotillalaw20_OwnNils_k2 (C : Comb) (w : World) (Q : Value → World → Prop) : Prop :=
  Q (.bool false) w
def flotillalaw20_OwnNils_k4 (C : Comb) (w : World) (Q : Value → World → Prop) : Prop :=
  Q (.bool false) w
def flotillalaw20_OwnNils_k3 (C : Comb) (v112_1 : Value) (v113_1 : Value) (w : World) (Q : Value → World → Prop) : Prop :=
  C.step (sBin .eql 26 (.tmp 128) (.const (.int .i64 0)) v113_1 (.int .i64 0)) w fun v129_1 w =>
  C.step (sBin .eql 4 (.tmp 129) (.tmp 130) v129_1 (.bool false)) w fun v131_1 w =>
  C.bool v131_1
  (C.step (sBin .eql 26 (.tmp 133) (.const (.int .i64 1)) v113_1 (.int .i64 1)) w fun v134_1 w =>
  C.step (sUn .not (.bool false)) w fun v136_1 w =>
  C.step (sBin .eql 4 (.tmp 134) (.tmp 136) v134_1 v136_1) w fun v137_1 w =>
  C.bool v137_1
  (C.step (sBuiltin .len #[33] 3 [false] [v112_1]) w fun v141_1 w =>
  C.step (sBin .eql 3 (.tmp 141) (.const (.int .i64 1)) v141_1 (.int .i64 1)) w fun v142_1 w =>
  C.step (sBin .eql 4 (.tmp 142) (.tmp 143) v142_1 (.bool false)) w fun v144_1 w =>
  C.bool v144_1
  (C.calls 9 #[] w fun v147_1 w =>
  Q v147_1 w)
  (flotillalaw20_OwnNils_k4 C w Q))
  (flotillalaw20_OwnNils_k4 C w Q))
  (flotillalaw20_OwnNils_k4 C w Q)
def flotillalaw20_OwnNils_k5 (C : Comb) (w : World) (Q : Value → World → Prop) : Prop :=
  Q (.bool false) w
def flotillalaw20_OwnNils_x (C : Comb) (a0 : Value) (a1 : Value) (w : World) (Q : Value → World → Prop) : Prop :=
  C.calls 11 #[(.pointer none), a0, a1] w fun v19_1 w =>
  C.step (sExtract v19_1 0) w fun v20_1 w =>
  C.step (sExtract v19_1 1) w fun v21_1 w =>
  C.calls 12 #[(.pointer none), a0, a1] w fun v26_1 w =>
  C.step (sExtract v26_1 0) w fun v27_1 w =>
  C.step (sExtract v26_1 1) w fun v28_1 w =>
  C.calls 14 #[(.pointer none), a0] w fun v32_1 w =>
  C.step (sExtract v32_1 0) w fun v33_1 w =>
  C.step (sExtract v32_1 1) w fun v34_1 w =>
  C.step (sBuiltin .len #[33] 3 [false] [v20_1]) w fun v36_1 w =>
  C.step (sBuiltin .len #[33] 3 [false] [v27_1]) w fun v38_1 w =>
  C.step (sBin .add 3 (.tmp 36) (.tmp 38) v36_1 v38_1) w fun v39_1 w =>
  C.step (sBuiltin .len #[33] 3 [false] [v33_1]) w fun v41_1 w =>
  C.step (sBin .add 3 (.tmp 39) (.tmp 41) v39_1 v41_1) w fun v42_1 w =>
  C.step (sBin .neq 3 (.tmp 42) (.const (.int .i64 0)) v42_1 (.int .i64 0)) w fun v43_1 w =>
  C.bool v43_1
  (flotillalaw20_OwnNils_k1 C w Q)
  (C.step (sBin .neq 26 (.tmp 45) (.const (.int .i64 1)) v21_1 (.int .i64 1)) w fun v46_1 w =>
  C.bool v46_1
  (flotillalaw20_OwnNils_k1 C w Q)
  (C.step (sBin .neq 26 (.tmp 49) (.const (.int .i64 1)) v28_1 (.int .i64 1)) w fun v50_1 w =>
  C.bool v50_1
  (flotillalaw20_OwnNils_k1 C w Q)
  (C.step (sBin .neq 26 (.tmp 53) (.const (.int .i64 1)) v34_1 (.int .i64 1)) w fun v54_1 w =>
  C.bool v54_1
  (flotillalaw20_OwnNils_k1 C w Q)
  (C.calls 16 #[(.pointer none), a0] w fun v59_1 w =>
  C.calls 18 #[(.pointer none), a0] w fun v62_1 w =>
  C.step (sBuiltin .len #[36] 3 [false] [v62_1]) w fun v63_1 w =>
  C.step (sBin .add 3 (.tmp 59) (.tmp 63) v59_1 v63_1) w fun v64_1 w =>
  C.calls 19 #[(.pointer none), a1] w fun v67_1 w =>
  C.step (sBuiltin .len #[36] 3 [false] [v67_1]) w fun v68_1 w =>
  C.step (sBin .add 3 (.tmp 64) (.tmp 68) v64_1 v68_1) w fun v69_1 w =>
  C.calls 13 #[(.pointer none), a1] w fun v72_1 w =>
  C.step (sBuiltin .len #[36] 3 [false] [v72_1]) w fun v73_1 w =>
  C.step (sBin .add 3 (.tmp 69) (.tmp 73) v69_1 v73_1) w fun v74_1 w =>
  C.step (sBin .neq 3 (.tmp 74) (.const (.int .i64 0)) v74_1 (.int .i64 0)) w fun v75_1 w =>
  C.bool v75_1
  (flotillalaw20_OwnNils_k1 C w Q)
  (C.calls 17 #[(.pointer none), a0] w fun v80_1 w =>
  C.bool v80_1
  (flotillalaw20_OwnNils_k1 C w Q)
  (C.calls 25 #[(.pointer none), a0] w fun v85_1 w =>
  C.bool v85_1
  (Q (.bool false) w)
  (C.step (sBuildSlice 22 1 [(0, (.bool true))]) w fun v88_1 w =>
  C.calls 10 #[(.int .i64 3), v88_1] w fun v89_1 w =>
  C.step (sExtract v89_1 0) w fun v90_1 w =>
  C.step (sExtract v89_1 1) w fun v91_1 w =>
  C.step (sBin .eql 25 (.tmp 92) (.const (.pointer none)) v90_1 (.pointer none)) w fun v93_1 w =>
  C.bool v93_1
  (flotillalaw20_OwnNils_k2 C w Q)
  (C.step (sBin .neq 26 (.tmp 95) (.const (.int .i64 0)) v91_1 (.int .i64 0)) w fun v96_1 w =>
  C.bool v96_1
  (flotillalaw20_OwnNils_k2 C w Q)
  (C.calls 25 #[v90_1, (.int .i64 0)] w fun v100_1 w =>
  C.step (sUn .not v100_1) w fun v101_1 w =>
  C.bool v101_1
  (flotillalaw20_OwnNils_k2 C w Q)
  (C.calls 25 #[v90_1, (.int .i64 1)] w fun v105_1 w =>
  C.bool v105_1
  (Q (.bool false) w)
  (C.calls 11 #[v90_1, a0, a1] w fun v111_1 w =>
  C.step (sExtract v111_1 0) w fun v112_1 w =>
  C.step (sExtract v111_1 1) w fun v113_1 w =>
  C.step (sBin .geq 3 (.tmp 114) (.const (.int .i64 0)) a0 (.int .i64 0)) w fun v115_1 w =>
  C.bool v115_1
  (C.step (sBin .lss 3 (.tmp 117) (.const (.int .i64 3)) a0 (.int .i64 3)) w fun v118_1 w =>
  C.bool v118_1
  (C.step (sBin .geq 3 (.tmp 121) (.const (.int .i64 1)) a1 (.int .i64 1)) w fun v122_1 w =>
  C.bool v122_1
  (C.step (sBin .leq 3 (.tmp 125) (.const (.int .i64 8)) a1 (.int .i64 8)) w fun v126_1 w =>
  C.step (sBin .eql 26 (.tmp 128) (.const (.int .i64 0)) v113_1 (.int .i64 0)) w fun v129_2 w =>
  C.step (sBin .eql 4 (.tmp 129) (.tmp 130) v129_2 v126_1) w fun v131_2 w =>
  C.bool v131_2
  (C.step (sBin .eql 26 (.tmp 133) (.const (.int .i64 1)) v113_1 (.int .i64 1)) w fun v134_2 w =>
  C.step (sUn .not v126_1) w fun v136_2 w =>
  C.step (sBin .eql 4 (.tmp 134) (.tmp 136) v134_2 v136_2) w fun v137_2 w =>
  C.bool v137_2
  (C.step (sBuiltin .len #[33] 3 [false] [v112_1]) w fun v141_2 w =>
  C.step (sBin .eql 3 (.tmp 141) (.const (.int .i64 1)) v141_2 (.int .i64 1)) w fun v142_2 w =>
  C.step (sBin .eql 4 (.tmp 142) (.tmp 143) v142_2 v126_1) w fun v144_2 w =>
  C.bool v144_2
  (C.calls 9 #[] w fun v147_2 w =>
  Q v147_2 w)
  (flotillalaw20_OwnNils_k5 C w Q))
  (flotillalaw20_OwnNils_k5 C w Q))
  (flotillalaw20_OwnNils_k5 C w Q))
  (flotillalaw20_OwnNils_k3 C v112_1 v113_1 w Q))
  (flotillalaw20_OwnNils_k3 C v112_1 v113_1 w Q))
  (flotillalaw20_OwnNils_k3 C v112_1 v113_1 w Q))))))))))))
theorem flotillalaw20_OwnNils_eq (C : Comb) (a0 : Value) (a1 : Value) (w : World) (Q : Value → World → Prop) : flotillalaw20_OwnNils_x C a0 a1 w Q = FunY Try.prog C 2 Try.f8 [a0, a1] w Q := by kernel_rfl
theorem flotillalaw20_OwnNils_sound (a0 : Value) (a1 : Value) {w : World} {Q : Value → World → Prop} (h : flotillalaw20_OwnNils_x (std Try.prog) a0 a1 w Q) : CallsR Try.prog 8 #[a0, a1] w Q :=
  calls_of_funY mixed Try.func8 (Eq.mp (flotillalaw20_OwnNils_eq _ a0 a1 w Q) h)

def flotillalaw20_lives_k1 (C : Comb) (w : World) (Q : Value → World → Prop) : Prop :=
  Q (.bool false) w
def flotillalaw20_lives_x (C : Comb) (w : World) (Q : Value → World → Prop) : Prop :=
  C.calls 10 #[(.int .i64 2), (.slice none 0 0)] w fun v10_1 w =>
  C.step (sExtract v10_1 0) w fun v11_1 w =>
  C.step (sExtract v10_1 1) w fun v12_1 w =>
  C.step (sBin .eql 25 (.tmp 13) (.const (.pointer none)) v11_1 (.pointer none)) w fun v14_1 w =>
  C.bool v14_1
  (Q (.bool false) w)
  (C.step (sBin .neq 26 (.tmp 16) (.const (.int .i64 0)) v12_1 (.int .i64 0)) w fun v17_1 w =>
  C.bool v17_1
  (Q (.bool false) w)
  (C.calls 11 #[v11_1, (.int .i64 0), (.int .i64 1)] w fun v21_1 w =>
  C.step (sExtract v21_1 0) w fun v22_1 w =>
  C.step (sExtract v21_1 1) w fun v23_1 w =>
  C.calls 11 #[v11_1, (.int .i64 0), (.int .i64 2)] w fun v26_1 w =>
  C.step (sExtract v26_1 0) w fun v27_1 w =>
  C.step (sExtract v26_1 1) w fun v28_1 w =>
  C.calls 12 #[v11_1, (.int .i64 0), (.int .i64 1)] w fun v31_1 w =>
  C.step (sExtract v31_1 0) w fun v32_1 w =>
  C.step (sExtract v31_1 1) w fun v33_1 w =>
  C.step (sBuiltin .len #[33] 3 [false] [v22_1]) w fun v35_1 w =>
  C.step (sBin .eql 3 (.tmp 35) (.const (.int .i64 1)) v35_1 (.int .i64 1)) w fun v36_1 w =>
  C.bool v36_1
  (C.step (sIndexAddr 33 v22_1 (.int .i64 0)) w fun v39_1 w =>
  C.step (sLoad 46 v39_1) w fun v40_1 w =>
  C.step (sBuild 46 [(0, (.int .i64 1)), (3, (.int .i64 1))]) w fun v41_1 w =>
  C.step (sBin .eql 46 (.tmp 40) (.tmp 41) v40_1 v41_1) w fun v42_1 w =>
  C.bool v42_1
  (C.step (sBuiltin .len #[33] 3 [false] [v27_1]) w fun v46_1 w =>
  C.step (sBin .eql 3 (.tmp 46) (.const (.int .i64 1)) v46_1 (.int .i64 1)) w fun v47_1 w =>
  C.bool v47_1
  (C.step (sIndexAddr 33 v27_1 (.int .i64 0)) w fun v51_1 w =>
  C.step (sLoad 46 v51_1) w fun v52_1 w =>
  C.step (sBuild 46 [(0, (.int .i64 2)), (2, (.int .i64 1)), (3, (.int .i64 2))]) w fun v53_1 w =>
  C.step (sBin .eql 46 (.tmp 52) (.tmp 53) v52_1 v53_1) w fun v54_1 w =>
  C.bool v54_1
  (C.step (sBuiltin .len #[33] 3 [false] [v32_1]) w fun v58_1 w =>
  C.step (sBin .eql 3 (.tmp 58) (.const (.int .i64 1)) v58_1 (.int .i64 1)) w fun v59_1 w =>
  C.bool v59_1
  (C.step (sIndexAddr 33 v32_1 (.int .i64 0)) w fun v63_1 w =>
  C.step (sLoad 46 v63_1) w fun v64_1 w =>
  C.step (sBuild 46 [(0, (.int .i64 1)), (3, (.int .i64 2))]) w fun v65_1 w =>
  C.step (sBin .eql 46 (.tmp 64) (.tmp 65) v64_1 v65_1) w fun v66_1 w =>
  Q v66_1 w)
  (flotillalaw20_lives_k1 C w Q))
  (flotillalaw20_lives_k1 C w Q))
  (flotillalaw20_lives_k1 C w Q))
  (flotillalaw20_lives_k1 C w Q))
  (flotillalaw20_lives_k1 C w Q)))
theorem flotillalaw20_lives_eq (C : Comb) (w : World) (Q : Value → World → Prop) : flotillalaw20_lives_x C w Q = FunY Try.prog C 2 Try.f9 [] w Q := by kernel_rfl
theorem flotillalaw20_lives_sound {w : World} {Q : Value → World → Prop} (h : flotillalaw20_lives_x (std Try.prog) w Q) : CallsR Try.prog 9 #[] w Q :=
  calls_of_funY mixed Try.func9 (Eq.mp (flotillalaw20_lives_eq _ w Q) h)

def own_New_k1 (C : Comb) (w : World) (Q : Value → World → Prop) : Prop :=
  Q (.tuple #[(.pointer none), (.int .i64 1)]) w
def own_New_k2 (C : Comb) (v21_1 : Value) (w : World) (Q : Value → World → Prop) : Prop :=
  Q (.tuple #[v21_1, (.int .i64 0)]) w
def own_New_k3 (C : Comb) (vs_1 : List Value) (again_1 : List Value → World → Prop) (u7_3 : Value) (w : World) (Q : Value → World → Prop) : Prop :=
  C.step (sBin .add 3 (.tmp 23) (.const (.int .i64 1)) (vs_1.getD 1 undef) (.int .i64 1)) w fun v47_1 w =>
  again_1 [u7_3, v47_1] w
def own_New_x (C : Comb) (a0 : Value) (a1 : Value) (w : World) (Q : Value → World → Prop) : Prop :=
  C.step (sBin .lss 3 (.tmp 8) (.const (.int .i64 1)) a0 (.int .i64 1)) w fun v9_1 w =>
  C.bool v9_1
  (own_New_k1 C w Q)
  (C.step (sBin .gtr 3 (.tmp 11) (.const (.int .i64 16)) a0 (.int .i64 16)) w fun v12_1 w =>
  C.bool v12_1
  (own_New_k1 C w Q)
  (C.step (sBuiltin .len #[22] 3 [false] [a1]) w fun v16_1 w =>
  C.step (sBin .gtr 3 (.tmp 16) (.tmp 17) v16_1 a0) w fun v18_1 w =>
  C.bool v18_1
  (Q (.tuple #[(.pointer none), (.int .i64 1)]) w)
  (C.step (sBuild 60 []) w fun v20_1 w =>
  C.step (sBox 60 v20_1) w fun v21_1 w =>
  C.loop [undef, (.int .i64 0)] w fun dv_1 vs_1 w again_1 =>
  C.step (sBin .lss 3 (.tmp 23) (.tmp 22) (vs_1.getD 1 undef) a0) w fun v24_1 w =>
  C.bool v24_1
  (C.draw w fun S_1 w =>
  C.stepS S_1 (sNil v21_1) fun v28_1 =>
  C.stepS S_1 (sFieldAddr 60 v28_1 0) fun v29_1 =>
  C.stepS S_1 (sLoad 58 v29_1) fun v30_1 =>
  C.stepS S_1 (sBuiltin .len #[22] 3 [false] [a1]) fun v33_1 =>
  C.stepS S_1 (sBin .lss 3 (.tmp 31) (.tmp 33) (vs_1.getD 1 undef) v33_1) fun v34_1 =>
  C.bool v34_1
  (C.stepS S_1 (sIndexAddr 22 a1 (vs_1.getD 1 undef)) fun v38_1 =>
  C.stepS S_1 (sLoad 4 v38_1) fun v39_1 =>
  C.step (sBuild 63 [(3, v39_1)]) w fun v41_1 w =>
  C.keepS S_1 w fun S_2 =>
  C.step (sBox 63 v41_1) w fun v42_1 w =>
  C.keepS S_2 w fun S_3 =>
  C.step (sBuildSlice 58 1 [(0, v42_1)]) w fun v43_1 w =>
  C.keepS S_3 w fun S_4 =>
  C.step (sBuiltin .append #[58, 58] 58 [false, false] [v30_1, v43_1]) w fun v44_1 w =>
  C.keepS S_4 w fun S_5 =>
  C.stepS S_5 (sNil v21_1) fun v45_1 =>
  C.stepS S_5 (sFieldAddr 60 v45_1 0) fun v46_1 =>
  C.step (sStore 58 v46_1 v44_1) w fun vx_1 w =>
  C.keepT w fun S_6 =>
  own_New_k3 C vs_1 again_1 (vs_1.getD 1 undef) w Q)
  (C.step (sBuild 63 [(3, (.bool false))]) w fun v41_2 w =>
  C.keepS S_1 w fun S_7 =>
  C.step (sBox 63 v41_2) w fun v42_2 w =>
  C.keepS S_7 w fun S_8 =>
  C.step (sBuildSlice 58 1 [(0, v42_2)]) w fun v43_2 w =>
  C.keepS S_8 w fun S_9 =>
  C.step (sBuiltin .append #[58, 58] 58 [false, false] [v30_1, v43_2]) w fun v44_2 w =>
  C.keepS S_9 w fun S_10 =>
  C.stepS S_10 (sNil v21_1) fun v45_2 =>
  C.stepS S_10 (sFieldAddr 60 v45_2 0) fun v46_2 =>
  C.step (sStore 58 v46_2 v44_2) w fun vx_2 w =>
  C.keepT w fun S_11 =>
  own_New_k3 C vs_1 again_1 (vs_1.getD 1 undef) w Q))
  (own_New_k2 C v21_1 w Q))))
theorem own_New_eq (C : Comb) (a0 : Value) (a1 : Value) (w : World) (Q : Value → World → Prop) : own_New_x C a0 a1 w Q = FunY Try.prog C 8 Try.f10 [a0, a1] w Q := by kernel_rfl
theorem own_New_sound (a0 : Value) (a1 : Value) {w : World} {Q : Value → World → Prop} (h : own_New_x (std Try.prog) a0 a1 w Q) : CallsR Try.prog 10 #[a0, a1] w Q :=
  calls_of_funY mixed Try.func10 (Eq.mp (own_New_eq _ a0 a1 w Q) h)

def own_Book_Need_x (C : Comb) (a0 : Value) (a1 : Value) (a2 : Value) (w : World) (Q : Value → World → Prop) : Prop :=
  C.calls 26 #[a0, a1] w fun v11_1 w =>
  C.step (sBin .eql 61 (.tmp 12) (.const (.pointer none)) v11_1 (.pointer none)) w fun v13_1 w =>
  C.bool v13_1
  (Q (.tuple #[(.slice none 0 0), (.int .i64 1)]) w)
  (C.calls 27 #[a2] w fun v16_1 w =>
  C.step (sUn .not v16_1) w fun v17_1 w =>
  C.bool v17_1
  (Q (.tuple #[(.slice none 0 0), (.int .i64 1)]) w)
  (C.step (sNil v11_1) w fun v20_1 w =>
  C.step (sFieldAddr 63 v20_1 0) w fun v21_1 w =>
  C.step (sLoad 3 v21_1) w fun v22_1 w =>
  C.step (sBin .eql 3 (.tmp 22) (.tmp 23) v22_1 a2) w fun v24_1 w =>
  C.bool v24_1
  (Q (.tuple #[(.slice none 0 0), (.int .i64 9)]) w)
  (C.step (sNil v11_1) w fun v27_1 w =>
  C.step (sFieldAddr 63 v27_1 4) w fun v28_1 w =>
  C.step (sLoad 36 v28_1) w fun v29_1 w =>
  C.calls 28 #[v29_1, a2] w fun v31_1 w =>
  C.bool v31_1
  (Q (.tuple #[(.slice none 0 0), (.int .i64 9)]) w)
  (C.step (sNil v11_1) w fun v35_1 w =>
  C.step (sFieldAddr 63 v35_1 4) w fun v36_1 w =>
  C.step (sLoad 36 v36_1) w fun v37_1 w =>
  C.step (sBuildSlice 36 1 [(0, a2)]) w fun v39_1 w =>
  C.step (sBuiltin .append #[36, 36] 36 [false, false] [v37_1, v39_1]) w fun v40_1 w =>
  C.step (sNil v11_1) w fun v41_1 w =>
  C.step (sFieldAddr 63 v41_1 4) w fun v42_1 w =>
  C.step (sStore 36 v42_1 v40_1) w fun vx_1 w =>
  C.calls 29 #[v11_1, a1] w fun v45_1 w =>
  Q (.tuple #[v45_1, (.int .i64 0)]) w))))
theorem own_Book_Need_eq (C : Comb) (a0 : Value) (a1 : Value) (a2 : Value) (w : World) (Q : Value → World → Prop) : own_Book_Need_x C a0 a1 a2 w Q = FunY Try.prog C 9 Try.f11 [a0, a1, a2] w Q := by kernel_rfl
theorem own_Book_Need_sound (a0 : Value) (a1 : Value) (a2 : Value) {w : World} {Q : Value → World → Prop} (h : own_Book_Need_x (std Try.prog) a0 a1 a2 w Q) : CallsR Try.prog 11 #[a0, a1, a2] w Q :=
  calls_of_funY mixed Try.func11 (Eq.mp (own_Book_Need_eq _ a0 a1 a2 w Q) h)

def own_Book_Back_x (C : Comb) (a0 : Value) (a1 : Value) (a2 : Value) (w : World) (Q : Value → World → Prop) : Prop :=
  C.calls 26 #[a0, a1] w fun v11_1 w =>
  C.step (sBin .eql 61 (.tmp 12) (.const (.pointer none)) v11_1 (.pointer none)) w fun v13_1 w =>
  C.bool v13_1
  (Q (.tuple #[(.slice none 0 0), (.int .i64 1)]) w)
  (C.calls 27 #[a2] w fun v16_1 w =>
  C.step (sUn .not v16_1) w fun v17_1 w =>
  C.bool v17_1
  (Q (.tuple #[(.slice none 0 0), (.int .i64 1)]) w)
  (C.step (sNil v11_1) w fun v20_1 w =>
  C.step (sFieldAddr 63 v20_1 0) w fun v21_1 w =>
  C.step (sLoad 3 v21_1) w fun v22_1 w =>
  C.step (sBin .neq 3 (.tmp 22) (.tmp 23) v22_1 a2) w fun v24_1 w =>
  C.bool v24_1
  (Q (.tuple #[(.slice none 0 0), (.int .i64 10)]) w)
  (C.step (sNil v11_1) w fun v27_1 w =>
  C.step (sFieldAddr 63 v27_1 0) w fun v28_1 w =>
  C.step (sStore 3 v28_1 (.int .i64 0)) w fun vx_1 w =>
  C.step (sNil v11_1) w fun v29_1 w =>
  C.step (sFieldAddr 63 v29_1 2) w fun v30_1 w =>
  C.step (sStore 4 v30_1 (.bool false)) w fun vx_2 w =>
  C.calls 29 #[v11_1, a1] w fun v33_1 w =>
  Q (.tuple #[v33_1, (.int .i64 0)]) w)))
theorem own_Book_Back_eq (C : Comb) (a0 : Value) (a1 : Value) (a2 : Value) (w : World) (Q : Value → World → Prop) : own_Book_Back_x C a0 a1 a2 w Q = FunY Try.prog C 9 Try.f12 [a0, a1, a2] w Q := by kernel_rfl
theorem own_Book_Back_sound (a0 : Value) (a1 : Value) (a2 : Value) {w : World} {Q : Value → World → Prop} (h : own_Book_Back_x (std Try.prog) a0 a1 a2 w Q) : CallsR Try.prog 12 #[a0, a1, a2] w Q :=
  calls_of_funY mixed Try.func12 (Eq.mp (own_Book_Back_eq _ a0 a1 a2 w Q) h)

def own_Book_Fail_k1 (C : Comb) (u5_1 : Value) (w : World) (Q : Value → World → Prop) : Prop :=
  Q u5_1 w
def own_Book_Fail_k2 (C : Comb) (vs_1 : List Value) (again_1 : List Value → World → Prop) (u6_2 : Value) (u7_2 : Value) (u5_2 : Value) (w : World) (Q : Value → World → Prop) : Prop :=
  C.step (sBin .add 3 (.tmp 21) (.const (.int .i64 1)) (vs_1.getD 3 undef) (.int .i64 1)) w fun v54_1 w =>
  again_1 [u6_2, u7_2, u5_2, v54_1] w
def own_Book_Fail_x (C : Comb) (a0 : Value) (a1 : Value) (w : World) (Q : Value → World → Prop) : Prop :=
  C.step (sBox 3 a1) w fun v3_1 w =>
  C.step (sBin .eql 25 (.tmp 8) (.const (.pointer none)) a0 (.pointer none)) w fun v9_1 w =>
  C.bool v9_1
  (Q (.slice none 0 0) w)
  (C.step (sLoad 3 v3_1) w fun v11_1 w =>
  C.calls 27 #[v11_1] w fun v12_1 w =>
  C.step (sUn .not v12_1) w fun v13_1 w =>
  C.bool v13_1
  (Q (.slice none 0 0) w)
  (C.step (sNil a0) w fun v17_1 w =>
  C.step (sFieldAddr 60 v17_1 0) w fun v18_1 w =>
  C.step (sLoad 58 v18_1) w fun v19_1 w =>
  C.step (sBuiltin .len #[58] 3 [false] [v19_1]) w fun v20_1 w =>
  C.loop [undef, undef, (.slice none 0 0), (.int .i64 0)] w fun dv_1 vs_1 w again_1 =>
  C.step (sBin .lss 3 (.tmp 21) (.tmp 20) (vs_1.getD 3 undef) v20_1) w fun v22_1 w =>
  C.bool v22_1
  (C.step (sIndexAddr 58 v19_1 (vs_1.getD 3 undef)) w fun v24_1 w =>
  C.step (sLoad 61 v24_1) w fun v25_1 w =>
  C.step (sNil v25_1) w fun v28_1 w =>
  C.step (sFieldAddr 63 v28_1 4) w fun v29_1 w =>
  C.step (sLoad 36 v29_1) w fun v30_1 w =>
  C.step (sMakeFunc (.func 31) [] [v3_1]) w fun v31_1 w =>
  C.calls 30 #[v30_1, v31_1] w fun v32_1 w =>
  C.step (sNil v25_1) w fun v33_1 w =>
  C.step (sFieldAddr 63 v33_1 4) w fun v34_1 w =>
  C.step (sStore 36 v34_1 v32_1) w fun vx_1 w =>
  C.draw w fun S_1 w =>
  C.stepS S_1 (sNil v25_1) fun v36_1 =>
  C.stepS S_1 (sFieldAddr 63 v36_1 0) fun v37_1 =>
  C.stepS S_1 (sLoad 3 v37_1) fun v38_1 =>
  C.stepS S_1 (sLoad 3 v3_1) fun v39_1 =>
  C.stepS S_1 (sBin .eql 3 (.tmp 38) (.tmp 39) v38_1 v39_1) fun v40_1 =>
  C.bool v40_1
  (C.step (sNil v25_1) w fun v44_1 w =>
  C.step (sFieldAddr 63 v44_1 0) w fun v45_1 w =>
  C.step (sStore 3 v45_1 (.int .i64 0)) w fun vx_2 w =>
  C.step (sNil v25_1) w fun v46_1 w =>
  C.step (sFieldAddr 63 v46_1 2) w fun v47_1 w =>
  C.step (sStore 4 v47_1 (.bool false)) w fun vx_3 w =>
  C.step (sNil v25_1) w fun v48_1 w =>
  C.step (sFieldAddr 63 v48_1 1) w fun v49_1 w =>
  C.step (sStore 4 v49_1 (.bool true)) w fun vx_4 w =>
  C.step (sBuildSlice 36 1 [(0, (vs_1.getD 3 undef))]) w fun v52_1 w =>
  C.step (sBuiltin .append #[36, 36] 36 [false, false] [(vs_1.getD 2 undef), v52_1]) w fun v53_1 w =>
  own_Book_Fail_k2 C vs_1 again_1 (vs_1.getD 3 undef) v25_1 v53_1 w Q)
  (own_Book_Fail_k2 C vs_1 again_1 (vs_1.getD 3 undef) v25_1 (vs_1.getD 2 undef) w Q))
  (own_Book_Fail_k1 C (vs_1.getD 2 undef) w Q)))
theorem own_Book_Fail_eq (C : Comb) (a0 : Value) (a1 : Value) (w : World) (Q : Value → World → Prop) : own_Book_Fail_x C a0 a1 w Q = FunY Try.prog C 8 Try.f13 [a0, a1] w Q := by kernel_rfl
theorem own_Book_Fail_sound (a0 : Value) (a1 : Value) {w : World} {Q : Value → World → Prop} (h : own_Book_Fail_x (std Try.prog) a0 a1 w Q) : CallsR Try.prog 13 #[a0, a1] w Q :=
  calls_of_funY mixed Try.func13 (Eq.mp (own_Book_Fail_eq _ a0 a1 w Q) h)

def own_Book_Mend_x (C : Comb) (a0 : Value) (a1 : Value) (w : World) (Q : Value → World → Prop) : Prop :=
  C.calls 26 #[a0, a1] w fun v9_1 w =>
  C.step (sBin .eql 61 (.tmp 10) (.const (.pointer none)) v9_1 (.pointer none)) w fun v11_1 w =>
  C.bool v11_1
  (Q (.tuple #[(.slice none 0 0), (.int .i64 1)]) w)
  (C.step (sNil v9_1) w fun v13_1 w =>
  C.step (sFieldAddr 63 v13_1 1) w fun v14_1 w =>
  C.step (sLoad 4 v14_1) w fun v15_1 w =>
  C.step (sUn .not v15_1) w fun v16_1 w =>
  C.bool v16_1
  (Q (.tuple #[(.slice none 0 0), (.int .i64 10)]) w)
  (C.step (sNil v9_1) w fun v18_1 w =>
  C.step (sFieldAddr 63 v18_1 1) w fun v19_1 w =>
  C.step (sStore 4 v19_1 (.bool false)) w fun vx_1 w =>
  C.calls 29 #[v9_1, a1] w fun v22_1 w =>
  Q (.tuple #[v22_1, (.int .i64 0)]) w))
theorem own_Book_Mend_eq (C : Comb) (a0 : Value) (a1 : Value) (w : World) (Q : Value → World → Prop) : own_Book_Mend_x C a0 a1 w Q = FunY Try.prog C 7 Try.f14 [a0, a1] w Q := by kernel_rfl
theorem own_Book_Mend_sound (a0 : Value) (a1 : Value) {w : World} {Q : Value → World → Prop} (h : own_Book_Mend_x (std Try.prog) a0 a1 w Q) : CallsR Try.prog 14 #[a0, a1] w Q :=
  calls_of_funY mixed Try.func14 (Eq.mp (own_Book_Mend_eq _ a0 a1 w Q) h)

def flotillalaw20_told_k1 (C : Comb) (v2_1 : Value) (v4_1 : Value) (w : World) (Q : Value → World → Prop) : Prop :=
  C.step (sLoad 29 v2_1) w fun v76_1 w =>
  C.step (sStore 29 v4_1 v76_1) w fun vx_1 w =>
  C.loadR 29 v4_1 w fun r_1 =>
  Q (.tuple #[r_1, (.bool true)]) w
def flotillalaw20_told_k2 (C : Comb) (vs_1 : List Value) (again_1 : List Value → World → Prop) (w : World) (Q : Value → World → Prop) : Prop :=
  C.step (sBin .add 3 (.tmp 12) (.const (.int .i64 1)) (vs_1.getD 0 undef) (.int .i64 1)) w fun v13_1 w =>
  again_1 [v13_1] w
def flotillalaw20_told_k3 (C : Comb) (v2_1 : Value) (v4_1 : Value) (w : World) (Q : Value → World → Prop) : Prop :=
  C.step (sLoad 29 v2_1) w fun v45_1 w =>
  C.step (sStore 29 v4_1 v45_1) w fun vx_5 w =>
  C.loadR 29 v4_1 w fun r_4 =>
  Q (.tuple #[r_4, (.bool false)]) w
def flotillalaw20_told_k4 (C : Comb) (v2_1 : Value) (v4_1 : Value) (w : World) (Q : Value → World → Prop) : Prop :=
  C.step (sLoad 29 v2_1) w fun v75_1 w =>
  C.step (sStore 29 v4_1 v75_1) w fun vx_8 w =>
  C.loadR 29 v4_1 w fun r_6 =>
  Q (.tuple #[r_6, (.bool false)]) w
def flotillalaw20_told_x (C : Comb) (a0 : Value) (a1 : Value) (w : World) (Q : Value → World → Prop) : Prop :=
  C.step (sBox 29 a0) w fun v2_1 w =>
  C.step (sAlloc 29) w fun v4_1 w =>
  C.loop [(.int .i64 0)] w fun dv_1 vs_1 w again_1 =>
  C.step (sBuiltin .len #[33] 3 [false] [a1]) w fun v10_1 w =>
  C.step (sBin .lss 3 (.tmp 8) (.tmp 10) (vs_1.getD 0 undef) v10_1) w fun v11_1 w =>
  C.bool v11_1
  (C.step (sIndexAddr 33 a1 (vs_1.getD 0 undef)) w fun v16_1 w =>
  C.step (sLoad 46 v16_1) w fun v17_1 w =>
  C.step (sAlloc 46) w fun v7_1 w =>
  C.step (sStore 46 v7_1 v17_1) w fun vx_2 w =>
  C.step (sFieldAddr 46 v7_1 1) w fun v18_1 w =>
  C.step (sLoad 3 v18_1) w fun v19_1 w =>
  C.step (sBin .lss 3 (.tmp 19) (.const (.int .i64 0)) v19_1 (.int .i64 0)) w fun v20_1 w =>
  C.bool v20_1
  (C.step (sLoad 29 v2_1) w fun v26_1 w =>
  C.step (sStore 29 v4_1 v26_1) w fun vx_3 w =>
  C.loadR 29 v4_1 w fun r_2 =>
  Q (.tuple #[r_2, (.bool false)]) w)
  (C.step (sFieldAddr 46 v7_1 1) w fun v22_1 w =>
  C.step (sLoad 3 v22_1) w fun v23_1 w =>
  C.step (sBin .gtr 3 (.tmp 23) (.const (.int .i64 15)) v23_1 (.int .i64 15)) w fun v24_1 w =>
  C.bool v24_1
  (C.step (sLoad 29 v2_1) w fun v26_2 w =>
  C.step (sStore 29 v4_1 v26_2) w fun vx_4 w =>
  C.loadR 29 v4_1 w fun r_3 =>
  Q (.tuple #[r_3, (.bool false)]) w)
  (C.step (sFieldAddr 46 v7_1 0) w fun v27_1 w =>
  C.step (sLoad 44 v27_1) w fun v28_1 w =>
  C.step (sBin .eql 44 (.tmp 28) (.const (.int .i64 1)) v28_1 (.int .i64 1)) w fun v29_1 w =>
  C.bool v29_1
  (C.step (sFieldAddr 46 v7_1 1) w fun v30_1 w =>
  C.step (sLoad 3 v30_1) w fun v31_1 w =>
  C.step (sIndexAddr 29 v2_1 v31_1) w fun v32_1 w =>
  C.step (sLoad 3 v32_1) w fun v33_1 w =>
  C.step (sBin .neq 3 (.tmp 33) (.const (.int .i64 0)) v33_1 (.int .i64 0)) w fun v34_1 w =>
  C.bool v34_1
  (flotillalaw20_told_k3 C v2_1 v4_1 w Q)
  (C.step (sFieldAddr 46 v7_1 3) w fun v36_1 w =>
  C.step (sLoad 3 v36_1) w fun v37_1 w =>
  C.step (sBin .lss 3 (.tmp 37) (.const (.int .i64 1)) v37_1 (.int .i64 1)) w fun v38_1 w =>
  C.bool v38_1
  (flotillalaw20_told_k3 C v2_1 v4_1 w Q)
  (C.step (sFieldAddr 46 v7_1 2) w fun v41_1 w =>
  C.step (sLoad 3 v41_1) w fun v42_1 w =>
  C.step (sBin .neq 3 (.tmp 42) (.const (.int .i64 0)) v42_1 (.int .i64 0)) w fun v43_1 w =>
  C.bool v43_1
  (C.step (sLoad 29 v2_1) w fun v45_2 w =>
  C.step (sStore 29 v4_1 v45_2) w fun vx_6 w =>
  C.loadR 29 v4_1 w fun r_5 =>
  Q (.tuple #[r_5, (.bool false)]) w)
  (C.step (sFieldAddr 46 v7_1 1) w fun v46_1 w =>
  C.step (sLoad 3 v46_1) w fun v47_1 w =>
  C.step (sFieldAddr 46 v7_1 3) w fun v48_1 w =>
  C.step (sLoad 3 v48_1) w fun v49_1 w =>
  C.step (sIndexAddr 29 v2_1 v47_1) w fun v50_1 w =>
  C.step (sStore 3 v50_1 v49_1) w fun vx_7 w =>
  flotillalaw20_told_k2 C vs_1 again_1 w Q))))
  (C.draw w fun S_1 w =>
  C.stepS S_1 (sFieldAddr 46 v7_1 0) fun v51_1 =>
  C.stepS S_1 (sLoad 44 v51_1) fun v52_1 =>
  C.stepS S_1 (sBin .neq 44 (.tmp 52) (.const (.int .i64 2)) v52_1 (.int .i64 2)) fun v53_1 =>
  C.bool v53_1
  (flotillalaw20_told_k4 C v2_1 v4_1 w Q)
  (C.stepS S_1 (sFieldAddr 46 v7_1 1) fun v55_1 =>
  C.stepS S_1 (sLoad 3 v55_1) fun v56_1 =>
  C.stepS S_1 (sIndexAddr 29 v2_1 v56_1) fun v57_1 =>
  C.stepS S_1 (sLoad 3 v57_1) fun v58_1 =>
  C.stepS S_1 (sFieldAddr 46 v7_1 2) fun v59_1 =>
  C.stepS S_1 (sLoad 3 v59_1) fun v60_1 =>
  C.stepS S_1 (sBin .neq 3 (.tmp 58) (.tmp 60) v58_1 v60_1) fun v61_1 =>
  C.bool v61_1
  (flotillalaw20_told_k4 C v2_1 v4_1 w Q)
  (C.stepS S_1 (sFieldAddr 46 v7_1 2) fun v64_1 =>
  C.stepS S_1 (sLoad 3 v64_1) fun v65_1 =>
  C.stepS S_1 (sBin .eql 3 (.tmp 65) (.const (.int .i64 0)) v65_1 (.int .i64 0)) fun v66_1 =>
  C.bool v66_1
  (flotillalaw20_told_k4 C v2_1 v4_1 w Q)
  (C.stepS S_1 (sFieldAddr 46 v7_1 3) fun v69_1 =>
  C.stepS S_1 (sLoad 3 v69_1) fun v70_1 =>
  C.stepS S_1 (sFieldAddr 46 v7_1 2) fun v71_1 =>
  C.stepS S_1 (sLoad 3 v71_1) fun v72_1 =>
  C.stepS S_1 (sBin .eql 3 (.tmp 70) (.tmp 72) v70_1 v72_1) fun v73_1 =>
  C.bool v73_1
  (C.step (sLoad 29 v2_1) w fun v75_2 w =>
  C.step (sStore 29 v4_1 v75_2) w fun vx_9 w =>
  C.loadR 29 v4_1 w fun r_7 =>
  Q (.tuple #[r_7, (.bool false)]) w)
  (flotillalaw20_told_k2 C vs_1 again_1 w Q))))))))
  (flotillalaw20_told_k1 C v2_1 v4_1 w Q)
theorem flotillalaw20_told_eq (C : Comb) (a0 : Value) (a1 : Value) (w : World) (Q : Value → World → Prop) : flotillalaw20_told_x C a0 a1 w Q = FunY Try.prog C 2 Try.f15 [a0, a1] w Q := by kernel_rfl
theorem flotillalaw20_told_sound (a0 : Value) (a1 : Value) {w : World} {Q : Value → World → Prop} (h : flotillalaw20_told_x (std Try.prog) a0 a1 w Q) : CallsR Try.prog 15 #[a0, a1] w Q :=
  calls_of_funY mixed Try.func15 (Eq.mp (flotillalaw20_told_eq _ a0 a1 w Q) h)

def own_Book_Owner_x (C : Comb) (a0 : Value) (a1 : Value) (w : World) (Q : Value → World → Prop) : Prop :=
  C.calls 26 #[a0, a1] w fun v8_1 w =>
  C.step (sBin .neq 61 (.tmp 9) (.const (.pointer none)) v8_1 (.pointer none)) w fun v10_1 w =>
  C.bool v10_1
  (C.step (sNil v8_1) w fun v12_1 w =>
  C.step (sFieldAddr 63 v12_1 0) w fun v13_1 w =>
  C.step (sLoad 3 v13_1) w fun v14_1 w =>
  Q v14_1 w)
  (Q (.int .i64 0) w)
theorem own_Book_Owner_eq (C : Comb) (a0 : Value) (a1 : Value) (w : World) (Q : Value → World → Prop) : own_Book_Owner_x C a0 a1 w Q = FunY Try.prog C 6 Try.f16 [a0, a1] w Q := by kernel_rfl
theorem own_Book_Owner_sound (a0 : Value) (a1 : Value) {w : World} {Q : Value → World → Prop} (h : own_Book_Owner_x (std Try.prog) a0 a1 w Q) : CallsR Try.prog 16 #[a0, a1] w Q :=
  calls_of_funY mixed Try.func16 (Eq.mp (own_Book_Owner_eq _ a0 a1 w Q) h)

def own_Book_Lost_x (C : Comb) (a0 : Value) (a1 : Value) (w : World) (Q : Value → World → Prop) : Prop :=
  C.calls 26 #[a0, a1] w fun v8_1 w =>
  C.step (sBin .neq 61 (.tmp 9) (.const (.pointer none)) v8_1 (.pointer none)) w fun v10_1 w =>
  C.bool v10_1
  (C.step (sNil v8_1) w fun v13_1 w =>
  C.step (sFieldAddr 63 v13_1 1) w fun v14_1 w =>
  C.step (sLoad 4 v14_1) w fun v15_1 w =>
  Q v15_1 w)
  (Q (.bool false) w)
theorem own_Book_Lost_eq (C : Comb) (a0 : Value) (a1 : Value) (w : World) (Q : Value → World → Prop) : own_Book_Lost_x C a0 a1 w Q = FunY Try.prog C 6 Try.f17 [a0, a1] w Q := by kernel_rfl
theorem own_Book_Lost_sound (a0 : Value) (a1 : Value) {w : World} {Q : Value → World → Prop} (h : own_Book_Lost_x (std Try.prog) a0 a1 w Q) : CallsR Try.prog 17 #[a0, a1] w Q :=
  calls_of_funY mixed Try.func17 (Eq.mp (own_Book_Lost_eq _ a0 a1 w Q) h)

def own_Book_Waits_x (C : Comb) (a0 : Value) (a1 : Value) (w : World) (Q : Value → World → Prop) : Prop :=
  C.calls 26 #[a0, a1] w fun v8_1 w =>
  C.step (sBin .neq 61 (.tmp 9) (.const (.pointer none)) v8_1 (.pointer none)) w fun v10_1 w =>
  C.bool v10_1
  (C.step (sBuildSlice 36 0 []) w fun v11_1 w =>
  C.step (sNil v8_1) w fun v13_1 w =>
  C.step (sFieldAddr 63 v13_1 4) w fun v14_1 w =>
  C.step (sLoad 36 v14_1) w fun v15_1 w =>
  C.step (sBuiltin .append #[36, 36] 36 [false, false] [v11_1, v15_1]) w fun v16_1 w =>
  Q v16_1 w)
  (Q (.slice none 0 0) w)
theorem own_Book_Waits_eq (C : Comb) (a0 : Value) (a1 : Value) (w : World) (Q : Value → World → Prop) : own_Book_Waits_x C a0 a1 w Q = FunY Try.prog C 6 Try.f18 [a0, a1] w Q := by kernel_rfl
theorem own_Book_Waits_sound (a0 : Value) (a1 : Value) {w : World} {Q : Value → World → Prop} (h : own_Book_Waits_x (std Try.prog) a0 a1 w Q) : CallsR Try.prog 18 #[a0, a1] w Q :=
  calls_of_funY mixed Try.func18 (Eq.mp (own_Book_Waits_eq _ a0 a1 w Q) h)

def own_Book_Has_k1 (C : Comb) (u5_1 : Value) (w : World) (Q : Value → World → Prop) : Prop :=
  Q u5_1 w
def own_Book_Has_k2 (C : Comb) (vs_1 : List Value) (again_1 : List Value → World → Prop) (u6_2 : Value) (u7_2 : Value) (u5_2 : Value) (w : World) (Q : Value → World → Prop) : Prop :=
  C.step (sBin .add 3 (.tmp 19) (.const (.int .i64 1)) (vs_1.getD 3 undef) (.int .i64 1)) w fun v34_1 w =>
  again_1 [u6_2, u7_2, u5_2, v34_1] w
def own_Book_Has_x (C : Comb) (a0 : Value) (a1 : Value) (w : World) (Q : Value → World → Prop) : Prop :=
  C.step (sBin .neq 25 (.tmp 8) (.const (.pointer none)) a0 (.pointer none)) w fun v9_1 w =>
  C.bool v9_1
  (C.calls 27 #[a1] w fun v12_1 w =>
  C.bool v12_1
  (C.step (sNil a0) w fun v15_1 w =>
  C.step (sFieldAddr 60 v15_1 0) w fun v16_1 w =>
  C.step (sLoad 58 v16_1) w fun v17_1 w =>
  C.step (sBuiltin .len #[58] 3 [false] [v17_1]) w fun v18_1 w =>
  C.loop [undef, undef, (.slice none 0 0), (.int .i64 0)] w fun dv_1 vs_1 w again_1 =>
  C.step (sBin .lss 3 (.tmp 19) (.tmp 18) (vs_1.getD 3 undef) v18_1) w fun v20_1 w =>
  C.bool v20_1
  (C.step (sIndexAddr 58 v17_1 (vs_1.getD 3 undef)) w fun v22_1 w =>
  C.step (sLoad 61 v22_1) w fun v23_1 w =>
  C.step (sNil v23_1) w fun v25_1 w =>
  C.step (sFieldAddr 63 v25_1 0) w fun v26_1 w =>
  C.step (sLoad 3 v26_1) w fun v27_1 w =>
  C.step (sBin .eql 3 (.tmp 27) (.tmp 28) v27_1 a1) w fun v29_1 w =>
  C.bool v29_1
  (C.step (sBuildSlice 36 1 [(0, (vs_1.getD 3 undef))]) w fun v32_1 w =>
  C.step (sBuiltin .append #[36, 36] 36 [false, false] [(vs_1.getD 2 undef), v32_1]) w fun v33_1 w =>
  own_Book_Has_k2 C vs_1 again_1 (vs_1.getD 3 undef) v23_1 v33_1 w Q)
  (own_Book_Has_k2 C vs_1 again_1 (vs_1.getD 3 undef) v23_1 (vs_1.getD 2 undef) w Q))
  (own_Book_Has_k1 C (vs_1.getD 2 undef) w Q))
  (own_Book_Has_k1 C (.slice none 0 0) w Q))
  (own_Book_Has_k1 C (.slice none 0 0) w Q)
theorem own_Book_Has_eq (C : Comb) (a0 : Value) (a1 : Value) (w : World) (Q : Value → World → Prop) : own_Book_Has_x C a0 a1 w Q = FunY Try.prog C 8 Try.f19 [a0, a1] w Q := by kernel_rfl
theorem own_Book_Has_sound (a0 : Value) (a1 : Value) {w : World} {Q : Value → World → Prop} (h : own_Book_Has_x (std Try.prog) a0 a1 w Q) : CallsR Try.prog 19 #[a0, a1] w Q :=
  calls_of_funY mixed Try.func19 (Eq.mp (own_Book_Has_eq _ a0 a1 w Q) h)

def flotillaref12_Same_k1 (C : Comb) (w : World) (Q : Value → World → Prop) : Prop :=
  Q (.bool true) w
def flotillaref12_Same_x (C : Comb) (a0 : Value) (a1 : Value) (w : World) (Q : Value → World → Prop) : Prop :=
  C.step (sBuiltin .len #[36] 3 [false] [a0]) w fun v7_1 w =>
  C.step (sBuiltin .len #[36] 3 [false] [a1]) w fun v9_1 w =>
  C.step (sBin .neq 3 (.tmp 7) (.tmp 9) v7_1 v9_1) w fun v10_1 w =>
  C.bool v10_1
  (Q (.bool false) w)
  (C.loop [(.bool false), (.int .i64 0)] w fun dv_1 vs_1 w again_1 =>
  C.step (sBuiltin .len #[36] 3 [false] [a0]) w fun v13_1 w =>
  C.step (sBin .lss 3 (.tmp 11) (.tmp 13) (vs_1.getD 1 undef) v13_1) w fun v14_1 w =>
  C.bool v14_1
  (C.draw w fun S_1 w =>
  C.stepS S_1 (sIndexAddr 36 a0 (vs_1.getD 1 undef)) fun v19_1 =>
  C.stepS S_1 (sLoad 3 v19_1) fun v20_1 =>
  C.stepS S_1 (sIndexAddr 36 a1 (vs_1.getD 1 undef)) fun v23_1 =>
  C.stepS S_1 (sLoad 3 v23_1) fun v24_1 =>
  C.stepS S_1 (sBin .neq 3 (.tmp 20) (.tmp 24) v20_1 v24_1) fun v25_1 =>
  C.bool v25_1
  (Q (.bool false) w)
  (C.step (sBin .add 3 (.tmp 15) (.const (.int .i64 1)) (vs_1.getD 1 undef) (.int .i64 1)) w fun v16_1 w =>
  again_1 [(vs_1.getD 0 undef), v16_1] w))
  (flotillaref12_Same_k1 C w Q))
theorem flotillaref12_Same_eq (C : Comb) (a0 : Value) (a1 : Value) (w : World) (Q : Value → World → Prop) : flotillaref12_Same_x C a0 a1 w Q = FunY Try.prog C 6 Try.f20 [a0, a1] w Q := by kernel_rfl
theorem flotillaref12_Same_sound (a0 : Value) (a1 : Value) {w : World} {Q : Value → World → Prop} (h : flotillaref12_Same_x (std Try.prog) a0 a1 w Q) : CallsR Try.prog 20 #[a0, a1] w Q :=
  calls_of_funY mixed Try.func20 (Eq.mp (flotillaref12_Same_eq _ a0 a1 w Q) h)

def flotillaref12_Has_k1 (C : Comb) (w : World) (Q : Value → World → Prop) : Prop :=
  Q (.bool false) w
def flotillaref12_Has_x (C : Comb) (a0 : Value) (a1 : Value) (w : World) (Q : Value → World → Prop) : Prop :=
  C.loop [(.bool false), (.int .i64 0)] w fun dv_1 vs_1 w again_1 =>
  C.step (sBuiltin .len #[36] 3 [false] [a0]) w fun v8_1 w =>
  C.step (sBin .lss 3 (.tmp 6) (.tmp 8) (vs_1.getD 1 undef) v8_1) w fun v9_1 w =>
  C.bool v9_1
  (C.step (sIndexAddr 36 a0 (vs_1.getD 1 undef)) w fun v14_1 w =>
  C.step (sLoad 3 v14_1) w fun v15_1 w =>
  C.step (sBin .eql 3 (.tmp 15) (.tmp 16) v15_1 a1) w fun v17_1 w =>
  C.bool v17_1
  (Q (.bool true) w)
  (C.step (sBin .add 3 (.tmp 10) (.const (.int .i64 1)) (vs_1.getD 1 undef) (.int .i64 1)) w fun v11_1 w =>
  again_1 [(vs_1.getD 0 undef), v11_1] w))
  (flotillaref12_Has_k1 C w Q)
theorem flotillaref12_Has_eq (C : Comb) (a0 : Value) (a1 : Value) (w : World) (Q : Value → World → Prop) : flotillaref12_Has_x C a0 a1 w Q = FunY Try.prog C 6 Try.f21 [a0, a1] w Q := by kernel_rfl
theorem flotillaref12_Has_sound (a0 : Value) (a1 : Value) {w : World} {Q : Value → World → Prop} (h : flotillaref12_Has_x (std Try.prog) a0 a1 w Q) : CallsR Try.prog 21 #[a0, a1] w Q :=
  calls_of_funY mixed Try.func21 (Eq.mp (flotillaref12_Has_eq _ a0 a1 w Q) h)

def flotillaref20_New_k1 (C : Comb) (w : World) (Q : Value → World → Prop) : Prop :=
  Q (.tuple #[(.slice none 0 0), (.bool false)]) w
def flotillaref20_New_k2 (C : Comb) (u6_2 : Value) (w : World) (Q : Value → World → Prop) : Prop :=
  Q (.tuple #[u6_2, (.bool true)]) w
def flotillaref20_New_k3 (C : Comb) (vs_1 : List Value) (again_1 : List Value → World → Prop) (u6_3 : Value) (w : World) (Q : Value → World → Prop) : Prop :=
  C.step (sBin .add 3 (.tmp 23) (.const (.int .i64 1)) (vs_1.getD 1 undef) (.int .i64 1)) w fun v24_1 w =>
  again_1 [u6_3, v24_1] w
def flotillaref20_New_x (C : Comb) (a0 : Value) (a1 : Value) (w : World) (Q : Value → World → Prop) : Prop :=
  C.step (sBin .lss 3 (.tmp 8) (.const (.int .i64 1)) a0 (.int .i64 1)) w fun v9_1 w =>
  C.bool v9_1
  (flotillaref20_New_k1 C w Q)
  (C.step (sBin .gtr 3 (.tmp 11) (.const (.int .i64 16)) a0 (.int .i64 16)) w fun v12_1 w =>
  C.bool v12_1
  (flotillaref20_New_k1 C w Q)
  (C.step (sBuiltin .len #[22] 3 [false] [a1]) w fun v16_1 w =>
  C.step (sBin .gtr 3 (.tmp 16) (.tmp 17) v16_1 a0) w fun v18_1 w =>
  C.bool v18_1
  (Q (.tuple #[(.slice none 0 0), (.bool false)]) w)
  (C.loop [(.slice none 0 0), (.int .i64 0)] w fun dv_1 vs_1 w again_1 =>
  C.step (sBin .lss 3 (.tmp 20) (.tmp 21) (vs_1.getD 1 undef) a0) w fun v22_1 w =>
  C.bool v22_1
  (C.step (sBuiltin .len #[22] 3 [false] [a1]) w fun v28_1 w =>
  C.step (sBin .lss 3 (.tmp 26) (.tmp 28) (vs_1.getD 1 undef) v28_1) w fun v29_1 w =>
  C.bool v29_1
  (C.step (sIndexAddr 22 a1 (vs_1.getD 1 undef)) w fun v33_1 w =>
  C.step (sLoad 4 v33_1) w fun v34_1 w =>
  C.step (sBuild 68 [(3, v34_1)]) w fun v36_1 w =>
  C.step (sBuildSlice 52 1 [(0, v36_1)]) w fun v37_1 w =>
  C.step (sBuiltin .append #[52, 52] 52 [false, false] [(vs_1.getD 0 undef), v37_1]) w fun v38_1 w =>
  flotillaref20_New_k3 C vs_1 again_1 v38_1 w Q)
  (C.step (sBuild 68 [(3, (.bool false))]) w fun v36_2 w =>
  C.step (sBuildSlice 52 1 [(0, v36_2)]) w fun v37_2 w =>
  C.step (sBuiltin .append #[52, 52] 52 [false, false] [(vs_1.getD 0 undef), v37_2]) w fun v38_2 w =>
  flotillaref20_New_k3 C vs_1 again_1 v38_2 w Q))
  (flotillaref20_New_k2 C (vs_1.getD 0 undef) w Q))))
theorem flotillaref20_New_eq (C : Comb) (a0 : Value) (a1 : Value) (w : World) (Q : Value → World → Prop) : flotillaref20_New_x C a0 a1 w Q = FunY Try.prog C 8 Try.f22 [a0, a1] w Q := by kernel_rfl
theorem flotillaref20_New_sound (a0 : Value) (a1 : Value) {w : World} {Q : Value → World → Prop} (h : flotillaref20_New_x (std Try.prog) a0 a1 w Q) : CallsR Try.prog 22 #[a0, a1] w Q :=
  calls_of_funY mixed Try.func22 (Eq.mp (flotillaref20_New_eq _ a0 a1 w Q) h)

def flotillalaw20_step_k1 (C : Comb) (u1_1 : Value) (u9_1 : Value) (u11_1 : Value) (u8_1 : Value) (u10_1 : Value) (w : World) (Q : Value → World → Prop) : Prop :=
  C.step (sBin .eql 26 (.tmp 92) (.tmp 93) u10_1 u11_1) w fun v94_1 w =>
  C.bool v94_1
  (C.calls 36 #[u8_1, u9_1] w fun v98_1 w =>
  Q (.tuple #[u1_1, v98_1]) w)
  (Q (.tuple #[u1_1, (.bool false)]) w)
def flotillalaw20_step_x (C : Comb) (a0 : Value) (a1 : Value) (a2 : Value) (w : World) (Q : Value → World → Prop) : Prop :=
  C.step (sBox 32 a2) w fun v5_1 w =>
  C.step (sFieldAddr 32 v5_1 0) w fun v14_1 w =>
  C.step (sLoad 3 v14_1) w fun v15_1 w =>
  C.step (sBin .eql 3 (.tmp 15) (.const (.int .i64 0)) v15_1 (.int .i64 0)) w fun v17_1 w =>
  C.bool v17_1
  (C.step (sFieldAddr 32 v5_1 1) w fun v20_1 w =>
  C.step (sLoad 3 v20_1) w fun v21_1 w =>
  C.step (sFieldAddr 32 v5_1 2) w fun v22_1 w =>
  C.step (sLoad 3 v22_1) w fun v23_1 w =>
  C.calls 32 #[a1, v21_1, v23_1] w fun v24_1 w =>
  C.step (sExtract v24_1 0) w fun v25_1 w =>
  C.step (sExtract v24_1 1) w fun v26_1 w =>
  C.step (sExtract v24_1 2) w fun v27_1 w =>
  C.step (sFieldAddr 32 v5_1 1) w fun v30_1 w =>
  C.step (sLoad 3 v30_1) w fun v31_1 w =>
  C.step (sFieldAddr 32 v5_1 2) w fun v32_1 w =>
  C.step (sLoad 3 v32_1) w fun v33_1 w =>
  C.calls 11 #[a0, v31_1, v33_1] w fun v34_1 w =>
  C.step (sExtract v34_1 0) w fun v35_1 w =>
  C.step (sExtract v34_1 1) w fun v36_1 w =>
  flotillalaw20_step_k1 C v25_1 v26_1 v27_1 v35_1 v36_1 w Q)
  (C.step (sBin .eql 3 (.tmp 15) (.const (.int .i64 1)) v15_1 (.int .i64 1)) w fun v38_1 w =>
  C.bool v38_1
  (C.step (sFieldAddr 32 v5_1 1) w fun v41_1 w =>
  C.step (sLoad 3 v41_1) w fun v42_1 w =>
  C.step (sFieldAddr 32 v5_1 2) w fun v43_1 w =>
  C.step (sLoad 3 v43_1) w fun v44_1 w =>
  C.calls 33 #[a1, v42_1, v44_1] w fun v45_1 w =>
  C.step (sExtract v45_1 0) w fun v46_1 w =>
  C.step (sExtract v45_1 1) w fun v47_1 w =>
  C.step (sExtract v45_1 2) w fun v48_1 w =>
  C.step (sFieldAddr 32 v5_1 1) w fun v51_1 w =>
  C.step (sLoad 3 v51_1) w fun v52_1 w =>
  C.step (sFieldAddr 32 v5_1 2) w fun v53_1 w =>
  C.step (sLoad 3 v53_1) w fun v54_1 w =>
  C.calls 12 #[a0, v52_1, v54_1] w fun v55_1 w =>
  C.step (sExtract v55_1 0) w fun v56_1 w =>
  C.step (sExtract v55_1 1) w fun v57_1 w =>
  flotillalaw20_step_k1 C v46_1 v47_1 v48_1 v56_1 v57_1 w Q)
  (C.step (sBin .eql 3 (.tmp 15) (.const (.int .i64 2)) v15_1 (.int .i64 2)) w fun v59_1 w =>
  C.bool v59_1
  (C.step (sFieldAddr 32 v5_1 2) w fun v62_1 w =>
  C.step (sLoad 3 v62_1) w fun v63_1 w =>
  C.calls 34 #[a1, v63_1] w fun v64_1 w =>
  C.step (sExtract v64_1 0) w fun v65_1 w =>
  C.step (sExtract v64_1 1) w fun v66_1 w =>
  C.step (sFieldAddr 32 v5_1 2) w fun v69_1 w =>
  C.step (sLoad 3 v69_1) w fun v70_1 w =>
  C.calls 13 #[a0, v70_1] w fun v71_1 w =>
  C.calls 20 #[v71_1, v66_1] w fun v73_1 w =>
  Q (.tuple #[v65_1, v73_1]) w)
  (C.step (sBin .eql 3 (.tmp 15) (.const (.int .i64 3)) v15_1 (.int .i64 3)) w fun v75_1 w =>
  C.bool v75_1
  (C.step (sFieldAddr 32 v5_1 1) w fun v78_1 w =>
  C.step (sLoad 3 v78_1) w fun v79_1 w =>
  C.calls 35 #[a1, v79_1] w fun v80_1 w =>
  C.step (sExtract v80_1 0) w fun v81_1 w =>
  C.step (sExtract v80_1 1) w fun v82_1 w =>
  C.step (sExtract v80_1 2) w fun v83_1 w =>
  C.step (sFieldAddr 32 v5_1 1) w fun v86_1 w =>
  C.step (sLoad 3 v86_1) w fun v87_1 w =>
  C.calls 14 #[a0, v87_1] w fun v88_1 w =>
  C.step (sExtract v88_1 0) w fun v89_1 w =>
  C.step (sExtract v88_1 1) w fun v90_1 w =>
  flotillalaw20_step_k1 C v81_1 v82_1 v83_1 v89_1 v90_1 w Q)
  (flotillalaw20_step_k1 C a1 (.slice none 0 0) (.int .i64 0) (.slice none 0 0) (.int .i64 0) w Q))))
theorem flotillalaw20_step_eq (C : Comb) (a0 : Value) (a1 : Value) (a2 : Value) (w : World) (Q : Value → World → Prop) : flotillalaw20_step_x C a0 a1 a2 w Q = FunY Try.prog C 2 Try.f23 [a0, a1, a2] w Q := by kernel_rfl
theorem flotillalaw20_step_sound (a0 : Value) (a1 : Value) (a2 : Value) {w : World} {Q : Value → World → Prop} (h : flotillalaw20_step_x (std Try.prog) a0 a1 a2 w Q) : CallsR Try.prog 23 #[a0, a1, a2] w Q :=
  calls_of_funY mixed Try.func23 (Eq.mp (flotillalaw20_step_eq _ a0 a1 a2 w Q) h)

def flotillalaw20_alike_k2 (C : Comb) (w : World) (Q : Value → World → Prop) : Prop :=
  Q (.bool true) w
def flotillalaw20_alike_k3 (C : Comb) (a0 : Value) (vs_1 : List Value) (again_1 : List Value → World → Prop) (u8_3 : Value) (w : World) (Q : Value → World → Prop) : Prop :=
  C.calls 19 #[a0, (vs_1.getD 0 undef)] w fun v87_1 w =>
  C.calls 20 #[v87_1, u8_3] w fun v89_1 w =>
  C.step (sUn .not v89_1) w fun v90_1 w =>
  C.bool v90_1
  (Q (.bool false) w)
  (C.step (sBin .add 3 (.tmp 62) (.const (.int .i64 1)) (vs_1.getD 0 undef) (.int .i64 1)) w fun v63_1 w =>
  again_1 [v63_1] w)
def flotillalaw20_alike_k4 (C : Comb) (vs_2 : List Value) (again_2 : List Value → World → Prop) (u8_4 : Value) (w : World) (Q : Value → World → Prop) : Prop :=
  C.step (sBin .add 3 (.tmp 68) (.const (.int .i64 1)) (vs_2.getD 1 undef) (.int .i64 1)) w fun v69_1 w =>
  again_2 [u8_4, v69_1] w
def flotillalaw20_alike_k1 (C : Comb) (a0 : Value) (a1 : Value) (w : World) (Q : Value → World → Prop) : Prop :=
  C.loop [(.int .i64 0)] w fun dv_1 vs_1 w again_1 =>
  C.step (sBin .leq 3 (.tmp 60) (.const (.int .i64 9)) (vs_1.getD 0 undef) (.int .i64 9)) w fun v61_1 w =>
  C.bool v61_1
  (C.loop [(.slice none 0 0), (.int .i64 0)] w fun dv_2 vs_2 w again_2 =>
  C.step (sBuiltin .len #[52] 3 [false] [a1]) w fun v66_1 w =>
  C.step (sBin .lss 3 (.tmp 64) (.tmp 66) (vs_2.getD 1 undef) v66_1) w fun v67_1 w =>
  C.bool v67_1
  (C.step (sBin .gtr 3 (.tmp 70) (.const (.int .i64 0)) (vs_1.getD 0 undef) (.int .i64 0)) w fun v71_1 w =>
  C.bool v71_1
  (C.step (sIndexAddr 52 a1 (vs_2.getD 1 undef)) w fun v75_1 w =>
  C.step (sFieldAddr 68 v75_1 0) w fun v76_1 w =>
  C.step (sLoad 3 v76_1) w fun v77_1 w =>
  C.step (sBin .eql 3 (.tmp 77) (.tmp 78) v77_1 (vs_1.getD 0 undef)) w fun v79_1 w =>
  C.bool v79_1
  (C.step (sBuildSlice 36 1 [(0, (vs_2.getD 1 undef))]) w fun v83_1 w =>
  C.step (sBuiltin .append #[36, 36] 36 [false, false] [(vs_2.getD 0 undef), v83_1]) w fun v84_1 w =>
  flotillalaw20_alike_k4 C vs_2 again_2 v84_1 w Q)
  (flotillalaw20_alike_k4 C vs_2 again_2 (vs_2.getD 0 undef) w Q))
  (flotillalaw20_alike_k4 C vs_2 again_2 (vs_2.getD 0 undef) w Q))
  (flotillalaw20_alike_k3 C a0 vs_1 again_1 (vs_2.getD 0 undef) w Q))
  (flotillalaw20_alike_k2 C w Q)
def flotillalaw20_alike_k6 (C : Comb) (w : World) (Q : Value → World → Prop) : Prop :=
  Q (.bool false) w
def flotillalaw20_alike_k5 (C : Comb) (a0 : Value) (vs_3 : List Value) (again_3 : List Value → World → Prop) (v6_1 : Value) (w : World) (Q : Value → World → Prop) : Prop :=
  C.draw w fun S_1 w =>
  C.stepS S_1 (sFieldAddr 68 v6_1 0) fun v32_1 =>
  C.stepS S_1 (sLoad 3 v32_1) fun v33_1 =>
  C.calls 16 #[a0, (vs_3.getD 0 undef)] w fun v31_1 w =>
  C.keepS S_1 w fun S_2 =>
  C.stepS S_2 (sBin .neq 3 (.tmp 31) (.tmp 33) v31_1 v33_1) fun v34_1 =>
  C.bool v34_1
  (flotillalaw20_alike_k6 C w Q)
  (C.stepS S_2 (sFieldAddr 68 v6_1 1) fun v39_1 =>
  C.stepS S_2 (sLoad 4 v39_1) fun v40_1 =>
  C.calls 17 #[a0, (vs_3.getD 0 undef)] w fun v38_1 w =>
  C.keepS S_2 w fun S_3 =>
  C.stepS S_3 (sBin .neq 4 (.tmp 38) (.tmp 40) v38_1 v40_1) fun v41_1 =>
  C.bool v41_1
  (flotillalaw20_alike_k6 C w Q)
  (C.stepS S_3 (sFieldAddr 68 v6_1 3) fun v47_1 =>
  C.stepS S_3 (sLoad 4 v47_1) fun v48_1 =>
  C.calls 25 #[a0, (vs_3.getD 0 undef)] w fun v46_1 w =>
  C.keepS S_3 w fun S_4 =>
  C.stepS S_4 (sBin .neq 4 (.tmp 46) (.tmp 48) v46_1 v48_1) fun v49_1 =>
  C.bool v49_1
  (flotillalaw20_alike_k6 C w Q)
  (C.stepS S_4 (sFieldAddr 68 v6_1 4) fun v55_1 =>
  C.stepS S_4 (sLoad 36 v55_1) fun v56_1 =>
  C.calls 18 #[a0, (vs_3.getD 0 undef)] w fun v54_1 w =>
  C.keepS S_4 w fun S_5 =>
  C.calls 20 #[v54_1, v56_1] w fun v57_1 w =>
  C.keepT w fun S_6 =>
  C.stepS S_6 (sUn .not v57_1) fun v58_1 =>
  C.bool v58_1
  (Q (.bool false) w)
  (C.step (sBin .add 3 (.tmp 14) (.const (.int .i64 1)) (vs_3.getD 0 undef) (.int .i64 1)) w fun v15_1 w =>
  again_3 [v15_1] w))))
def flotillalaw20_alike_x (C : Comb) (a0 : Value) (a1 : Value) (w : World) (Q : Value → World → Prop) : Prop :=
  C.loop [(.int .i64 (-1))] w fun dv_3 vs_3 w again_3 =>
  C.step (sBuiltin .len #[52] 3 [false] [a1]) w fun v12_1 w =>
  C.step (sBin .leq 3 (.tmp 10) (.tmp 12) (vs_3.getD 0 undef) v12_1) w fun v13_1 w =>
  C.bool v13_1
  (C.step (sBuild 68 []) w fun v16_1 w =>
  C.step (sAlloc 68) w fun v6_1 w =>
  C.step (sStore 68 v6_1 v16_1) w fun vx_1 w =>
  C.step (sBin .geq 3 (.tmp 17) (.const (.int .i64 0)) (vs_3.getD 0 undef) (.int .i64 0)) w fun v18_1 w =>
  C.bool v18_1
  (C.step (sBuiltin .len #[52] 3 [false] [a1]) w fun v22_1 w =>
  C.step (sBin .lss 3 (.tmp 20) (.tmp 22) (vs_3.getD 0 undef) v22_1) w fun v23_1 w =>
  C.bool v23_1
  (C.step (sIndexAddr 52 a1 (vs_3.getD 0 undef)) w fun v27_1 w =>
  C.step (sLoad 68 v27_1) w fun v28_1 w =>
  C.step (sStore 68 v6_1 v28_1) w fun vx_2 w =>
  flotillalaw20_alike_k5 C a0 vs_3 again_3 v6_1 w Q)
  (flotillalaw20_alike_k5 C a0 vs_3 again_3 v6_1 w Q))
  (flotillalaw20_alike_k5 C a0 vs_3 again_3 v6_1 w Q))
  (flotillalaw20_alike_k1 C a0 a1 w Q)
theorem flotillalaw20_alike_eq (C : Comb) (a0 : Value) (a1 : Value) (w : World) (Q : Value → World → Prop) : flotillalaw20_alike_x C a0 a1 w Q = FunY Try.prog C 2 Try.f24 [a0, a1] w Q := by kernel_rfl
theorem flotillalaw20_alike_sound (a0 : Value) (a1 : Value) {w : World} {Q : Value → World → Prop} (h : flotillalaw20_alike_x (std Try.prog) a0 a1 w Q) : CallsR Try.prog 24 #[a0, a1] w Q :=
  calls_of_funY mixed Try.func24 (Eq.mp (flotillalaw20_alike_eq _ a0 a1 w Q) h)

def own_Book_Fast_x (C : Comb) (a0 : Value) (a1 : Value) (w : World) (Q : Value → World → Prop) : Prop :=
  C.calls 26 #[a0, a1] w fun v8_1 w =>
  C.step (sBin .neq 61 (.tmp 9) (.const (.pointer none)) v8_1 (.pointer none)) w fun v10_1 w =>
  C.bool v10_1
  (C.step (sNil v8_1) w fun v13_1 w =>
  C.step (sFieldAddr 63 v13_1 3) w fun v14_1 w =>
  C.step (sLoad 4 v14_1) w fun v15_1 w =>
  Q v15_1 w)
  (Q (.bool false) w)
theorem own_Book_Fast_eq (C : Comb) (a0 : Value) (a1 : Value) (w : World) (Q : Value → World → Prop) : own_Book_Fast_x C a0 a1 w Q = FunY Try.prog C 6 Try.f25 [a0, a1] w Q := by kernel_rfl
theorem own_Book_Fast_sound (a0 : Value) (a1 : Value) {w : World} {Q : Value → World → Prop} (h : own_Book_Fast_x (std Try.prog) a0 a1 w Q) : CallsR Try.prog 25 #[a0, a1] w Q :=
  calls_of_funY mixed Try.func25 (Eq.mp (own_Book_Fast_eq _ a0 a1 w Q) h)

def own_Book_find_k1 (C : Comb) (w : World) (Q : Value → World → Prop) : Prop :=
  Q (.pointer none) w
def own_Book_find_x (C : Comb) (a0 : Value) (a1 : Value) (w : World) (Q : Value → World → Prop) : Prop :=
  C.step (sBin .eql 25 (.tmp 5) (.const (.pointer none)) a0 (.pointer none)) w fun v6_1 w =>
  C.bool v6_1
  (own_Book_find_k1 C w Q)
  (C.step (sBin .lss 3 (.tmp 8) (.const (.int .i64 0)) a1 (.int .i64 0)) w fun v9_1 w =>
  C.bool v9_1
  (own_Book_find_k1 C w Q)
  (C.step (sNil a0) w fun v14_1 w =>
  C.step (sFieldAddr 60 v14_1 0) w fun v15_1 w =>
  C.step (sLoad 58 v15_1) w fun v16_1 w =>
  C.step (sBuiltin .len #[58] 3 [false] [v16_1]) w fun v17_1 w =>
  C.step (sBin .geq 3 (.tmp 12) (.tmp 17) a1 v17_1) w fun v18_1 w =>
  C.bool v18_1
  (Q (.pointer none) w)
  (C.step (sNil a0) w fun v21_1 w =>
  C.step (sFieldAddr 60 v21_1 0) w fun v22_1 w =>
  C.step (sLoad 58 v22_1) w fun v23_1 w =>
  C.step (sIndexAddr 58 v23_1 a1) w fun v25_1 w =>
  C.step (sLoad 61 v25_1) w fun v26_1 w =>
  Q v26_1 w)))
theorem own_Book_find_eq (C : Comb) (a0 : Value) (a1 : Value) (w : World) (Q : Value → World → Prop) : own_Book_find_x C a0 a1 w Q = FunY Try.prog C 4 Try.f26 [a0, a1] w Q := by kernel_rfl
theorem own_Book_find_sound (a0 : Value) (a1 : Value) {w : World} {Q : Value → World → Prop} (h : own_Book_find_x (std Try.prog) a0 a1 w Q) : CallsR Try.prog 26 #[a0, a1] w Q :=
  calls_of_funY mixed Try.func26 (Eq.mp (own_Book_find_eq _ a0 a1 w Q) h)

def own_known_x (C : Comb) (a0 : Value) (w : World) (Q : Value → World → Prop) : Prop :=
  C.step (sBin .geq 3 (.tmp 3) (.const (.int .i64 1)) a0 (.int .i64 1)) w fun v4_1 w =>
  C.bool v4_1
  (C.step (sBin .leq 3 (.tmp 6) (.const (.int .i64 8)) a0 (.int .i64 8)) w fun v7_1 w =>
  Q v7_1 w)
  (Q (.bool false) w)
theorem own_known_eq (C : Comb) (a0 : Value) (w : World) (Q : Value → World → Prop) : own_known_x C a0 w Q = FunY Try.prog C 2 Try.f27 [a0] w Q := by kernel_rfl
theorem own_known_sound (a0 : Value) {w : World} {Q : Value → World → Prop} (h : own_known_x (std Try.prog) a0 w Q) : CallsR Try.prog 27 #[a0] w Q :=
  calls_of_funY mixed Try.func27 (Eq.mp (own_known_eq _ a0 w Q) h)

def slices_Contains_int_int_x (C : Comb) (a0 : Value) (a1 : Value) (w : World) (Q : Value → World → Prop) : Prop :=
  C.calls 37 #[a0, a1] w fun v7_1 w =>
  C.step (sBin .geq 3 (.tmp 7) (.const (.int .i64 0)) v7_1 (.int .i64 0)) w fun v8_1 w =>
  Q v8_1 w
theorem slices_Contains_int_int_eq (C : Comb) (a0 : Value) (a1 : Value) (w : World) (Q : Value → World → Prop) : slices_Contains_int_int_x C a0 a1 w Q = FunY Try.prog C 4 Try.f28 [a0, a1] w Q := by kernel_rfl
theorem slices_Contains_int_int_sound (a0 : Value) (a1 : Value) {w : World} {Q : Value → World → Prop} (h : slices_Contains_int_int_x (std Try.prog) a0 a1 w Q) : CallsR Try.prog 28 #[a0, a1] w Q :=
  calls_of_funY mixed Try.func28 (Eq.mp (slices_Contains_int_int_eq _ a0 a1 w Q) h)

def own_leaf_serve_k1 (C : Comb) (a0 : Value) (a1 : Value) (u5_1 : Value) (w : World) (Q : Value → World → Prop) : Prop :=
  C.calls 38 #[a0, a1] w fun v69_1 w =>
  C.step (sBuiltin .append #[33, 33] 33 [false, false] [u5_1, v69_1]) w fun v70_1 w =>
  Q v70_1 w
def own_leaf_serve_k2 (C : Comb) (a0 : Value) (a1 : Value) (w : World) (Q : Value → World → Prop) : Prop :=
  own_leaf_serve_k1 C a0 a1 (.slice none 0 0) w Q
def own_leaf_serve_x (C : Comb) (a0 : Value) (a1 : Value) (w : World) (Q : Value → World → Prop) : Prop :=
  C.step (sNil a0) w fun v7_1 w =>
  C.step (sFieldAddr 63 v7_1 0) w fun v8_1 w =>
  C.step (sLoad 3 v8_1) w fun v9_1 w =>
  C.step (sBin .eql 3 (.tmp 9) (.const (.int .i64 0)) v9_1 (.int .i64 0)) w fun v10_1 w =>
  C.bool v10_1
  (C.step (sNil a0) w fun v13_1 w =>
  C.step (sFieldAddr 63 v13_1 1) w fun v14_1 w =>
  C.step (sLoad 4 v14_1) w fun v15_1 w =>
  C.step (sUn .not v15_1) w fun v16_1 w =>
  C.bool v16_1
  (C.step (sNil a0) w fun v20_1 w =>
  C.step (sFieldAddr 63 v20_1 4) w fun v21_1 w =>
  C.step (sLoad 36 v21_1) w fun v22_1 w =>
  C.step (sBuiltin .len #[36] 3 [false] [v22_1]) w fun v23_1 w =>
  C.step (sBin .gtr 3 (.tmp 23) (.const (.int .i64 0)) v23_1 (.int .i64 0)) w fun v24_1 w =>
  C.bool v24_1
  (C.step (sNil a0) w fun v28_1 w =>
  C.step (sFieldAddr 63 v28_1 4) w fun v29_1 w =>
  C.step (sLoad 36 v29_1) w fun v30_1 w =>
  C.step (sIndexAddr 36 v30_1 (.int .i64 0)) w fun v31_1 w =>
  C.step (sLoad 3 v31_1) w fun v32_1 w =>
  C.step (sNil a0) w fun v33_1 w =>
  C.step (sFieldAddr 63 v33_1 0) w fun v34_1 w =>
  C.step (sStore 3 v34_1 v32_1) w fun vx_1 w =>
  C.draw w fun S_1 w =>
  C.stepS S_1 (sNil a0) fun v37_1 =>
  C.stepS S_1 (sFieldAddr 63 v37_1 4) fun v38_1 =>
  C.stepS S_1 (sLoad 36 v38_1) fun v39_1 =>
  C.stepS S_1 (sNil a0) fun v41_1 =>
  C.stepS S_1 (sFieldAddr 63 v41_1 4) fun v42_1 =>
  C.stepS S_1 (sLoad 36 v42_1) fun v43_1 =>
  C.stepS S_1 (sBuiltin .len #[36] 3 [false] [v43_1]) fun v44_1 =>
  C.stepS S_1 (sNil a0) fun v46_1 =>
  C.stepS S_1 (sFieldAddr 63 v46_1 4) fun v47_1 =>
  C.stepS S_1 (sLoad 36 v47_1) fun v48_1 =>
  C.stepS S_1 (sBuiltin .len #[36] 3 [false] [v48_1]) fun v49_1 =>
  C.stepS S_1 (sSlice 36 v39_1 (some (.int .i64 1)) (some v44_1) (some v49_1)) fun v50_1 =>
  C.stepS S_1 (sNil a0) fun v51_1 =>
  C.stepS S_1 (sFieldAddr 63 v51_1 4) fun v52_1 =>
  C.step (sStore 36 v52_1 v50_1) w fun vx_2 w =>
  C.keepT w fun S_2 =>
  C.draw w fun S_3 w =>
  C.stepS S_3 (sNil a0) fun v56_1 =>
  C.stepS S_3 (sFieldAddr 63 v56_1 0) fun v57_1 =>
  C.stepS S_3 (sLoad 3 v57_1) fun v58_1 =>
  C.stepS S_3 (sNil a0) fun v60_1 =>
  C.stepS S_3 (sFieldAddr 63 v60_1 3) fun v61_1 =>
  C.stepS S_3 (sLoad 4 v61_1) fun v62_1 =>
  C.step (sBuild 46 [(0, (.int .i64 1)), (1, a1), (3, v58_1), (4, v62_1)]) w fun v63_1 w =>
  C.keepS S_3 w fun S_4 =>
  C.step (sBuildSlice 33 1 [(0, v63_1)]) w fun v64_1 w =>
  C.keepS S_4 w fun S_5 =>
  C.step (sBuiltin .append #[33, 33] 33 [false, false] [(.slice none 0 0), v64_1]) w fun v65_1 w =>
  C.keepT w fun S_6 =>
  own_leaf_serve_k1 C a0 a1 v65_1 w Q)
  (own_leaf_serve_k1 C a0 a1 (.slice none 0 0) w Q))
  (own_leaf_serve_k2 C a0 a1 w Q))
  (own_leaf_serve_k2 C a0 a1 w Q)
theorem own_leaf_serve_eq (C : Comb) (a0 : Value) (a1 : Value) (w : World) (Q : Value → World → Prop) : own_leaf_serve_x C a0 a1 w Q = FunY Try.prog C 2 Try.f29 [a0, a1] w Q := by kernel_rfl
theorem own_leaf_serve_sound (a0 : Value) (a1 : Value) {w : World} {Q : Value → World → Prop} (h : own_leaf_serve_x (std Try.prog) a0 a1 w Q) : CallsR Try.prog 29 #[a0, a1] w Q :=
  calls_of_funY mixed Try.func29 (Eq.mp (own_leaf_serve_eq _ a0 a1 w Q) h)

def slices_DeleteFunc_int_int_k1 (C : Comb) (a0 : Value) (u5_1 : Value) (w : World) (Q : Value → World → Prop) : Prop :=
  C.step (sSlice 36 a0 (some u5_1) none none) w fun v38_1 w =>
  C.step (sBuiltin .clear #[36] 0 [false] [v38_1]) w fun vx_1 w =>
  C.step (sSlice 36 a0 none (some u5_1) none) w fun v41_1 w =>
  Q v41_1 w
def slices_DeleteFunc_int_int_k2 (C : Comb) (vs_1 : List Value) (again_1 : List Value → World → Prop) (u7_2 : Value) (u5_2 : Value) (w : World) (Q : Value → World → Prop) : Prop :=
  C.step (sBin .add 3 (.tmp 20) (.const (.int .i64 1)) (vs_1.getD 2 undef) (.int .i64 1)) w fun v21_1 w =>
  again_1 [u7_2, u5_2, v21_1] w
def slices_DeleteFunc_int_int_x (C : Comb) (a0 : Value) (a1 : Value) (w : World) (Q : Value → World → Prop) : Prop :=
  C.calls 39 #[a0, a1] w fun v10_1 w =>
  C.step (sBin .eql 3 (.tmp 11) (.const (.int .i64 (-1))) v10_1 (.int .i64 (-1))) w fun v12_1 w =>
  C.bool v12_1
  (Q a0 w)
  (C.step (sBin .add 3 (.tmp 14) (.const (.int .i64 1)) v10_1 (.int .i64 1)) w fun v15_1 w =>
  C.loop [undef, v10_1, v15_1] w fun dv_1 vs_1 w again_1 =>
  C.step (sBuiltin .len #[36] 3 [false] [a0]) w fun v18_1 w =>
  C.step (sBin .lss 3 (.tmp 16) (.tmp 18) (vs_1.getD 2 undef) v18_1) w fun v19_1 w =>
  C.bool v19_1
  (C.step (sIndexAddr 36 a0 (vs_1.getD 2 undef)) w fun v24_1 w =>
  C.step (sLoad 3 v24_1) w fun v25_1 w =>
  C.step (sCallV a1 [v25_1]) w fun v28_1 w =>
  C.step (sUn .not v28_1) w fun v29_1 w =>
  C.bool v29_1
  (C.step (sIndexAddr 36 a0 (vs_1.getD 1 undef)) w fun v33_1 w =>
  C.step (sStore 3 v33_1 v25_1) w fun vx_2 w =>
  C.step (sBin .add 3 (.tmp 34) (.const (.int .i64 1)) (vs_1.getD 1 undef) (.int .i64 1)) w fun v35_1 w =>
  slices_DeleteFunc_int_int_k2 C vs_1 again_1 v25_1 v35_1 w Q)
  (slices_DeleteFunc_int_int_k2 C vs_1 again_1 v25_1 (vs_1.getD 1 undef) w Q))
  (slices_DeleteFunc_int_int_k1 C a0 (vs_1.getD 1 undef) w Q))
theorem slices_DeleteFunc_int_int_eq (C : Comb) (a0 : Value) (a1 : Value) (w : World) (Q : Value → World → Prop) : slices_DeleteFunc_int_int_x C a0 a1 w Q = FunY Try.prog C 8 Try.f30 [a0, a1] w Q := by kernel_rfl
theorem slices_DeleteFunc_int_int_sound (a0 : Value) (a1 : Value) {w : World} {Q : Value → World → Prop} (h : slices_DeleteFunc_int_int_x (std Try.prog) a0 a1 w Q) : CallsR Try.prog 30 #[a0, a1] w Q :=
  calls_of_funY mixed Try.func30 (Eq.mp (slices_DeleteFunc_int_int_eq _ a0 a1 w Q) h)

def own_Book_Fail_1_x (C : Comb) (a0 : Value) (a1 : Value) (w : World) (Q : Value → World → Prop) : Prop :=
  C.step (sLoad 3 a1) w fun v5_1 w =>
  C.step (sBin .eql 3 (.tmp 4) (.tmp 5) a0 v5_1) w fun v6_1 w =>
  Q v6_1 w
theorem own_Book_Fail_1_eq (C : Comb) (a0 : Value) (a1 : Value) (w : World) (Q : Value → World → Prop) : own_Book_Fail_1_x C a0 a1 w Q = FunY Try.prog C 3 Try.f31 [a0, a1] w Q := by kernel_rfl
theorem own_Book_Fail_1_sound (a0 : Value) (a1 : Value) {w : World} {Q : Value → World → Prop} (h : own_Book_Fail_1_x (std Try.prog) a0 a1 w Q) : CallsR Try.prog 31 #[a0, a1] w Q :=
  calls_of_funY mixed Try.func31 (Eq.mp (own_Book_Fail_1_eq _ a0 a1 w Q) h)

def flotillaref20_Need_k1 (C : Comb) (a0 : Value) (w : World) (Q : Value → World → Prop) : Prop :=
  Q (.tuple #[a0, (.slice none 0 0), (.int .i64 1)]) w
def flotillaref20_Need_x (C : Comb) (a0 : Value) (a1 : Value) (a2 : Value) (w : World) (Q : Value → World → Prop) : Prop :=
  C.step (sBin .lss 3 (.tmp 13) (.const (.int .i64 0)) a1 (.int .i64 0)) w fun v14_1 w =>
  C.bool v14_1
  (flotillaref20_Need_k1 C a0 w Q)
  (C.step (sBuiltin .len #[52] 3 [false] [a0]) w fun v18_1 w =>
  C.step (sBin .geq 3 (.tmp 16) (.tmp 18) a1 v18_1) w fun v19_1 w =>
  C.bool v19_1
  (flotillaref20_Need_k1 C a0 w Q)
  (C.step (sBin .lss 3 (.tmp 22) (.const (.int .i64 1)) a2 (.int .i64 1)) w fun v23_1 w =>
  C.bool v23_1
  (flotillaref20_Need_k1 C a0 w Q)
  (C.step (sBin .gtr 3 (.tmp 26) (.const (.int .i64 8)) a2 (.int .i64 8)) w fun v27_1 w =>
  C.bool v27_1
  (Q (.tuple #[a0, (.slice none 0 0), (.int .i64 1)]) w)
  (C.step (sIndexAddr 52 a0 a1) w fun v32_1 w =>
  C.step (sLoad 68 v32_1) w fun v33_1 w =>
  C.step (sAlloc 68) w fun v9_1 w =>
  C.step (sStore 68 v9_1 v33_1) w fun vx_1 w =>
  C.step (sFieldAddr 68 v9_1 0) w fun v34_1 w =>
  C.step (sLoad 3 v34_1) w fun v35_1 w =>
  C.step (sBin .eql 3 (.tmp 35) (.tmp 36) v35_1 a2) w fun v37_1 w =>
  C.bool v37_1
  (Q (.tuple #[a0, (.slice none 0 0), (.int .i64 9)]) w)
  (C.step (sFieldAddr 68 v9_1 4) w fun v39_1 w =>
  C.step (sLoad 36 v39_1) w fun v40_1 w =>
  C.calls 40 #[v40_1, a2] w fun v42_1 w =>
  C.bool v42_1
  (Q (.tuple #[a0, (.slice none 0 0), (.int .i64 9)]) w)
  (C.step (sFieldAddr 68 v9_1 4) w fun v46_1 w =>
  C.step (sLoad 36 v46_1) w fun v47_1 w =>
  C.step (sBuiltin .append #[36, 36] 36 [false, false] [(.slice none 0 0), v47_1]) w fun v48_1 w =>
  C.step (sBuildSlice 36 1 [(0, a2)]) w fun v51_1 w =>
  C.step (sBuiltin .append #[36, 36] 36 [false, false] [v48_1, v51_1]) w fun v52_1 w =>
  C.step (sFieldAddr 68 v9_1 4) w fun v53_1 w =>
  C.step (sStore 36 v53_1 v52_1) w fun vx_2 w =>
  C.step (sLoad 68 v9_1) w fun v57_1 w =>
  C.calls 42 #[a0, a1, v57_1] w fun v58_1 w =>
  C.calls 41 #[v58_1, a1] w fun v60_1 w =>
  C.step (sExtract v60_1 0) w fun v61_1 w =>
  C.step (sExtract v60_1 1) w fun v62_1 w =>
  Q (.tuple #[v61_1, v62_1, (.int .i64 0)]) w))))))
theorem flotillaref20_Need_eq (C : Comb) (a0 : Value) (a1 : Value) (a2 : Value) (w : World) (Q : Value → World → Prop) : flotillaref20_Need_x C a0 a1 a2 w Q = FunY Try.prog C 2 Try.f32 [a0, a1, a2] w Q := by kernel_rfl
theorem flotillaref20_Need_sound (a0 : Value) (a1 : Value) (a2 : Value) {w : World} {Q : Value → World → Prop} (h : flotillaref20_Need_x (std Try.prog) a0 a1 a2 w Q) : CallsR Try.prog 32 #[a0, a1, a2] w Q :=
  calls_of_funY mixed Try.func32 (Eq.mp (flotillaref20_Need_eq _ a0 a1 a2 w Q) h)

def flotillaref20_Back_k1 (C : Comb) (a0 : Value) (w : World) (Q : Value → World → Prop) : Prop :=
  Q (.tuple #[a0, (.slice none 0 0), (.int .i64 1)]) w
def flotillaref20_Back_x (C : Comb) (a0 : Value) (a1 : Value) (a2 : Value) (w : World) (Q : Value → World → Prop) : Prop :=
  C.step (sBin .lss 3 (.tmp 12) (.const (.int .i64 0)) a1 (.int .i64 0)) w fun v13_1 w =>
  C.bool v13_1
  (flotillaref20_Back_k1 C a0 w Q)
  (C.step (sBuiltin .len #[52] 3 [false] [a0]) w fun v17_1 w =>
  C.step (sBin .geq 3 (.tmp 15) (.tmp 17) a1 v17_1) w fun v18_1 w =>
  C.bool v18_1
  (flotillaref20_Back_k1 C a0 w Q)
  (C.step (sBin .lss 3 (.tmp 21) (.const (.int .i64 1)) a2 (.int .i64 1)) w fun v22_1 w =>
  C.bool v22_1
  (flotillaref20_Back_k1 C a0 w Q)
  (C.step (sBin .gtr 3 (.tmp 25) (.const (.int .i64 8)) a2 (.int .i64 8)) w fun v26_1 w =>
  C.bool v26_1
  (Q (.tuple #[a0, (.slice none 0 0), (.int .i64 1)]) w)
  (C.step (sIndexAddr 52 a0 a1) w fun v31_1 w =>
  C.step (sLoad 68 v31_1) w fun v32_1 w =>
  C.step (sAlloc 68) w fun v9_1 w =>
  C.step (sStore 68 v9_1 v32_1) w fun vx_1 w =>
  C.step (sFieldAddr 68 v9_1 0) w fun v33_1 w =>
  C.step (sLoad 3 v33_1) w fun v34_1 w =>
  C.step (sBin .neq 3 (.tmp 34) (.tmp 35) v34_1 a2) w fun v36_1 w =>
  C.bool v36_1
  (Q (.tuple #[a0, (.slice none 0 0), (.int .i64 10)]) w)
  (C.step (sFieldAddr 68 v9_1 0) w fun v38_1 w =>
  C.step (sStore 3 v38_1 (.int .i64 0)) w fun vx_2 w =>
  C.step (sFieldAddr 68 v9_1 2) w fun v39_1 w =>
  C.step (sStore 4 v39_1 (.bool false)) w fun vx_3 w =>
  C.step (sLoad 68 v9_1) w fun v43_1 w =>
  C.calls 42 #[a0, a1, v43_1] w fun v44_1 w =>
  C.calls 41 #[v44_1, a1] w fun v46_1 w =>
  C.step (sExtract v46_1 0) w fun v47_1 w =>
  C.step (sExtract v46_1 1) w fun v48_1 w =>
  Q (.tuple #[v47_1, v48_1, (.int .i64 0)]) w)))))
theorem flotillaref20_Back_eq (C : Comb) (a0 : Value) (a1 : Value) (a2 : Value) (w : World) (Q : Value → World → Prop) : flotillaref20_Back_x C a0 a1 a2 w Q = FunY Try.prog C 12 Try.f33 [a0, a1, a2] w Q := by kernel_rfl
theorem flotillaref20_Back_sound (a0 : Value) (a1 : Value) (a2 : Value) {w : World} {Q : Value → World → Prop} (h : flotillaref20_Back_x (std Try.prog) a0 a1 a2 w Q) : CallsR Try.prog 33 #[a0, a1, a2] w Q :=
  calls_of_funY mixed Try.func33 (Eq.mp (flotillaref20_Back_eq _ a0 a1 a2 w Q) h)

def flotillaref20_Fail_k1 (C : Comb) (u6_1 : Value) (u0_1 : Value) (w : World) (Q : Value → World → Prop) : Prop :=
  Q (.tuple #[u0_1, u6_1]) w
def flotillaref20_Fail_k2 (C : Comb) (vs_1 : List Value) (w : World) (Q : Value → World → Prop) : Prop :=
  flotillaref20_Fail_k1 C (vs_1.getD 0 undef) (vs_1.getD 1 undef) w Q
def flotillaref20_Fail_k4 (C : Comb) (vs_1 : List Value) (again_1 : List Value → World → Prop) (v8_1 : Value) (u6_4 : Value) (w : World) (Q : Value → World → Prop) : Prop :=
  C.step (sLoad 68 v8_1) w fun v66_1 w =>
  C.calls 42 #[(vs_1.getD 1 undef), (vs_1.getD 2 undef), v66_1] w fun v67_1 w =>
  C.step (sBin .add 3 (.tmp 23) (.const (.int .i64 1)) (vs_1.getD 2 undef) (.int .i64 1)) w fun v24_1 w =>
  again_1 [u6_4, v67_1, v24_1] w
def flotillaref20_Fail_k3 (C : Comb) (a1 : Value) (vs_1 : List Value) (again_1 : List Value → World → Prop) (v8_1 : Value) (u9_3 : Value) (w : World) (Q : Value → World → Prop) : Prop :=
  C.step (sFieldAddr 68 v8_1 4) w fun v52_1 w =>
  C.step (sStore 36 v52_1 u9_3) w fun vx_2 w =>
  C.step (sFieldAddr 68 v8_1 0) w fun v53_1 w =>
  C.step (sLoad 3 v53_1) w fun v54_1 w =>
  C.step (sBin .eql 3 (.tmp 54) (.tmp 55) v54_1 a1) w fun v56_1 w =>
  C.bool v56_1
  (C.step (sFieldAddr 68 v8_1 0) w fun v57_1 w =>
  C.step (sStore 3 v57_1 (.int .i64 0)) w fun vx_3 w =>
  C.step (sFieldAddr 68 v8_1 2) w fun v58_1 w =>
  C.step (sStore 4 v58_1 (.bool false)) w fun vx_4 w =>
  C.step (sFieldAddr 68 v8_1 1) w fun v59_1 w =>
  C.step (sStore 4 v59_1 (.bool true)) w fun vx_5 w =>
  C.step (sBuildSlice 36 1 [(0, (vs_1.getD 2 undef))]) w fun v62_1 w =>
  C.step (sBuiltin .append #[36, 36] 36 [false, false] [(vs_1.getD 0 undef), v62_1]) w fun v63_1 w =>
  flotillaref20_Fail_k4 C vs_1 again_1 v8_1 v63_1 w Q)
  (flotillaref20_Fail_k4 C vs_1 again_1 v8_1 (vs_1.getD 0 undef) w Q)
def flotillaref20_Fail_k5 (C : Comb) (vs_2 : List Value) (again_2 : List Value → World → Prop) (u9_5 : Value) (w : World) (Q : Value → World → Prop) : Prop :=
  C.step (sBin .add 3 (.tmp 34) (.const (.int .i64 1)) (vs_2.getD 1 undef) (.int .i64 1)) w fun v35_1 w =>
  again_2 [u9_5, v35_1] w
def flotillaref20_Fail_x (C : Comb) (a0 : Value) (a1 : Value) (w : World) (Q : Value → World → Prop) : Prop :=
  C.loop [(.slice none 0 0), a0, (.int .i64 0)] w fun dv_1 vs_1 w again_1 =>
  C.step (sBuiltin .len #[52] 3 [false] [(vs_1.getD 1 undef)]) w fun v13_1 w =>
  C.step (sBin .lss 3 (.tmp 11) (.tmp 13) (vs_1.getD 2 undef) v13_1) w fun v14_1 w =>
  C.bool v14_1
  (C.step (sBin .geq 3 (.tmp 16) (.const (.int .i64 1)) a1 (.int .i64 1)) w fun v17_1 w =>
  C.bool v17_1
  (C.step (sBin .leq 3 (.tmp 20) (.const (.int .i64 8)) a1 (.int .i64 8)) w fun v21_1 w =>
  C.bool v21_1
  (C.step (sIndexAddr 52 (vs_1.getD 1 undef) (vs_1.getD 2 undef)) w fun v27_1 w =>
  C.step (sLoad 68 v27_1) w fun v28_1 w =>
  C.step (sAlloc 68) w fun v8_1 w =>
  C.step (sStore 68 v8_1 v28_1) w fun vx_1 w =>
  C.loop [(.slice none 0 0), (.int .i64 0)] w fun dv_2 vs_2 w again_2 =>
  C.step (sFieldAddr 68 v8_1 4) w fun v30_1 w =>
  C.step (sLoad 36 v30_1) w fun v31_1 w =>
  C.step (sBuiltin .len #[36] 3 [false] [v31_1]) w fun v32_1 w =>
  C.step (sBin .lss 3 (.tmp 29) (.tmp 32) (vs_2.getD 1 undef) v32_1) w fun v33_1 w =>
  C.bool v33_1
  (C.step (sFieldAddr 68 v8_1 4) w fun v36_1 w =>
  C.step (sLoad 36 v36_1) w fun v37_1 w =>
  C.step (sIndexAddr 36 v37_1 (vs_2.getD 1 undef)) w fun v39_1 w =>
  C.step (sLoad 3 v39_1) w fun v40_1 w =>
  C.step (sBin .neq 3 (.tmp 40) (.tmp 41) v40_1 a1) w fun v42_1 w =>
  C.bool v42_1
  (C.step (sFieldAddr 68 v8_1 4) w fun v44_1 w =>
  C.step (sLoad 36 v44_1) w fun v45_1 w =>
  C.step (sIndexAddr 36 v45_1 (vs_2.getD 1 undef)) w fun v47_1 w =>
  C.step (sLoad 3 v47_1) w fun v48_1 w =>
  C.step (sBuildSlice 36 1 [(0, v48_1)]) w fun v49_1 w =>
  C.step (sBuiltin .append #[36, 36] 36 [false, false] [(vs_2.getD 0 undef), v49_1]) w fun v50_1 w =>
  flotillaref20_Fail_k5 C vs_2 again_2 v50_1 w Q)
  (flotillaref20_Fail_k5 C vs_2 again_2 (vs_2.getD 0 undef) w Q))
  (flotillaref20_Fail_k3 C a1 vs_1 again_1 v8_1 (vs_2.getD 0 undef) w Q))
  (flotillaref20_Fail_k1 C (vs_1.getD 0 undef) (vs_1.getD 1 undef) w Q))
  (flotillaref20_Fail_k2 C vs_1 w Q))
  (flotillaref20_Fail_k2 C vs_1 w Q)
theorem flotillaref20_Fail_eq (C : Comb) (a0 : Value) (a1 : Value) (w : World) (Q : Value → World → Prop) : flotillaref20_Fail_x C a0 a1 w Q = FunY Try.prog C 2 Try.f34 [a0, a1] w Q := by kernel_rfl
theorem flotillaref20_Fail_sound (a0 : Value) (a1 : Value) {w : World} {Q : Value → World → Prop} (h : flotillaref20_Fail_x (std Try.prog) a0 a1 w Q) : CallsR Try.prog 34 #[a0, a1] w Q :=
  calls_of_funY mixed Try.func34 (Eq.mp (flotillaref20_Fail_eq _ a0 a1 w Q) h)

def flotillaref20_Mend_x (C : Comb) (a0 : Value) (a1 : Value) (w : World) (Q : Value → World → Prop) : Prop :=
  C.step (sBin .lss 3 (.tmp 10) (.const (.int .i64 0)) a1 (.int .i64 0)) w fun v11_1 w =>
  C.bool v11_1
  (Q (.tuple #[a0, (.slice none 0 0), (.int .i64 1)]) w)
  (C.step (sBuiltin .len #[52] 3 [false] [a0]) w fun v15_1 w =>
  C.step (sBin .geq 3 (.tmp 13) (.tmp 15) a1 v15_1) w fun v16_1 w =>
  C.bool v16_1
  (Q (.tuple #[a0, (.slice none 0 0), (.int .i64 1)]) w)
  (C.step (sIndexAddr 52 a0 a1) w fun v21_1 w =>
  C.step (sLoad 68 v21_1) w fun v22_1 w =>
  C.step (sAlloc 68) w fun v7_1 w =>
  C.step (sStore 68 v7_1 v22_1) w fun vx_1 w =>
  C.step (sFieldAddr 68 v7_1 1) w fun v23_1 w =>
  C.step (sLoad 4 v23_1) w fun v24_1 w =>
  C.step (sUn .not v24_1) w fun v25_1 w =>
  C.bool v25_1
  (Q (.tuple #[a0, (.slice none 0 0), (.int .i64 10)]) w)
  (C.step (sFieldAddr 68 v7_1 1) w fun v27_1 w =>
  C.step (sStore 4 v27_1 (.bool false)) w fun vx_2 w =>
  C.step (sLoad 68 v7_1) w fun v31_1 w =>
  C.calls 42 #[a0, a1, v31_1] w fun v32_1 w =>
  C.calls 41 #[v32_1, a1] w fun v34_1 w =>
  C.step (sExtract v34_1 0) w fun v35_1 w =>
  C.step (sExtract v34_1 1) w fun v36_1 w =>
  Q (.tuple #[v35_1, v36_1, (.int .i64 0)]) w)))
theorem flotillaref20_Mend_eq (C : Comb) (a0 : Value) (a1 : Value) (w : World) (Q : Value → World → Prop) : flotillaref20_Mend_x C a0 a1 w Q = FunY Try.prog C 10 Try.f35 [a0, a1] w Q := by kernel_rfl
theorem flotillaref20_Mend_sound (a0 : Value) (a1 : Value) {w : World} {Q : Value → World → Prop} (h : flotillaref20_Mend_x (std Try.prog) a0 a1 w Q) : CallsR Try.prog 35 #[a0, a1] w Q :=
  calls_of_funY mixed Try.func35 (Eq.mp (flotillaref20_Mend_eq _ a0 a1 w Q) h)

def flotillaref20_SameOrders_k1 (C : Comb) (w : World) (Q : Value → World → Prop) : Prop :=
  Q (.bool true) w
def flotillaref20_SameOrders_x (C : Comb) (a0 : Value) (a1 : Value) (w : World) (Q : Value → World → Prop) : Prop :=
  C.step (sBuiltin .len #[33] 3 [false] [a0]) w fun v7_1 w =>
  C.step (sBuiltin .len #[33] 3 [false] [a1]) w fun v9_1 w =>
  C.step (sBin .neq 3 (.tmp 7) (.tmp 9) v7_1 v9_1) w fun v10_1 w =>
  C.bool v10_1
  (Q (.bool false) w)
  (C.loop [(.bool false), (.int .i64 0)] w fun dv_1 vs_1 w again_1 =>
  C.step (sBuiltin .len #[33] 3 [false] [a0]) w fun v13_1 w =>
  C.step (sBin .lss 3 (.tmp 11) (.tmp 13) (vs_1.getD 1 undef) v13_1) w fun v14_1 w =>
  C.bool v14_1
  (C.draw w fun S_1 w =>
  C.stepS S_1 (sIndexAddr 33 a0 (vs_1.getD 1 undef)) fun v19_1 =>
  C.stepS S_1 (sLoad 46 v19_1) fun v20_1 =>
  C.stepS S_1 (sIndexAddr 33 a1 (vs_1.getD 1 undef)) fun v23_1 =>
  C.stepS S_1 (sLoad 46 v23_1) fun v24_1 =>
  C.stepS S_1 (sBin .neq 46 (.tmp 20) (.tmp 24) v20_1 v24_1) fun v25_1 =>
  C.bool v25_1
  (Q (.bool false) w)
  (C.step (sBin .add 3 (.tmp 15) (.const (.int .i64 1)) (vs_1.getD 1 undef) (.int .i64 1)) w fun v16_1 w =>
  again_1 [(vs_1.getD 0 undef), v16_1] w))
  (flotillaref20_SameOrders_k1 C w Q))
theorem flotillaref20_SameOrders_eq (C : Comb) (a0 : Value) (a1 : Value) (w : World) (Q : Value → World → Prop) : flotillaref20_SameOrders_x C a0 a1 w Q = FunY Try.prog C 6 Try.f36 [a0, a1] w Q := by kernel_rfl
theorem flotillaref20_SameOrders_sound (a0 : Value) (a1 : Value) {w : World} {Q : Value → World → Prop} (h : flotillaref20_SameOrders_x (std Try.prog) a0 a1 w Q) : CallsR Try.prog 36 #[a0, a1] w Q :=
  calls_of_funY mixed Try.func36 (Eq.mp (flotillaref20_SameOrders_eq _ a0 a1 w Q) h)

def slices_Index_int_int_k1 (C : Comb) (w : World) (Q : Value → World → Prop) : Prop :=
  Q (.int .i64 (-1)) w
def slices_Index_int_int_x (C : Comb) (a0 : Value) (a1 : Value) (w : World) (Q : Value → World → Prop) : Prop :=
  C.step (sBuiltin .len #[36] 3 [false] [a0]) w fun v7_1 w =>
  C.loop [undef, (.int .i64 0), (.int .i64 0)] w fun dv_1 vs_1 w again_1 =>
  C.step (sBin .lss 3 (.tmp 8) (.tmp 7) (vs_1.getD 2 undef) v7_1) w fun v9_1 w =>
  C.bool v9_1
  (C.step (sIndexAddr 36 a0 (vs_1.getD 2 undef)) w fun v14_1 w =>
  C.step (sLoad 3 v14_1) w fun v15_1 w =>
  C.step (sBin .eql 3 (.tmp 11) (.tmp 15) a1 v15_1) w fun v16_1 w =>
  C.bool v16_1
  (Q (vs_1.getD 2 undef) w)
  (C.step (sBin .add 3 (.tmp 8) (.const (.int .i64 1)) (vs_1.getD 2 undef) (.int .i64 1)) w fun v18_1 w =>
  again_1 [(vs_1.getD 2 undef), (vs_1.getD 1 undef), v18_1] w))
  (slices_Index_int_int_k1 C w Q)
theorem slices_Index_int_int_eq (C : Comb) (a0 : Value) (a1 : Value) (w : World) (Q : Value → World → Prop) : slices_Index_int_int_x C a0 a1 w Q = FunY Try.prog C 6 Try.f37 [a0, a1] w Q := by kernel_rfl
theorem slices_Index_int_int_sound (a0 : Value) (a1 : Value) {w : World} {Q : Value → World → Prop} (h : slices_Index_int_int_x (std Try.prog) a0 a1 w Q) : CallsR Try.prog 37 #[a0, a1] w Q :=
  calls_of_funY mixed Try.func37 (Eq.mp (slices_Index_int_int_eq _ a0 a1 w Q) h)

def own_leaf_call_k1 (C : Comb) (w : World) (Q : Value → World → Prop) : Prop :=
  Q (.slice none 0 0) w
def own_leaf_call_x (C : Comb) (a0 : Value) (a1 : Value) (w : World) (Q : Value → World → Prop) : Prop :=
  C.step (sNil a0) w fun v6_1 w =>
  C.step (sFieldAddr 63 v6_1 0) w fun v7_1 w =>
  C.step (sLoad 3 v7_1) w fun v8_1 w =>
  C.step (sBin .eql 3 (.tmp 8) (.const (.int .i64 0)) v8_1 (.int .i64 0)) w fun v9_1 w =>
  C.bool v9_1
  (own_leaf_call_k1 C w Q)
  (C.step (sNil a0) w fun v12_1 w =>
  C.step (sFieldAddr 63 v12_1 2) w fun v13_1 w =>
  C.step (sLoad 4 v13_1) w fun v14_1 w =>
  C.bool v14_1
  (own_leaf_call_k1 C w Q)
  (C.step (sNil a0) w fun v18_1 w =>
  C.step (sFieldAddr 63 v18_1 4) w fun v19_1 w =>
  C.step (sLoad 36 v19_1) w fun v20_1 w =>
  C.step (sBuiltin .len #[36] 3 [false] [v20_1]) w fun v21_1 w =>
  C.step (sBin .eql 3 (.tmp 21) (.const (.int .i64 0)) v21_1 (.int .i64 0)) w fun v22_1 w =>
  C.bool v22_1
  (Q (.slice none 0 0) w)
  (C.step (sNil a0) w fun v25_1 w =>
  C.step (sFieldAddr 63 v25_1 2) w fun v26_1 w =>
  C.step (sStore 4 v26_1 (.bool true)) w fun vx_1 w =>
  C.draw w fun S_1 w =>
  C.stepS S_1 (sNil a0) fun v29_1 =>
  C.stepS S_1 (sFieldAddr 63 v29_1 0) fun v30_1 =>
  C.stepS S_1 (sLoad 3 v30_1) fun v31_1 =>
  C.stepS S_1 (sNil a0) fun v33_1 =>
  C.stepS S_1 (sFieldAddr 63 v33_1 4) fun v34_1 =>
  C.stepS S_1 (sLoad 36 v34_1) fun v35_1 =>
  C.stepS S_1 (sIndexAddr 36 v35_1 (.int .i64 0)) fun v36_1 =>
  C.stepS S_1 (sLoad 3 v36_1) fun v37_1 =>
  C.stepS S_1 (sNil a0) fun v39_1 =>
  C.stepS S_1 (sFieldAddr 63 v39_1 3) fun v40_1 =>
  C.stepS S_1 (sLoad 4 v40_1) fun v41_1 =>
  C.step (sBuild 46 [(0, (.int .i64 2)), (1, a1), (2, v31_1), (3, v37_1), (4, v41_1)]) w fun v42_1 w =>
  C.keepT w fun S_2 =>
  C.step (sBuildSlice 33 1 [(0, v42_1)]) w fun v43_1 w =>
  C.keepT w fun S_3 =>
  Q v43_1 w)))
theorem own_leaf_call_eq (C : Comb) (a0 : Value) (a1 : Value) (w : World) (Q : Value → World → Prop) : own_leaf_call_x C a0 a1 w Q = FunY Try.prog C 4 Try.f38 [a0, a1] w Q := by kernel_rfl
theorem own_leaf_call_sound (a0 : Value) (a1 : Value) {w : World} {Q : Value → World → Prop} (h : own_leaf_call_x (std Try.prog) a0 a1 w Q) : CallsR Try.prog 38 #[a0, a1] w Q :=
  calls_of_funY mixed Try.func38 (Eq.mp (own_leaf_call_eq _ a0 a1 w Q) h)

def slices_IndexFunc_int_int_k1 (C : Comb) (w : World) (Q : Value → World → Prop) : Prop :=
  Q (.int .i64 (-1)) w
def slices_IndexFunc_int_int_x (C : Comb) (a0 : Value) (a1 : Value) (w : World) (Q : Value → World → Prop) : Prop :=
  C.step (sBuiltin .len #[36] 3 [false] [a0]) w fun v7_1 w =>
  C.loop [undef, (.int .i64 0), (.int .i64 0)] w fun dv_1 vs_1 w again_1 =>
  C.step (sBin .lss 3 (.tmp 8) (.tmp 7) (vs_1.getD 2 undef) v7_1) w fun v9_1 w =>
  C.bool v9_1
  (C.step (sIndexAddr 36 a0 (vs_1.getD 2 undef)) w fun v14_1 w =>
  C.step (sLoad 3 v14_1) w fun v15_1 w =>
  C.step (sCallV a1 [v15_1]) w fun v16_1 w =>
  C.bool v16_1
  (Q (vs_1.getD 2 undef) w)
  (C.step (sBin .add 3 (.tmp 8) (.const (.int .i64 1)) (vs_1.getD 2 undef) (.int .i64 1)) w fun v18_1 w =>
  again_1 [(vs_1.getD 2 undef), (vs_1.getD 1 undef), v18_1] w))
  (slices_IndexFunc_int_int_k1 C w Q)
theorem slices_IndexFunc_int_int_eq (C : Comb) (a0 : Value) (a1 : Value) (w : World) (Q : Value → World → Prop) : slices_IndexFunc_int_int_x C a0 a1 w Q = FunY Try.prog C 6 Try.f39 [a0, a1] w Q := by kernel_rfl
theorem slices_IndexFunc_int_int_sound (a0 : Value) (a1 : Value) {w : World} {Q : Value → World → Prop} (h : slices_IndexFunc_int_int_x (std Try.prog) a0 a1 w Q) : CallsR Try.prog 39 #[a0, a1] w Q :=
  calls_of_funY mixed Try.func39 (Eq.mp (slices_IndexFunc_int_int_eq _ a0 a1 w Q) h)

def flotillaref20_has_k1 (C : Comb) (w : World) (Q : Value → World → Prop) : Prop :=
  Q (.bool false) w
def flotillaref20_has_x (C : Comb) (a0 : Value) (a1 : Value) (w : World) (Q : Value → World → Prop) : Prop :=
  C.loop [(.bool false), (.int .i64 0)] w fun dv_1 vs_1 w again_1 =>
  C.step (sBuiltin .len #[36] 3 [false] [a0]) w fun v8_1 w =>
  C.step (sBin .lss 3 (.tmp 6) (.tmp 8) (vs_1.getD 1 undef) v8_1) w fun v9_1 w =>
  C.bool v9_1
  (C.step (sIndexAddr 36 a0 (vs_1.getD 1 undef)) w fun v14_1 w =>
  C.step (sLoad 3 v14_1) w fun v15_1 w =>
  C.step (sBin .eql 3 (.tmp 15) (.tmp 16) v15_1 a1) w fun v17_1 w =>
  C.bool v17_1
  (Q (.bool true) w)
  (C.step (sBin .add 3 (.tmp 10) (.const (.int .i64 1)) (vs_1.getD 1 undef) (.int .i64 1)) w fun v11_1 w =>
  again_1 [(vs_1.getD 0 undef), v11_1] w))
  (flotillaref20_has_k1 C w Q)
theorem flotillaref20_has_eq (C : Comb) (a0 : Value) (a1 : Value) (w : World) (Q : Value → World → Prop) : flotillaref20_has_x C a0 a1 w Q = FunY Try.prog C 6 Try.f40 [a0, a1] w Q := by kernel_rfl
theorem flotillaref20_has_sound (a0 : Value) (a1 : Value) {w : World} {Q : Value → World → Prop} (h : flotillaref20_has_x (std Try.prog) a0 a1 w Q) : CallsR Try.prog 40 #[a0, a1] w Q :=
  calls_of_funY mixed Try.func40 (Eq.mp (flotillaref20_has_eq _ a0 a1 w Q) h)

def flotillaref20_Serve_k2 (C : Comb) (a0 : Value) (a1 : Value) (v6_1 : Value) (u7_2 : Value) (w : World) (Q : Value → World → Prop) : Prop :=
  C.step (sLoad 68 v6_1) w fun v78_1 w =>
  C.calls 42 #[a0, a1, v78_1] w fun v79_1 w =>
  Q (.tuple #[v79_1, u7_2]) w
def flotillaref20_Serve_k3 (C : Comb) (a0 : Value) (a1 : Value) (v6_1 : Value) (u7_1 : Value) (w : World) (Q : Value → World → Prop) : Prop :=
  flotillaref20_Serve_k2 C a0 a1 v6_1 u7_1 w Q
def flotillaref20_Serve_k1 (C : Comb) (a0 : Value) (a1 : Value) (v6_1 : Value) (u7_1 : Value) (w : World) (Q : Value → World → Prop) : Prop :=
  C.step (sFieldAddr 68 v6_1 0) w fun v48_1 w =>
  C.step (sLoad 3 v48_1) w fun v49_1 w =>
  C.step (sBin .neq 3 (.tmp 49) (.const (.int .i64 0)) v49_1 (.int .i64 0)) w fun v50_1 w =>
  C.bool v50_1
  (C.step (sFieldAddr 68 v6_1 2) w fun v52_1 w =>
  C.step (sLoad 4 v52_1) w fun v53_1 w =>
  C.step (sUn .not v53_1) w fun v54_1 w =>
  C.bool v54_1
  (C.step (sFieldAddr 68 v6_1 4) w fun v57_1 w =>
  C.step (sLoad 36 v57_1) w fun v58_1 w =>
  C.step (sBuiltin .len #[36] 3 [false] [v58_1]) w fun v59_1 w =>
  C.step (sBin .gtr 3 (.tmp 59) (.const (.int .i64 0)) v59_1 (.int .i64 0)) w fun v60_1 w =>
  C.bool v60_1
  (C.step (sFieldAddr 68 v6_1 2) w fun v62_1 w =>
  C.step (sStore 4 v62_1 (.bool true)) w fun vx_2 w =>
  C.draw w fun S_1 w =>
  C.stepS S_1 (sFieldAddr 68 v6_1 0) fun v65_1 =>
  C.stepS S_1 (sLoad 3 v65_1) fun v66_1 =>
  C.stepS S_1 (sFieldAddr 68 v6_1 4) fun v67_1 =>
  C.stepS S_1 (sLoad 36 v67_1) fun v68_1 =>
  C.stepS S_1 (sIndexAddr 36 v68_1 (.int .i64 0)) fun v69_1 =>
  C.stepS S_1 (sLoad 3 v69_1) fun v70_1 =>
  C.stepS S_1 (sFieldAddr 68 v6_1 3) fun v71_1 =>
  C.stepS S_1 (sLoad 4 v71_1) fun v72_1 =>
  C.step (sBuild 46 [(0, (.int .i64 2)), (1, a1), (2, v66_1), (3, v70_1), (4, v72_1)]) w fun v73_1 w =>
  C.keepS S_1 w fun S_2 =>
  C.step (sBuildSlice 33 1 [(0, v73_1)]) w fun v74_1 w =>
  C.keepS S_2 w fun S_3 =>
  C.step (sBuiltin .append #[33, 33] 33 [false, false] [u7_1, v74_1]) w fun v75_1 w =>
  C.keepT w fun S_4 =>
  flotillaref20_Serve_k2 C a0 a1 v6_1 v75_1 w Q)
  (flotillaref20_Serve_k2 C a0 a1 v6_1 u7_1 w Q))
  (flotillaref20_Serve_k3 C a0 a1 v6_1 u7_1 w Q))
  (flotillaref20_Serve_k3 C a0 a1 v6_1 u7_1 w Q)
def flotillaref20_Serve_k4 (C : Comb) (a0 : Value) (a1 : Value) (v6_1 : Value) (w : World) (Q : Value → World → Prop) : Prop :=
  flotillaref20_Serve_k1 C a0 a1 v6_1 (.slice none 0 0) w Q
def flotillaref20_Serve_x (C : Comb) (a0 : Value) (a1 : Value) (w : World) (Q : Value → World → Prop) : Prop :=
  C.step (sIndexAddr 52 a0 a1) w fun v11_1 w =>
  C.step (sLoad 68 v11_1) w fun v12_1 w =>
  C.step (sAlloc 68) w fun v6_1 w =>
  C.step (sStore 68 v6_1 v12_1) w fun vx_1 w =>
  C.step (sFieldAddr 68 v6_1 0) w fun v13_1 w =>
  C.step (sLoad 3 v13_1) w fun v14_1 w =>
  C.step (sBin .eql 3 (.tmp 14) (.const (.int .i64 0)) v14_1 (.int .i64 0)) w fun v15_1 w =>
  C.bool v15_1
  (C.step (sFieldAddr 68 v6_1 1) w fun v17_1 w =>
  C.step (sLoad 4 v17_1) w fun v18_1 w =>
  C.step (sUn .not v18_1) w fun v19_1 w =>
  C.bool v19_1
  (C.step (sFieldAddr 68 v6_1 4) w fun v22_1 w =>
  C.step (sLoad 36 v22_1) w fun v23_1 w =>
  C.step (sBuiltin .len #[36] 3 [false] [v23_1]) w fun v24_1 w =>
  C.step (sBin .gtr 3 (.tmp 24) (.const (.int .i64 0)) v24_1 (.int .i64 0)) w fun v25_1 w =>
  C.bool v25_1
  (C.step (sFieldAddr 68 v6_1 4) w fun v27_1 w =>
  C.step (sLoad 36 v27_1) w fun v28_1 w =>
  C.step (sIndexAddr 36 v28_1 (.int .i64 0)) w fun v29_1 w =>
  C.step (sLoad 3 v29_1) w fun v30_1 w =>
  C.step (sFieldAddr 68 v6_1 0) w fun v31_1 w =>
  C.step (sStore 3 v31_1 v30_1) w fun vx_3 w =>
  C.step (sFieldAddr 68 v6_1 4) w fun v33_1 w =>
  C.step (sLoad 36 v33_1) w fun v34_1 w =>
  C.step (sSlice 36 v34_1 (some (.int .i64 1)) none none) w fun v35_1 w =>
  C.step (sBuiltin .append #[36, 36] 36 [false, false] [(.slice none 0 0), v35_1]) w fun v36_1 w =>
  C.step (sFieldAddr 68 v6_1 4) w fun v38_1 w =>
  C.step (sStore 36 v38_1 v36_1) w fun vx_4 w =>
  C.step (sFieldAddr 68 v6_1 0) w fun v41_1 w =>
  C.step (sLoad 3 v41_1) w fun v42_1 w =>
  C.step (sFieldAddr 68 v6_1 3) w fun v43_1 w =>
  C.step (sLoad 4 v43_1) w fun v44_1 w =>
  C.step (sBuild 46 [(0, (.int .i64 1)), (1, a1), (3, v42_1), (4, v44_1)]) w fun v45_1 w =>
  C.step (sBuildSlice 33 1 [(0, v45_1)]) w fun v46_1 w =>
  C.step (sBuiltin .append #[33, 33] 33 [false, false] [(.slice none 0 0), v46_1]) w fun v47_1 w =>
  flotillaref20_Serve_k1 C a0 a1 v6_1 v47_1 w Q)
  (flotillaref20_Serve_k1 C a0 a1 v6_1 (.slice none 0 0) w Q))
  (flotillaref20_Serve_k4 C a0 a1 v6_1 w Q))
  (flotillaref20_Serve_k4 C a0 a1 v6_1 w Q)
theorem flotillaref20_Serve_eq (C : Comb) (a0 : Value) (a1 : Value) (w : World) (Q : Value → World → Prop) : flotillaref20_Serve_x C a0 a1 w Q = FunY Try.prog C 2 Try.f41 [a0, a1] w Q := by kernel_rfl
theorem flotillaref20_Serve_sound (a0 : Value) (a1 : Value) {w : World} {Q : Value → World → Prop} (h : flotillaref20_Serve_x (std Try.prog) a0 a1 w Q) : CallsR Try.prog 41 #[a0, a1] w Q :=
  calls_of_funY mixed Try.func41 (Eq.mp (flotillaref20_Serve_eq _ a0 a1 w Q) h)

def flotillaref20_with_x (C : Comb) (a0 : Value) (a1 : Value) (a2 : Value) (w : World) (Q : Value → World → Prop) : Prop :=
  C.step (sBox 68 a2) w fun v5_1 w =>
  C.step (sSlice 52 a0 none (some a1) none) w fun v11_1 w =>
  C.step (sBuiltin .append #[52, 52] 52 [false, false] [(.slice none 0 0), v11_1]) w fun v12_1 w =>
  C.step (sLoad 68 v5_1) w fun v14_1 w =>
  C.step (sBuildSlice 52 1 [(0, v14_1)]) w fun v15_1 w =>
  C.step (sBuiltin .append #[52, 52] 52 [false, false] [v12_1, v15_1]) w fun v16_1 w =>
  C.step (sBin .add 3 (.tmp 19) (.const (.int .i64 1)) a1 (.int .i64 1)) w fun v20_1 w =>
  C.step (sSlice 52 a0 (some v20_1) none none) w fun v21_1 w =>
  C.step (sBuiltin .append #[52, 52] 52 [false, false] [v16_1, v21_1]) w fun v22_1 w =>
  Q v22_1 w
theorem flotillaref20_with_eq (C : Comb) (a0 : Value) (a1 : Value) (a2 : Value) (w : World) (Q : Value → World → Prop) : flotillaref20_with_x C a0 a1 a2 w Q = FunY Try.prog C 8 Try.f42 [a0, a1, a2] w Q := by kernel_rfl
theorem flotillaref20_with_sound (a0 : Value) (a1 : Value) (a2 : Value) {w : World} {Q : Value → World → Prop} (h : flotillaref20_with_x (std Try.prog) a0 a1 a2 w Q) : CallsR Try.prog 42 #[a0, a1, a2] w Q :=
  calls_of_funY mixed Try.func42 (Eq.mp (flotillaref20_with_eq _ a0 a1 a2 w Q) h)

end Go.Proofs.Ytilfkccahlkcaaa
