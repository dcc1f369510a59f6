/- Functions of the program, read as statements without slots. Written by a program of this work. -/
import Derived.Test.YtibacmekhkaipaaXf
import Derived.Test.YtibacmekhkaipaaProg
import Derived.KernelRfl
namespace Go.Proofs.Ytibacmekhkaipaa
open Go Xf
set_option maxRecDepth 100000
set_option linter.unusedVariables false

theorem mixed : Try.prog.follows .mixedOrders = true := by kernel_rfl

def flotillalaw01_EncOwn_k4 (C : Comb) (w : World) (Q : Value → World → Prop) : Prop :=
  Q (.bool false) w
def flotillalaw01_EncOwn_k3 (C : Comb) (a1 : Value) (v54_1 : Value) (w : World) (Q : Value → World → Prop) : Prop :=
  C.calls 13 #[v54_1] w fun v75_1 w =>
  C.step (sBuiltin .len #[22] 3 [false] [v75_1]) w fun v77_1 w =>
  C.step (sBuiltin .len #[9] 3 [false] [a1]) w fun v79_1 w =>
  C.step (sBin .add 3 (.tmp 79) (.const (.int .i64 2)) v79_1 (.int .i64 2)) w fun v80_1 w =>
  C.step (sBin .eql 3 (.tmp 77) (.tmp 80) v77_1 v80_1) w fun v81_1 w =>
  C.bool v81_1
  (C.step (sSlice 22 v75_1 (some (.int .i64 2)) none none) w fun v84_1 w =>
  C.step (sConv 22 9 v84_1) w fun v85_1 w =>
  C.step (sBin .eql 9 (.tmp 85) (.tmp 86) v85_1 a1) w fun v87_1 w =>
  C.bool v87_1
  (C.calls 10 #[] w fun v90_1 w =>
  Q v90_1 w)
  (flotillalaw01_EncOwn_k4 C w Q))
  (flotillalaw01_EncOwn_k4 C w Q)
def flotillalaw01_EncOwn_k2 (C : Comb) (a1 : Value) (w : World) (Q : Value → World → Prop) : Prop :=
  C.step (sBuiltin .len #[9] 3 [false] [a1]) w fun v51_1 w =>
  C.step (sBin .gtr 3 (.tmp 51) (.const (.int .i64 60000)) v51_1 (.int .i64 60000)) w fun v52_1 w =>
  C.bool v52_1
  (C.calls 10 #[] w fun v53_1 w =>
  Q v53_1 w)
  (C.calls 11 #[] w fun v54_1 w =>
  C.calls 12 #[v54_1, a1] w fun v57_1 w =>
  C.calls 13 #[v54_1] w fun v59_1 w =>
  C.loop [(.int .i64 0)] w fun dv_1 vs_1 w again_1 =>
  C.step (sBuiltin .len #[22] 3 [false] [v59_1]) w fun v62_1 w =>
  C.step (sBin .lss 3 (.tmp 60) (.tmp 62) (vs_1.getD 0 undef) v62_1) w fun v63_1 w =>
  C.bool v63_1
  (C.step (sIndexAddr 22 v59_1 (vs_1.getD 0 undef)) w fun v70_1 w =>
  C.step (sLoad 5 v70_1) w fun v71_1 w =>
  C.step (sBin .xor 5 (.tmp 71) (.const (.int .u8 255)) v71_1 (.int .u8 255)) w fun v72_1 w =>
  C.step (sIndexAddr 22 v59_1 (vs_1.getD 0 undef)) w fun v73_1 w =>
  C.step (sStore 5 v73_1 v72_1) w fun vx_1 w =>
  C.step (sBin .add 3 (.tmp 64) (.const (.int .i64 1)) (vs_1.getD 0 undef) (.int .i64 1)) w fun v65_1 w =>
  again_1 [v65_1] w)
  (flotillalaw01_EncOwn_k3 C a1 v54_1 w Q))
def flotillalaw01_EncOwn_k1 (C : Comb) (a1 : Value) (v15_1 : Value) (v19_1 : Value) (w : World) (Q : Value → World → Prop) : Prop :=
  C.loop [(.int .i64 0)] w fun dv_2 vs_2 w again_2 =>
  C.step (sBuiltin .len #[9] 3 [false] [v15_1]) w fun v36_1 w =>
  C.step (sBin .lss 3 (.tmp 34) (.tmp 36) (vs_2.getD 0 undef) v36_1) w fun v37_1 w =>
  C.bool v37_1
  (C.step (sBin .lss 3 (.tmp 39) (.const (.int .i64 3)) (vs_2.getD 0 undef) (.int .i64 3)) w fun v40_1 w =>
  C.bool v40_1
  (C.draw w fun S_1 w =>
  C.stepS S_1 (sIndex 9 v15_1 (vs_2.getD 0 undef)) fun v48_1 =>
  C.calls 9 #[v19_1] w fun v45_1 w =>
  C.keepS S_1 w fun S_2 =>
  C.stepS S_2 (sBin .neq 5 (.tmp 45) (.tmp 48) v45_1 v48_1) fun v49_1 =>
  C.bool v49_1
  (Q (.bool false) w)
  (C.step (sBin .add 3 (.tmp 42) (.const (.int .i64 1)) (vs_2.getD 0 undef) (.int .i64 1)) w fun v43_1 w =>
  again_2 [v43_1] w))
  (flotillalaw01_EncOwn_k2 C a1 w Q))
  (flotillalaw01_EncOwn_k2 C a1 w Q)
def flotillalaw01_EncOwn_x (C : Comb) (a0 : Value) (a1 : Value) (w : World) (Q : Value → World → Prop) : Prop :=
  C.step (sConv 22 9 a0) w fun v15_1 w =>
  C.step (sConv 9 22 v15_1) w fun v17_1 w =>
  C.calls 8 #[v17_1] w fun v19_1 w =>
  C.loop [(.int .i64 0)] w fun dv_3 vs_3 w again_3 =>
  C.step (sBuiltin .len #[22] 3 [false] [v17_1]) w fun v22_1 w =>
  C.step (sBin .lss 3 (.tmp 20) (.tmp 22) (vs_3.getD 0 undef) v22_1) w fun v23_1 w =>
  C.bool v23_1
  (C.step (sIndexAddr 22 v17_1 (vs_3.getD 0 undef)) w fun v30_1 w =>
  C.step (sLoad 5 v30_1) w fun v31_1 w =>
  C.step (sBin .xor 5 (.tmp 31) (.const (.int .u8 255)) v31_1 (.int .u8 255)) w fun v32_1 w =>
  C.step (sIndexAddr 22 v17_1 (vs_3.getD 0 undef)) w fun v33_1 w =>
  C.step (sStore 5 v33_1 v32_1) w fun vx_2 w =>
  C.step (sBin .add 3 (.tmp 24) (.const (.int .i64 1)) (vs_3.getD 0 undef) (.int .i64 1)) w fun v25_1 w =>
  again_3 [v25_1] w)
  (flotillalaw01_EncOwn_k1 C a1 v15_1 v19_1 w Q)
theorem flotillalaw01_EncOwn_eq (C : Comb) (a0 : Value) (a1 : Value) (w : World) (Q : Value → World → Prop) : flotillalaw01_EncOwn_x C a0 a1 w Q = FunY Try.prog C 2 Try.f3 [a0, a1] w Q := by kernel_rfl
theorem flotillalaw01_EncOwn_sound (a0 : Value) (a1 : Value) {w : World} {Q : Value → World → Prop} (h : flotillalaw01_EncOwn_x (std Try.prog) a0 a1 w Q) : CallsR Try.prog 3 #[a0, a1] w Q :=
  calls_of_funY mixed Try.func3 (Eq.mp (flotillalaw01_EncOwn_eq _ a0 a1 w Q) h)

def flotillalaw01_EncLays_k2 (C : Comb) (w : World) (Q : Value → World → Prop) : Prop :=
  Q (.bool false) w
def flotillalaw01_EncLays_k1 (C : Comb) (v7_1 : Value) (u5_1 : Value) (w : World) (Q : Value → World → Prop) : Prop :=
  C.calls 13 #[v7_1] w fun v38_1 w =>
  C.step (sConv 22 9 v38_1) w fun v39_1 w =>
  C.step (sBin .eql 9 (.tmp 39) (.tmp 40) v39_1 u5_1) w fun v41_1 w =>
  C.bool v41_1
  (C.calls 13 #[(.pointer none)] w fun v44_1 w =>
  C.step (sBuiltin .len #[22] 3 [false] [v44_1]) w fun v45_1 w =>
  C.step (sBin .eql 3 (.tmp 45) (.const (.int .i64 0)) v45_1 (.int .i64 0)) w fun v46_1 w =>
  C.bool v46_1
  (C.calls 10 #[] w fun v49_1 w =>
  Q v49_1 w)
  (flotillalaw01_EncLays_k2 C w Q))
  (flotillalaw01_EncLays_k2 C w Q)
def flotillalaw01_EncLays_x (C : Comb) (a0 : Value) (w : World) (Q : Value → World → Prop) : Prop :=
  C.calls 11 #[] w fun v7_1 w =>
  C.loop [(.string ⟨#[]⟩), (.int .i64 0)] w fun dv_1 vs_1 w again_1 =>
  C.step (sBuiltin .len #[32] 3 [false] [a0]) w fun v10_1 w =>
  C.step (sBin .lss 3 (.tmp 8) (.tmp 10) (vs_1.getD 1 undef) v10_1) w fun v11_1 w =>
  C.bool v11_1
  (C.step (sBin .lss 3 (.tmp 13) (.const (.int .i64 60)) (vs_1.getD 1 undef) (.int .i64 60)) w fun v14_1 w =>
  C.bool v14_1
  (C.step (sIndexAddr 32 a0 (vs_1.getD 1 undef)) w fun v21_1 w =>
  C.step (sLoad 36 v21_1) w fun v22_1 w =>
  C.calls 14 #[v7_1, v22_1] w fun v23_1 w =>
  C.step (sIndexAddr 32 a0 (vs_1.getD 1 undef)) w fun v27_1 w =>
  C.step (sLoad 36 v27_1) w fun v28_1 w =>
  C.calls 14 #[(.pointer none), v28_1] w fun v29_1 w =>
  C.step (sIndexAddr 32 a0 (vs_1.getD 1 undef)) w fun v33_1 w =>
  C.step (sLoad 36 v33_1) w fun v34_1 w =>
  C.calls 15 #[v34_1] w fun v35_1 w =>
  C.step (sBin .add 9 (.tmp 30) (.tmp 35) (vs_1.getD 0 undef) v35_1) w fun v36_1 w =>
  C.step (sBin .add 3 (.tmp 16) (.const (.int .i64 1)) (vs_1.getD 1 undef) (.int .i64 1)) w fun v17_1 w =>
  again_1 [v36_1, v17_1] w)
  (flotillalaw01_EncLays_k1 C v7_1 (vs_1.getD 0 undef) w Q))
  (flotillalaw01_EncLays_k1 C v7_1 (vs_1.getD 0 undef) w Q)
theorem flotillalaw01_EncLays_eq (C : Comb) (a0 : Value) (w : World) (Q : Value → World → Prop) : flotillalaw01_EncLays_x C a0 w Q = FunY Try.prog C 7 Try.f4 [a0] w Q := by kernel_rfl
theorem flotillalaw01_EncLays_sound (a0 : Value) {w : World} {Q : Value → World → Prop} (h : flotillalaw01_EncLays_x (std Try.prog) a0 w Q) : CallsR Try.prog 4 #[a0] w Q :=
  calls_of_funY mixed Try.func4 (Eq.mp (flotillalaw01_EncLays_eq _ a0 w Q) h)

def flotillalaw01_EncCut_k2 (C : Comb) (w : World) (Q : Value → World → Prop) : Prop :=
  Q (.bool false) w
def flotillalaw01_EncCut_k3 (C : Comb) (w : World) (Q : Value → World → Prop) : Prop :=
  Q (.bool false) w
def flotillalaw01_EncCut_k1 (C : Comb) (a0 : Value) (a1 : Value) (v11_1 : Value) (w : World) (Q : Value → World → Prop) : Prop :=
  C.calls 13 #[v11_1] w fun v37_1 w =>
  C.step (sBuiltin .len #[22] 3 [false] [v37_1]) w fun v39_1 w =>
  C.step (sBin .eql 3 (.tmp 39) (.const (.int .i64 0)) v39_1 (.int .i64 0)) w fun v40_1 w =>
  C.bool v40_1
  (C.calls 10 #[] w fun v41_1 w =>
  Q v41_1 w)
  (C.step (sConv 3 39 a1) w fun v44_1 w =>
  C.step (sBuiltin .len #[22] 3 [false] [v37_1]) w fun v46_1 w =>
  C.step (sConv 3 39 v46_1) w fun v47_1 w =>
  C.step (sBin .rem 39 (.tmp 44) (.tmp 47) v44_1 v47_1) w fun v48_1 w =>
  C.step (sConv 39 3 v48_1) w fun v49_1 w =>
  C.step (sSlice 22 v37_1 none (some v49_1) none) w fun v50_1 w =>
  C.calls 8 #[v50_1] w fun v51_1 w =>
  C.loop [(.int .i64 0)] w fun dv_1 vs_1 w again_1 =>
  C.step (sBuiltin .len #[32] 3 [false] [a0]) w fun v54_1 w =>
  C.step (sBin .lss 3 (.tmp 52) (.tmp 54) (vs_1.getD 0 undef) v54_1) w fun v55_1 w =>
  C.bool v55_1
  (C.step (sBin .lss 3 (.tmp 57) (.const (.int .i64 60)) (vs_1.getD 0 undef) (.int .i64 60)) w fun v58_1 w =>
  C.bool v58_1
  (C.step (sIndexAddr 32 a0 (vs_1.getD 0 undef)) w fun v65_1 w =>
  C.step (sLoad 36 v65_1) w fun v66_1 w =>
  C.calls 16 #[v51_1, v66_1] w fun v67_1 w =>
  C.calls 17 #[v51_1] w fun v69_1 w =>
  C.step (sBin .neq 41 (.tmp 69) (.const (.int .i64 0)) v69_1 (.int .i64 0)) w fun v70_1 w =>
  C.bool v70_1
  (C.calls 17 #[v51_1] w fun v72_1 w =>
  C.step (sBin .eql 41 (.tmp 72) (.const (.int .i64 4)) v72_1 (.int .i64 4)) w fun v73_1 w =>
  C.bool v73_1
  (C.calls 18 #[v51_1] w fun v76_1 w =>
  C.step (sBin .eql 41 (.tmp 76) (.const (.int .i64 4)) v76_1 (.int .i64 4)) w fun v77_1 w =>
  C.bool v77_1
  (C.calls 9 #[v51_1] w fun v81_1 w =>
  C.step (sBin .eql 5 (.tmp 81) (.const (.int .u8 0)) v81_1 (.int .u8 0)) w fun v82_1 w =>
  C.bool v82_1
  (C.calls 10 #[] w fun v85_1 w =>
  Q v85_1 w)
  (flotillalaw01_EncCut_k3 C w Q))
  (flotillalaw01_EncCut_k3 C w Q))
  (flotillalaw01_EncCut_k3 C w Q))
  (C.step (sUn .not v67_1) w fun v88_1 w =>
  C.bool v88_1
  (Q (.bool false) w)
  (C.step (sBin .add 3 (.tmp 60) (.const (.int .i64 1)) (vs_1.getD 0 undef) (.int .i64 1)) w fun v61_1 w =>
  again_1 [v61_1] w)))
  (flotillalaw01_EncCut_k2 C w Q))
  (flotillalaw01_EncCut_k2 C w Q))
def flotillalaw01_EncCut_x (C : Comb) (a0 : Value) (a1 : Value) (w : World) (Q : Value → World → Prop) : Prop :=
  C.calls 11 #[] w fun v11_1 w =>
  C.loop [(.int .i64 0)] w fun dv_2 vs_2 w again_2 =>
  C.step (sBuiltin .len #[32] 3 [false] [a0]) w fun v14_1 w =>
  C.step (sBin .lss 3 (.tmp 12) (.tmp 14) (vs_2.getD 0 undef) v14_1) w fun v15_1 w =>
  C.bool v15_1
  (C.step (sBin .lss 3 (.tmp 17) (.const (.int .i64 60)) (vs_2.getD 0 undef) (.int .i64 60)) w fun v18_1 w =>
  C.bool v18_1
  (C.step (sIndexAddr 32 a0 (vs_2.getD 0 undef)) w fun v24_1 w =>
  C.step (sFieldAddr 36 v24_1 2) w fun v25_1 w =>
  C.step (sLoad 9 v25_1) w fun v26_1 w =>
  C.step (sBuiltin .len #[9] 3 [false] [v26_1]) w fun v27_1 w =>
  C.step (sBin .gtr 3 (.tmp 27) (.const (.int .i64 65535)) v27_1 (.int .i64 65535)) w fun v28_1 w =>
  C.bool v28_1
  (C.calls 10 #[] w fun v29_1 w =>
  Q v29_1 w)
  (C.step (sIndexAddr 32 a0 (vs_2.getD 0 undef)) w fun v33_1 w =>
  C.step (sLoad 36 v33_1) w fun v34_1 w =>
  C.calls 14 #[v11_1, v34_1] w fun v35_1 w =>
  C.step (sBin .add 3 (.tmp 20) (.const (.int .i64 1)) (vs_2.getD 0 undef) (.int .i64 1)) w fun v21_1 w =>
  again_2 [v21_1] w))
  (flotillalaw01_EncCut_k1 C a0 a1 v11_1 w Q))
  (flotillalaw01_EncCut_k1 C a0 a1 v11_1 w Q)
theorem flotillalaw01_EncCut_eq (C : Comb) (a0 : Value) (a1 : Value) (w : World) (Q : Value → World → Prop) : flotillalaw01_EncCut_x C a0 a1 w Q = FunY Try.prog C 2 Try.f5 [a0, a1] w Q := by kernel_rfl
theorem flotillalaw01_EncCut_sound (a0 : Value) (a1 : Value) {w : World} {Q : Value → World → Prop} (h : flotillalaw01_EncCut_x (std Try.prog) a0 a1 w Q) : CallsR Try.prog 5 #[a0, a1] w Q :=
  calls_of_funY mixed Try.func5 (Eq.mp (flotillalaw01_EncCut_eq _ a0 a1 w Q) h)

def flotillalaw01_EncBack_k3 (C : Comb) (w : World) (Q : Value → World → Prop) : Prop :=
  Q (.bool false) w
def flotillalaw01_EncBack_k2 (C : Comb) (v34_1 : Value) (w : World) (Q : Value → World → Prop) : Prop :=
  C.calls 18 #[v34_1] w fun v53_1 w =>
  C.step (sBin .eql 41 (.tmp 53) (.const (.int .i64 0)) v53_1 (.int .i64 0)) w fun v54_1 w =>
  C.bool v54_1
  (C.calls 19 #[v34_1] w fun v57_1 w =>
  C.step (sBin .eql 3 (.tmp 57) (.const (.int .i64 0)) v57_1 (.int .i64 0)) w fun v58_1 w =>
  C.bool v58_1
  (C.calls 10 #[] w fun v61_1 w =>
  Q v61_1 w)
  (flotillalaw01_EncBack_k3 C w Q))
  (flotillalaw01_EncBack_k3 C w Q)
def flotillalaw01_EncBack_k1 (C : Comb) (a0 : Value) (v7_1 : Value) (u2_1 : Value) (w : World) (Q : Value → World → Prop) : Prop :=
  C.calls 13 #[v7_1] w fun v33_1 w =>
  C.calls 8 #[v33_1] w fun v34_1 w =>
  C.loop [u2_1, (.int .i64 0)] w fun dv_1 vs_1 w again_1 =>
  C.step (sBuiltin .len #[32] 3 [false] [a0]) w fun v37_1 w =>
  C.step (sBin .lss 3 (.tmp 35) (.tmp 37) (vs_1.getD 1 undef) v37_1) w fun v38_1 w =>
  C.bool v38_1
  (C.step (sBin .lss 3 (.tmp 40) (.const (.int .i64 60)) (vs_1.getD 1 undef) (.int .i64 60)) w fun v41_1 w =>
  C.bool v41_1
  (C.step (sIndexAddr 32 a0 (vs_1.getD 1 undef)) w fun v48_1 w =>
  C.step (sLoad 36 v48_1) w fun v49_1 w =>
  C.calls 16 #[v34_1, v49_1] w fun v50_1 w =>
  C.step (sUn .not v50_1) w fun v51_1 w =>
  C.bool v51_1
  (Q (.bool false) w)
  (C.step (sBin .add 3 (.tmp 43) (.const (.int .i64 1)) (vs_1.getD 1 undef) (.int .i64 1)) w fun v44_1 w =>
  again_1 [(vs_1.getD 0 undef), v44_1] w))
  (flotillalaw01_EncBack_k2 C v34_1 w Q))
  (flotillalaw01_EncBack_k2 C v34_1 w Q)
def flotillalaw01_EncBack_x (C : Comb) (a0 : Value) (w : World) (Q : Value → World → Prop) : Prop :=
  C.calls 11 #[] w fun v7_1 w =>
  C.loop [(.bool false), (.int .i64 0)] w fun dv_2 vs_2 w again_2 =>
  C.step (sBuiltin .len #[32] 3 [false] [a0]) w fun v10_1 w =>
  C.step (sBin .lss 3 (.tmp 8) (.tmp 10) (vs_2.getD 1 undef) v10_1) w fun v11_1 w =>
  C.bool v11_1
  (C.step (sBin .lss 3 (.tmp 13) (.const (.int .i64 60)) (vs_2.getD 1 undef) (.int .i64 60)) w fun v14_1 w =>
  C.bool v14_1
  (C.step (sIndexAddr 32 a0 (vs_2.getD 1 undef)) w fun v20_1 w =>
  C.step (sFieldAddr 36 v20_1 2) w fun v21_1 w =>
  C.step (sLoad 9 v21_1) w fun v22_1 w =>
  C.step (sBuiltin .len #[9] 3 [false] [v22_1]) w fun v23_1 w =>
  C.step (sBin .gtr 3 (.tmp 23) (.const (.int .i64 65535)) v23_1 (.int .i64 65535)) w fun v24_1 w =>
  C.bool v24_1
  (C.calls 10 #[] w fun v25_1 w =>
  Q v25_1 w)
  (C.step (sIndexAddr 32 a0 (vs_2.getD 1 undef)) w fun v29_1 w =>
  C.step (sLoad 36 v29_1) w fun v30_1 w =>
  C.calls 14 #[v7_1, v30_1] w fun v31_1 w =>
  C.step (sBin .add 3 (.tmp 16) (.const (.int .i64 1)) (vs_2.getD 1 undef) (.int .i64 1)) w fun v17_1 w =>
  again_2 [(vs_2.getD 0 undef), v17_1] w))
  (flotillalaw01_EncBack_k1 C a0 v7_1 (vs_2.getD 0 undef) w Q))
  (flotillalaw01_EncBack_k1 C a0 v7_1 (vs_2.getD 0 undef) w Q)
theorem flotillalaw01_EncBack_eq (C : Comb) (a0 : Value) (w : World) (Q : Value → World → Prop) : flotillalaw01_EncBack_x C a0 w Q = FunY Try.prog C 7 Try.f6 [a0] w Q := by kernel_rfl
theorem flotillalaw01_EncBack_sound (a0 : Value) {w : World} {Q : Value → World → Prop} (h : flotillalaw01_EncBack_x (std Try.prog) a0 w Q) : CallsR Try.prog 6 #[a0] w Q :=
  calls_of_funY mixed Try.func6 (Eq.mp (flotillalaw01_EncBack_eq _ a0 w Q) h)

def flotillalaw01_EncTakes_k2 (C : Comb) (w : World) (Q : Value → World → Prop) : Prop :=
  Q (.bool false) w
def flotillalaw01_EncTakes_k1 (C : Comb) (w : World) (Q : Value → World → Prop) : Prop :=
  C.calls 9 #[(.pointer none)] w fun v141_1 w =>
  C.step (sBin .eql 5 (.tmp 141) (.const (.int .u8 0)) v141_1 (.int .u8 0)) w fun v142_1 w =>
  C.bool v142_1
  (C.calls 22 #[(.pointer none)] w fun v145_1 w =>
  C.step (sBin .eql 53 (.tmp 145) (.const (.int .u16 0)) v145_1 (.int .u16 0)) w fun v146_1 w =>
  C.bool v146_1
  (C.calls 23 #[(.pointer none)] w fun v150_1 w =>
  C.step (sBin .eql 55 (.tmp 150) (.const (.int .u32 0)) v150_1 (.int .u32 0)) w fun v151_1 w =>
  C.bool v151_1
  (C.calls 24 #[(.pointer none)] w fun v155_1 w =>
  C.step (sBin .eql 34 (.tmp 155) (.const (.int .u64 0)) v155_1 (.int .u64 0)) w fun v156_1 w =>
  C.bool v156_1
  (C.calls 26 #[(.pointer none), (.int .i64 9)] w fun v160_1 w =>
  C.step (sBin .eql 9 (.tmp 160) (.const (.string ⟨#[]⟩)) v160_1 (.string ⟨#[]⟩)) w fun v161_1 w =>
  C.bool v161_1
  (C.calls 19 #[(.pointer none)] w fun v165_1 w =>
  C.step (sBin .eql 3 (.tmp 165) (.const (.int .i64 0)) v165_1 (.int .i64 0)) w fun v166_1 w =>
  C.bool v166_1
  (C.calls 17 #[(.pointer none)] w fun v170_1 w =>
  C.step (sBin .eql 41 (.tmp 170) (.const (.int .i64 1)) v170_1 (.int .i64 1)) w fun v171_1 w =>
  C.bool v171_1
  (C.calls 18 #[(.pointer none)] w fun v175_1 w =>
  C.step (sBin .eql 41 (.tmp 175) (.const (.int .i64 1)) v175_1 (.int .i64 1)) w fun v176_1 w =>
  C.bool v176_1
  (C.calls 10 #[] w fun v179_1 w =>
  Q v179_1 w)
  (flotillalaw01_EncTakes_k2 C w Q))
  (flotillalaw01_EncTakes_k2 C w Q))
  (flotillalaw01_EncTakes_k2 C w Q))
  (flotillalaw01_EncTakes_k2 C w Q))
  (flotillalaw01_EncTakes_k2 C w Q))
  (flotillalaw01_EncTakes_k2 C w Q))
  (flotillalaw01_EncTakes_k2 C w Q))
  (flotillalaw01_EncTakes_k2 C w Q)
def flotillalaw01_EncTakes_k3 (C : Comb) (vs_1 : List Value) (again_1 : List Value → World → Prop) (w : World) (Q : Value → World → Prop) : Prop :=
  C.step (sBin .add 3 (.tmp 27) (.const (.int .i64 1)) (vs_1.getD 0 undef) (.int .i64 1)) w fun v28_1 w =>
  again_1 [v28_1] w
def flotillalaw01_EncTakes_k5 (C : Comb) (w : World) (Q : Value → World → Prop) : Prop :=
  Q (.bool false) w
def flotillalaw01_EncTakes_k4 (C : Comb) (v15_1 : Value) (v7_1 : Value) (vs_1 : List Value) (again_1 : List Value → World → Prop) (u11_4 : Value) (w : World) (Q : Value → World → Prop) : Prop :=
  C.draw w fun S_1 w =>
  C.stepS S_1 (sUn .not u11_4) fun v118_1 =>
  C.bool v118_1
  (flotillalaw01_EncTakes_k5 C w Q)
  (C.stepS S_1 (sLoad 48 v7_1) fun v122_1 =>
  C.calls 19 #[v15_1] w fun v121_1 w =>
  C.keepS S_1 w fun S_2 =>
  C.calls 27 #[v122_1] w fun v123_1 w =>
  C.keepT w fun S_3 =>
  C.stepS S_3 (sBin .neq 3 (.tmp 121) (.tmp 123) v121_1 v123_1) fun v124_1 =>
  C.bool v124_1
  (flotillalaw01_EncTakes_k5 C w Q)
  (C.stepS S_3 (sFieldAddr 48 v7_1 2) fun v129_1 =>
  C.stepS S_3 (sLoad 41 v129_1) fun v130_1 =>
  C.calls 17 #[v15_1] w fun v128_1 w =>
  C.keepS S_3 w fun S_4 =>
  C.stepS S_4 (sBin .neq 41 (.tmp 128) (.tmp 130) v128_1 v130_1) fun v131_1 =>
  C.bool v131_1
  (flotillalaw01_EncTakes_k5 C w Q)
  (C.stepS S_4 (sLoad 48 v7_1) fun v136_1 =>
  C.calls 18 #[v15_1] w fun v135_1 w =>
  C.keepS S_4 w fun S_5 =>
  C.calls 28 #[v136_1] w fun v137_1 w =>
  C.keepT w fun S_6 =>
  C.stepS S_6 (sBin .neq 41 (.tmp 135) (.tmp 137) v135_1 v137_1) fun v138_1 =>
  C.bool v138_1
  (Q (.bool false) w)
  (flotillalaw01_EncTakes_k3 C vs_1 again_1 w Q))))
def flotillalaw01_EncTakes_k7 (C : Comb) (w : World) (Q : Value → World → Prop) : Prop :=
  Q (.bool false) w
def flotillalaw01_EncTakes_k6 (C : Comb) (v15_1 : Value) (v7_1 : Value) (vs_1 : List Value) (again_1 : List Value → World → Prop) (w : World) (Q : Value → World → Prop) : Prop :=
  C.draw w fun S_7 w =>
  C.stepS S_7 (sUn .not (.bool true)) fun v118_2 =>
  C.bool v118_2
  (flotillalaw01_EncTakes_k7 C w Q)
  (C.stepS S_7 (sLoad 48 v7_1) fun v122_2 =>
  C.calls 19 #[v15_1] w fun v121_2 w =>
  C.keepS S_7 w fun S_8 =>
  C.calls 27 #[v122_2] w fun v123_2 w =>
  C.keepT w fun S_9 =>
  C.stepS S_9 (sBin .neq 3 (.tmp 121) (.tmp 123) v121_2 v123_2) fun v124_2 =>
  C.bool v124_2
  (flotillalaw01_EncTakes_k7 C w Q)
  (C.stepS S_9 (sFieldAddr 48 v7_1 2) fun v129_2 =>
  C.stepS S_9 (sLoad 41 v129_2) fun v130_2 =>
  C.calls 17 #[v15_1] w fun v128_2 w =>
  C.keepS S_9 w fun S_10 =>
  C.stepS S_10 (sBin .neq 41 (.tmp 128) (.tmp 130) v128_2 v130_2) fun v131_2 =>
  C.bool v131_2
  (flotillalaw01_EncTakes_k7 C w Q)
  (C.stepS S_10 (sLoad 48 v7_1) fun v136_2 =>
  C.calls 18 #[v15_1] w fun v135_2 w =>
  C.keepS S_10 w fun S_11 =>
  C.calls 28 #[v136_2] w fun v137_2 w =>
  C.keepT w fun S_12 =>
  C.stepS S_12 (sBin .neq 41 (.tmp 135) (.tmp 137) v135_2 v137_2) fun v138_2 =>
  C.bool v138_2
  (Q (.bool false) w)
  (flotillalaw01_EncTakes_k3 C vs_1 again_1 w Q))))
def flotillalaw01_EncTakes_x (C : Comb) (a0 : Value) (a1 : Value) (w : World) (Q : Value → World → Prop) : Prop :=
  C.calls 20 #[(.pointer none), (.int .i64 6)] w fun v13_1 w =>
  C.calls 8 #[a0] w fun v15_1 w =>
  C.step (sConv 22 9 a0) w fun v17_1 w =>
  C.step (sBuild 48 [(0, v17_1)]) w fun v18_1 w =>
  C.step (sAlloc 48) w fun v7_1 w =>
  C.step (sStore 48 v7_1 v18_1) w fun vx_1 w =>
  C.loop [(.int .i64 0)] w fun dv_1 vs_1 w again_1 =>
  C.step (sBuiltin .len #[45] 3 [false] [a1]) w fun v21_1 w =>
  C.step (sBin .lss 3 (.tmp 19) (.tmp 21) (vs_1.getD 0 undef) v21_1) w fun v22_1 w =>
  C.bool v22_1
  (C.step (sBin .lss 3 (.tmp 24) (.const (.int .i64 60)) (vs_1.getD 0 undef) (.int .i64 60)) w fun v25_1 w =>
  C.bool v25_1
  (C.step (sIndexAddr 45 a1 (vs_1.getD 0 undef)) w fun v31_1 w =>
  C.step (sFieldAddr 50 v31_1 0) w fun v32_1 w =>
  C.step (sLoad 3 v32_1) w fun v33_1 w =>
  C.step (sConv 3 39 v33_1) w fun v34_1 w =>
  C.step (sBin .rem 39 (.tmp 34) (.const (.int .u64 6)) v34_1 (.int .u64 6)) w fun v35_1 w =>
  C.step (sBin .eql 39 (.tmp 35) (.const (.int .u64 0)) v35_1 (.int .u64 0)) w fun v50_1 w =>
  C.bool v50_1
  (C.step (sLoad 48 v7_1) w fun v52_1 w =>
  C.calls 21 #[v52_1, (.int .i64 1)] w fun v53_1 w =>
  C.step (sExtract v53_1 0) w fun v54_1 w =>
  C.step (sExtract v53_1 1) w fun v55_1 w =>
  C.step (sStore 48 v7_1 v54_1) w fun vx_2 w =>
  C.calls 9 #[v15_1] w fun v57_1 w =>
  C.step (sConv 5 34 v57_1) w fun v58_1 w =>
  C.step (sBin .eql 34 (.tmp 58) (.tmp 59) v58_1 v55_1) w fun v60_1 w =>
  flotillalaw01_EncTakes_k4 C v15_1 v7_1 vs_1 again_1 v60_1 w Q)
  (C.step (sBin .eql 39 (.tmp 35) (.const (.int .u64 1)) v35_1 (.int .u64 1)) w fun v62_1 w =>
  C.bool v62_1
  (C.step (sLoad 48 v7_1) w fun v64_1 w =>
  C.calls 21 #[v64_1, (.int .i64 2)] w fun v65_1 w =>
  C.step (sExtract v65_1 0) w fun v66_1 w =>
  C.step (sExtract v65_1 1) w fun v67_1 w =>
  C.step (sStore 48 v7_1 v66_1) w fun vx_3 w =>
  C.calls 22 #[v15_1] w fun v69_1 w =>
  C.step (sConv 53 34 v69_1) w fun v70_1 w =>
  C.step (sBin .eql 34 (.tmp 70) (.tmp 71) v70_1 v67_1) w fun v72_1 w =>
  flotillalaw01_EncTakes_k4 C v15_1 v7_1 vs_1 again_1 v72_1 w Q)
  (C.step (sBin .eql 39 (.tmp 35) (.const (.int .u64 2)) v35_1 (.int .u64 2)) w fun v74_1 w =>
  C.bool v74_1
  (C.step (sLoad 48 v7_1) w fun v76_1 w =>
  C.calls 21 #[v76_1, (.int .i64 4)] w fun v77_1 w =>
  C.step (sExtract v77_1 0) w fun v78_1 w =>
  C.step (sExtract v77_1 1) w fun v79_1 w =>
  C.step (sStore 48 v7_1 v78_1) w fun vx_4 w =>
  C.calls 23 #[v15_1] w fun v81_1 w =>
  C.step (sConv 55 34 v81_1) w fun v82_1 w =>
  C.step (sBin .eql 34 (.tmp 82) (.tmp 83) v82_1 v79_1) w fun v84_1 w =>
  flotillalaw01_EncTakes_k4 C v15_1 v7_1 vs_1 again_1 v84_1 w Q)
  (C.step (sBin .eql 39 (.tmp 35) (.const (.int .u64 3)) v35_1 (.int .u64 3)) w fun v86_1 w =>
  C.bool v86_1
  (C.step (sLoad 48 v7_1) w fun v88_1 w =>
  C.calls 21 #[v88_1, (.int .i64 8)] w fun v89_1 w =>
  C.step (sExtract v89_1 0) w fun v90_1 w =>
  C.step (sExtract v89_1 1) w fun v91_1 w =>
  C.step (sStore 48 v7_1 v90_1) w fun vx_5 w =>
  C.calls 24 #[v15_1] w fun v93_1 w =>
  C.step (sBin .eql 34 (.tmp 93) (.tmp 94) v93_1 v91_1) w fun v95_1 w =>
  flotillalaw01_EncTakes_k4 C v15_1 v7_1 vs_1 again_1 v95_1 w Q)
  (C.step (sBin .eql 39 (.tmp 35) (.const (.int .u64 4)) v35_1 (.int .u64 4)) w fun v97_1 w =>
  C.bool v97_1
  (C.draw w fun S_13 w =>
  C.stepS S_13 (sLoad 48 v7_1) fun v99_1 =>
  C.stepS S_13 (sIndexAddr 45 a1 (vs_1.getD 0 undef)) fun v102_1 =>
  C.stepS S_13 (sFieldAddr 50 v102_1 1) fun v103_1 =>
  C.stepS S_13 (sLoad 3 v103_1) fun v104_1 =>
  C.calls 25 #[v99_1, v104_1] w fun v105_1 w =>
  C.keepT w fun S_14 =>
  C.stepS S_14 (sExtract v105_1 0) fun v106_1 =>
  C.stepS S_14 (sExtract v105_1 1) fun v107_1 =>
  C.step (sStore 48 v7_1 v106_1) w fun vx_6 w =>
  C.keepS S_14 w fun S_15 =>
  C.step (sIndexAddr 45 a1 (vs_1.getD 0 undef)) w fun v111_1 w =>
  C.step (sFieldAddr 50 v111_1 1) w fun v112_1 w =>
  C.step (sLoad 3 v112_1) w fun v113_1 w =>
  C.calls 26 #[v15_1, v113_1] w fun v114_1 w =>
  C.step (sBin .eql 9 (.tmp 114) (.tmp 115) v114_1 v107_1) w fun v116_1 w =>
  flotillalaw01_EncTakes_k4 C v15_1 v7_1 vs_1 again_1 v116_1 w Q)
  (C.step (sIndexAddr 45 a1 (vs_1.getD 0 undef)) w fun v38_1 w =>
  C.step (sFieldAddr 50 v38_1 1) w fun v39_1 w =>
  C.step (sLoad 3 v39_1) w fun v40_1 w =>
  C.step (sBin .rem 3 (.tmp 40) (.const (.int .i64 5)) v40_1 (.int .i64 5)) w fun v41_1 w =>
  C.step (sBin .eql 3 (.tmp 41) (.const (.int .i64 0)) v41_1 (.int .i64 0)) w fun v42_1 w =>
  C.bool v42_1
  (C.calls 20 #[v15_1, (.int .i64 7)] w fun v44_1 w =>
  C.step (sFieldAddr 48 v7_1 2) w fun v45_1 w =>
  C.step (sLoad 41 v45_1) w fun v46_1 w =>
  C.step (sBin .eql 41 (.tmp 46) (.const (.int .i64 0)) v46_1 (.int .i64 0)) w fun v47_1 w =>
  C.bool v47_1
  (C.step (sFieldAddr 48 v7_1 2) w fun v48_1 w =>
  C.step (sStore 41 v48_1 (.int .i64 7)) w fun vx_7 w =>
  flotillalaw01_EncTakes_k6 C v15_1 v7_1 vs_1 again_1 w Q)
  (flotillalaw01_EncTakes_k6 C v15_1 v7_1 vs_1 again_1 w Q))
  (flotillalaw01_EncTakes_k6 C v15_1 v7_1 vs_1 again_1 w Q)))))))
  (flotillalaw01_EncTakes_k1 C w Q))
  (flotillalaw01_EncTakes_k1 C w Q)
theorem flotillalaw01_EncTakes_eq (C : Comb) (a0 : Value) (a1 : Value) (w : World) (Q : Value → World → Prop) : flotillalaw01_EncTakes_x C a0 a1 w Q = FunY Try.prog C 2 Try.f7 [a0, a1] w Q := by kernel_rfl
theorem flotillalaw01_EncTakes_sound (a0 : Value) (a1 : Value) {w : World} {Q : Value → World → Prop} (h : flotillalaw01_EncTakes_x (std Try.prog) a0 a1 w Q) : CallsR Try.prog 7 #[a0, a1] w Q :=
  calls_of_funY mixed Try.func7 (Eq.mp (flotillalaw01_EncTakes_eq _ a0 a1 w Q) h)

def enc_Read_x (C : Comb) (a0 : Value) (w : World) (Q : Value → World → Prop) : Prop :=
  C.step (sBuildSlice 22 0 []) w fun v3_1 w =>
  C.step (sBuiltin .append #[22, 22] 22 [false, false] [v3_1, a0]) w fun v5_1 w =>
  C.step (sBuild 65 [(0, v5_1)]) w fun v6_1 w =>
  C.step (sBuild 67 [(0, v6_1)]) w fun v7_1 w =>
  C.step (sBox 67 v7_1) w fun v8_1 w =>
  Q v8_1 w
theorem enc_Read_eq (C : Comb) (a0 : Value) (w : World) (Q : Value → World → Prop) : enc_Read_x C a0 w Q = FunY Try.prog C 2 Try.f8 [a0] w Q := by kernel_rfl
theorem enc_Read_sound (a0 : Value) {w : World} {Q : Value → World → Prop} (h : enc_Read_x (std Try.prog) a0 w Q) : CallsR Try.prog 8 #[a0] w Q :=
  calls_of_funY mixed Try.func8 (Eq.mp (enc_Read_eq _ a0 w Q) h)

def enc_Reader_Byte_x (C : Comb) (a0 : Value) (w : World) (Q : Value → World → Prop) : Prop :=
  C.calls 29 #[a0, (.int .i64 1)] w fun v4_1 w =>
  C.step (sConv 34 5 v4_1) w fun v5_1 w =>
  Q v5_1 w
theorem enc_Reader_Byte_eq (C : Comb) (a0 : Value) (w : World) (Q : Value → World → Prop) : enc_Reader_Byte_x C a0 w Q = FunY Try.prog C 2 Try.f9 [a0] w Q := by kernel_rfl
theorem enc_Reader_Byte_sound (a0 : Value) {w : World} {Q : Value → World → Prop} (h : enc_Reader_Byte_x (std Try.prog) a0 w Q) : CallsR Try.prog 9 #[a0] w Q :=
  calls_of_funY mixed Try.func9 (Eq.mp (enc_Reader_Byte_eq _ a0 w Q) h)

def flotillalaw01_lives_k1 (C : Comb) (w : World) (Q : Value → World → Prop) : Prop :=
  Q (.bool false) w
def flotillalaw01_lives_x (C : Comb) (w : World) (Q : Value → World → Prop) : Prop :=
  C.calls 11 #[] w fun v3_1 w =>
  C.step (sBin .eql 27 (.tmp 4) (.const (.pointer none)) v3_1 (.pointer none)) w fun v5_1 w =>
  C.bool v5_1
  (Q (.bool false) w)
  (C.calls 30 #[v3_1, (.int .u16 258)] w fun v7_1 w =>
  C.calls 12 #[v3_1, (.string ⟨#[97]⟩)] w fun v9_1 w =>
  C.step (sBuildSlice 22 3 [(0, (.int .u8 5)), (1, (.int .u8 0)), (2, (.int .u8 97))]) w fun v10_1 w =>
  C.calls 8 #[v10_1] w fun v11_1 w =>
  C.calls 13 #[v3_1] w fun v13_1 w =>
  C.step (sConv 22 9 v13_1) w fun v14_1 w =>
  C.step (sBin .eql 9 (.tmp 14) (.const (.string ⟨#[2, 1, 1, 0, 97]⟩)) v14_1 (.string ⟨#[2, 1, 1, 0, 97]⟩)) w fun v15_1 w =>
  C.bool v15_1
  (C.step (sBin .neq 23 (.tmp 17) (.const (.pointer none)) v11_1 (.pointer none)) w fun v18_1 w =>
  C.bool v18_1
  (C.calls 26 #[v11_1, (.int .i64 9)] w fun v22_1 w =>
  C.step (sBin .eql 9 (.tmp 22) (.const (.string ⟨#[]⟩)) v22_1 (.string ⟨#[]⟩)) w fun v23_1 w =>
  C.bool v23_1
  (C.calls 17 #[v11_1] w fun v27_1 w =>
  C.step (sBin .eql 41 (.tmp 27) (.const (.int .i64 4)) v27_1 (.int .i64 4)) w fun v28_1 w =>
  Q v28_1 w)
  (flotillalaw01_lives_k1 C w Q))
  (flotillalaw01_lives_k1 C w Q))
  (flotillalaw01_lives_k1 C w Q))
theorem flotillalaw01_lives_eq (C : Comb) (w : World) (Q : Value → World → Prop) : flotillalaw01_lives_x C w Q = FunY Try.prog C 3 Try.f10 [] w Q := by kernel_rfl
theorem flotillalaw01_lives_sound {w : World} {Q : Value → World → Prop} (h : flotillalaw01_lives_x (std Try.prog) w Q) : CallsR Try.prog 10 #[] w Q :=
  calls_of_funY mixed Try.func10 (Eq.mp (flotillalaw01_lives_eq _ w Q) h)

def enc_New_x (C : Comb) (w : World) (Q : Value → World → Prop) : Prop :=
  C.step (sBuild 71 []) w fun v1_1 w =>
  C.step (sBox 71 v1_1) w fun v2_1 w =>
  Q v2_1 w
theorem enc_New_eq (C : Comb) (w : World) (Q : Value → World → Prop) : enc_New_x C w Q = FunY Try.prog C 0 Try.f11 [] w Q := by kernel_rfl
theorem enc_New_sound {w : World} {Q : Value → World → Prop} (h : enc_New_x (std Try.prog) w Q) : CallsR Try.prog 11 #[] w Q :=
  calls_of_funY mixed Try.func11 (Eq.mp (enc_New_eq _ w Q) h)

def enc_Writer_Text_k1 (C : Comb) (a0 : Value) (u1_1 : Value) (w : World) (Q : Value → World → Prop) : Prop :=
  C.step (sBuiltin .len #[9] 3 [false] [u1_1]) w fun v13_1 w =>
  C.step (sConv 3 34 v13_1) w fun v14_1 w =>
  C.calls 31 #[a0, v14_1, (.int .i64 2)] w fun v15_1 w =>
  C.step (sNil a0) w fun v18_1 w =>
  C.step (sFieldAddr 71 v18_1 0) w fun v19_1 w =>
  C.step (sFieldAddr 65 v19_1 0) w fun v20_1 w =>
  C.step (sLoad 22 v20_1) w fun v21_1 w =>
  C.step (sBuiltin .append #[22, 9] 22 [false, false] [v21_1, u1_1]) w fun v23_1 w =>
  C.step (sNil a0) w fun v24_1 w =>
  C.step (sFieldAddr 71 v24_1 0) w fun v25_1 w =>
  C.step (sFieldAddr 65 v25_1 0) w fun v26_1 w =>
  C.step (sStore 22 v26_1 v23_1) w fun vx_1 w =>
  Q (.tuple #[]) w
def enc_Writer_Text_x (C : Comb) (a0 : Value) (a1 : Value) (w : World) (Q : Value → World → Prop) : Prop :=
  C.step (sBin .eql 27 (.tmp 4) (.const (.pointer none)) a0 (.pointer none)) w fun v5_1 w =>
  C.bool v5_1
  (Q (.tuple #[]) w)
  (C.step (sBuiltin .len #[9] 3 [false] [a1]) w fun v7_1 w =>
  C.step (sBin .gtr 3 (.tmp 7) (.const (.int .i64 65535)) v7_1 (.int .i64 65535)) w fun v8_1 w =>
  C.bool v8_1
  (C.step (sSlice 9 a1 none (some (.int .i64 65535)) none) w fun v10_1 w =>
  enc_Writer_Text_k1 C a0 v10_1 w Q)
  (enc_Writer_Text_k1 C a0 a1 w Q))
theorem enc_Writer_Text_eq (C : Comb) (a0 : Value) (a1 : Value) (w : World) (Q : Value → World → Prop) : enc_Writer_Text_x C a0 a1 w Q = FunY Try.prog C 4 Try.f12 [a0, a1] w Q := by kernel_rfl
theorem enc_Writer_Text_sound (a0 : Value) (a1 : Value) {w : World} {Q : Value → World → Prop} (h : enc_Writer_Text_x (std Try.prog) a0 a1 w Q) : CallsR Try.prog 12 #[a0, a1] w Q :=
  calls_of_funY mixed Try.func12 (Eq.mp (enc_Writer_Text_eq _ a0 a1 w Q) h)

def enc_Writer_Done_x (C : Comb) (a0 : Value) (w : World) (Q : Value → World → Prop) : Prop :=
  C.step (sBin .eql 27 (.tmp 3) (.const (.pointer none)) a0 (.pointer none)) w fun v4_1 w =>
  C.bool v4_1
  (Q (.slice none 0 0) w)
  (C.step (sBuildSlice 22 0 []) w fun v5_1 w =>
  C.step (sNil a0) w fun v7_1 w =>
  C.step (sFieldAddr 71 v7_1 0) w fun v8_1 w =>
  C.step (sFieldAddr 65 v8_1 0) w fun v9_1 w =>
  C.step (sLoad 22 v9_1) w fun v10_1 w =>
  C.step (sBuiltin .append #[22, 22] 22 [false, false] [v5_1, v10_1]) w fun v11_1 w =>
  Q v11_1 w)
theorem enc_Writer_Done_eq (C : Comb) (a0 : Value) (w : World) (Q : Value → World → Prop) : enc_Writer_Done_x C a0 w Q = FunY Try.prog C 2 Try.f13 [a0] w Q := by kernel_rfl
theorem enc_Writer_Done_sound (a0 : Value) {w : World} {Q : Value → World → Prop} (h : enc_Writer_Done_x (std Try.prog) a0 w Q) : CallsR Try.prog 13 #[a0] w Q :=
  calls_of_funY mixed Try.func13 (Eq.mp (enc_Writer_Done_eq _ a0 w Q) h)

def flotillalaw01_lay_x (C : Comb) (a0 : Value) (a1 : Value) (w : World) (Q : Value → World → Prop) : Prop :=
  C.step (sBox 36 a1) w fun v3_1 w =>
  C.step (sLoad 36 v3_1) w fun v4_1 w =>
  C.calls 32 #[v4_1] w fun v5_1 w =>
  C.step (sBin .eql 3 (.tmp 5) (.const (.int .i64 0)) v5_1 (.int .i64 0)) w fun v11_1 w =>
  C.bool v11_1
  (C.step (sFieldAddr 36 v3_1 1) w fun v13_1 w =>
  C.step (sLoad 34 v13_1) w fun v14_1 w =>
  C.step (sConv 34 5 v14_1) w fun v15_1 w =>
  C.calls 33 #[a0, v15_1] w fun v16_1 w =>
  Q (.tuple #[]) w)
  (C.step (sBin .eql 3 (.tmp 5) (.const (.int .i64 1)) v5_1 (.int .i64 1)) w fun v18_1 w =>
  C.bool v18_1
  (C.step (sFieldAddr 36 v3_1 1) w fun v20_1 w =>
  C.step (sLoad 34 v20_1) w fun v21_1 w =>
  C.step (sConv 34 53 v21_1) w fun v22_1 w =>
  C.calls 30 #[a0, v22_1] w fun v23_1 w =>
  Q (.tuple #[]) w)
  (C.step (sBin .eql 3 (.tmp 5) (.const (.int .i64 2)) v5_1 (.int .i64 2)) w fun v25_1 w =>
  C.bool v25_1
  (C.step (sFieldAddr 36 v3_1 1) w fun v27_1 w =>
  C.step (sLoad 34 v27_1) w fun v28_1 w =>
  C.step (sConv 34 55 v28_1) w fun v29_1 w =>
  C.calls 34 #[a0, v29_1] w fun v30_1 w =>
  Q (.tuple #[]) w)
  (C.step (sBin .eql 3 (.tmp 5) (.const (.int .i64 3)) v5_1 (.int .i64 3)) w fun v32_1 w =>
  C.bool v32_1
  (C.step (sFieldAddr 36 v3_1 1) w fun v34_1 w =>
  C.step (sLoad 34 v34_1) w fun v35_1 w =>
  C.calls 35 #[a0, v35_1] w fun v36_1 w =>
  Q (.tuple #[]) w)
  (C.step (sFieldAddr 36 v3_1 2) w fun v7_1 w =>
  C.step (sLoad 9 v7_1) w fun v8_1 w =>
  C.calls 12 #[a0, v8_1] w fun v9_1 w =>
  Q (.tuple #[]) w))))
theorem flotillalaw01_lay_eq (C : Comb) (a0 : Value) (a1 : Value) (w : World) (Q : Value → World → Prop) : flotillalaw01_lay_x C a0 a1 w Q = FunY Try.prog C 4 Try.f14 [a0, a1] w Q := by kernel_rfl
theorem flotillalaw01_lay_sound (a0 : Value) (a1 : Value) {w : World} {Q : Value → World → Prop} (h : flotillalaw01_lay_x (std Try.prog) a0 a1 w Q) : CallsR Try.prog 14 #[a0, a1] w Q :=
  calls_of_funY mixed Try.func14 (Eq.mp (flotillalaw01_lay_eq _ a0 a1 w Q) h)

def flotillalaw01_laid_k1 (C : Comb) (u2_1 : Value) (w : World) (Q : Value → World → Prop) : Prop :=
  Q u2_1 w
def flotillalaw01_laid_x (C : Comb) (a0 : Value) (w : World) (Q : Value → World → Prop) : Prop :=
  C.step (sBox 36 a0) w fun v1_1 w =>
  C.step (sLoad 36 v1_1) w fun v3_1 w =>
  C.calls 32 #[v3_1] w fun v4_1 w =>
  C.step (sBin .eql 3 (.tmp 4) (.const (.int .i64 4)) v4_1 (.int .i64 4)) w fun v5_1 w =>
  C.bool v5_1
  (C.step (sFieldAddr 36 v1_1 2) w fun v6_1 w =>
  C.step (sLoad 9 v6_1) w fun v7_1 w =>
  C.calls 36 #[v7_1] w fun v8_1 w =>
  Q v8_1 w)
  (C.draw w fun S_1 w =>
  C.stepS S_1 (sFieldAddr 36 v1_1 1) fun v9_1 =>
  C.stepS S_1 (sLoad 34 v9_1) fun v10_1 =>
  C.stepS S_1 (sLoad 36 v1_1) fun v12_1 =>
  (C.step (sBuildSlice 79 4 [(0, (.int .i64 1)), (1, (.int .i64 2)), (2, (.int .i64 4)), (3, (.int .i64 8))]) w fun v11_1 w =>
  C.keepS S_1 w fun S_2 =>
  C.calls 32 #[v12_1] w fun v13_1 w =>
  C.keepS S_2 w fun S_3 =>
  C.stepS S_3 (sIndexAddr 79 v11_1 v13_1) fun v14_1 =>
  C.stepS S_3 (sLoad 3 v14_1) fun v15_1 =>
  C.calls 37 #[v10_1, v15_1] w fun v16_1 w =>
  C.keepT w fun S_4 =>
  flotillalaw01_laid_k1 C v16_1 w Q) ∧
  (C.calls 32 #[v12_1] w fun v13_2 w =>
  C.keepS S_1 w fun S_5 =>
  C.step (sBuildSlice 79 4 [(0, (.int .i64 1)), (1, (.int .i64 2)), (2, (.int .i64 4)), (3, (.int .i64 8))]) w fun v11_2 w =>
  C.keepS S_5 w fun S_6 =>
  C.stepS S_6 (sIndexAddr 79 v11_2 v13_2) fun v14_2 =>
  C.stepS S_6 (sLoad 3 v14_2) fun v15_2 =>
  C.calls 37 #[v10_1, v15_2] w fun v16_2 w =>
  C.keepT w fun S_7 =>
  flotillalaw01_laid_k1 C v16_2 w Q))
theorem flotillalaw01_laid_eq (C : Comb) (a0 : Value) (w : World) (Q : Value → World → Prop) : flotillalaw01_laid_x C a0 w Q = FunY Try.prog C 2 Try.f15 [a0] w Q := by kernel_rfl
theorem flotillalaw01_laid_sound (a0 : Value) {w : World} {Q : Value → World → Prop} (h : flotillalaw01_laid_x (std Try.prog) a0 w Q) : CallsR Try.prog 15 #[a0] w Q :=
  calls_of_funY mixed Try.func15 (Eq.mp (flotillalaw01_laid_eq _ a0 w Q) h)

def flotillalaw01_taken_x (C : Comb) (a0 : Value) (a1 : Value) (w : World) (Q : Value → World → Prop) : Prop :=
  C.step (sBox 36 a1) w fun v3_1 w =>
  C.step (sLoad 36 v3_1) w fun v5_1 w =>
  C.calls 32 #[v5_1] w fun v6_1 w =>
  C.step (sBin .eql 3 (.tmp 6) (.const (.int .i64 0)) v6_1 (.int .i64 0)) w fun v8_1 w =>
  C.bool v8_1
  (C.draw w fun S_1 w =>
  C.stepS S_1 (sFieldAddr 36 v3_1 1) fun v11_1 =>
  C.stepS S_1 (sLoad 34 v11_1) fun v12_1 =>
  C.stepS S_1 (sConv 34 5 v12_1) fun v13_1 =>
  C.calls 9 #[a0] w fun v10_1 w =>
  C.keepS S_1 w fun S_2 =>
  C.stepS S_2 (sBin .eql 5 (.tmp 10) (.tmp 13) v10_1 v13_1) fun v14_1 =>
  Q v14_1 w)
  (C.step (sBin .eql 3 (.tmp 6) (.const (.int .i64 1)) v6_1 (.int .i64 1)) w fun v16_1 w =>
  C.bool v16_1
  (C.draw w fun S_3 w =>
  C.stepS S_3 (sFieldAddr 36 v3_1 1) fun v19_1 =>
  C.stepS S_3 (sLoad 34 v19_1) fun v20_1 =>
  C.stepS S_3 (sConv 34 53 v20_1) fun v21_1 =>
  C.calls 22 #[a0] w fun v18_1 w =>
  C.keepS S_3 w fun S_4 =>
  C.stepS S_4 (sBin .eql 53 (.tmp 18) (.tmp 21) v18_1 v21_1) fun v22_1 =>
  Q v22_1 w)
  (C.step (sBin .eql 3 (.tmp 6) (.const (.int .i64 2)) v6_1 (.int .i64 2)) w fun v24_1 w =>
  C.bool v24_1
  (C.draw w fun S_5 w =>
  C.stepS S_5 (sFieldAddr 36 v3_1 1) fun v27_1 =>
  C.stepS S_5 (sLoad 34 v27_1) fun v28_1 =>
  C.stepS S_5 (sConv 34 55 v28_1) fun v29_1 =>
  C.calls 23 #[a0] w fun v26_1 w =>
  C.keepS S_5 w fun S_6 =>
  C.stepS S_6 (sBin .eql 55 (.tmp 26) (.tmp 29) v26_1 v29_1) fun v30_1 =>
  Q v30_1 w)
  (C.step (sBin .eql 3 (.tmp 6) (.const (.int .i64 3)) v6_1 (.int .i64 3)) w fun v32_1 w =>
  C.bool v32_1
  (C.draw w fun S_7 w =>
  C.stepS S_7 (sFieldAddr 36 v3_1 1) fun v35_1 =>
  C.stepS S_7 (sLoad 34 v35_1) fun v36_1 =>
  C.calls 24 #[a0] w fun v34_1 w =>
  C.keepS S_7 w fun S_8 =>
  C.stepS S_8 (sBin .eql 34 (.tmp 34) (.tmp 36) v34_1 v36_1) fun v37_1 =>
  Q v37_1 w)
  (C.draw w fun S_9 w =>
  C.stepS S_9 (sFieldAddr 36 v3_1 2) fun v40_1 =>
  C.stepS S_9 (sLoad 9 v40_1) fun v41_1 =>
  C.calls 26 #[a0, (.int .i64 65535)] w fun v39_1 w =>
  C.keepS S_9 w fun S_10 =>
  C.stepS S_10 (sBin .eql 9 (.tmp 39) (.tmp 41) v39_1 v41_1) fun v42_1 =>
  Q v42_1 w))))
theorem flotillalaw01_taken_eq (C : Comb) (a0 : Value) (a1 : Value) (w : World) (Q : Value → World → Prop) : flotillalaw01_taken_x C a0 a1 w Q = FunY Try.prog C 4 Try.f16 [a0, a1] w Q := by kernel_rfl
theorem flotillalaw01_taken_sound (a0 : Value) (a1 : Value) {w : World} {Q : Value → World → Prop} (h : flotillalaw01_taken_x (std Try.prog) a0 a1 w Q) : CallsR Try.prog 16 #[a0, a1] w Q :=
  calls_of_funY mixed Try.func16 (Eq.mp (flotillalaw01_taken_eq _ a0 a1 w Q) h)

def enc_Reader_Err_x (C : Comb) (a0 : Value) (w : World) (Q : Value → World → Prop) : Prop :=
  C.step (sBin .eql 23 (.tmp 3) (.const (.pointer none)) a0 (.pointer none)) w fun v4_1 w =>
  C.bool v4_1
  (Q (.int .i64 1) w)
  (C.step (sNil a0) w fun v6_1 w =>
  C.step (sFieldAddr 67 v6_1 1) w fun v7_1 w =>
  C.step (sLoad 41 v7_1) w fun v8_1 w =>
  Q v8_1 w)
theorem enc_Reader_Err_eq (C : Comb) (a0 : Value) (w : World) (Q : Value → World → Prop) : enc_Reader_Err_x C a0 w Q = FunY Try.prog C 2 Try.f17 [a0] w Q := by kernel_rfl
theorem enc_Reader_Err_sound (a0 : Value) {w : World} {Q : Value → World → Prop} (h : enc_Reader_Err_x (std Try.prog) a0 w Q) : CallsR Try.prog 17 #[a0] w Q :=
  calls_of_funY mixed Try.func17 (Eq.mp (enc_Reader_Err_eq _ a0 w Q) h)

def enc_Reader_End_k1 (C : Comb) (v5_1 : Value) (w : World) (Q : Value → World → Prop) : Prop :=
  Q v5_1 w
def enc_Reader_End_x (C : Comb) (a0 : Value) (w : World) (Q : Value → World → Prop) : Prop :=
  C.calls 17 #[a0] w fun v5_1 w =>
  C.step (sBin .eql 41 (.tmp 6) (.const (.int .i64 0)) v5_1 (.int .i64 0)) w fun v7_1 w =>
  C.bool v7_1
  (C.step (sNil a0) w fun v10_1 w =>
  C.step (sFieldAddr 67 v10_1 0) w fun v11_1 w =>
  C.step (sFieldAddr 65 v11_1 0) w fun v12_1 w =>
  C.step (sLoad 22 v12_1) w fun v13_1 w =>
  C.step (sBuiltin .len #[22] 3 [false] [v13_1]) w fun v14_1 w =>
  C.step (sBin .gtr 3 (.tmp 14) (.const (.int .i64 0)) v14_1 (.int .i64 0)) w fun v15_1 w =>
  C.bool v15_1
  (Q (.int .i64 5) w)
  (enc_Reader_End_k1 C v5_1 w Q))
  (enc_Reader_End_k1 C v5_1 w Q)
theorem enc_Reader_End_eq (C : Comb) (a0 : Value) (w : World) (Q : Value → World → Prop) : enc_Reader_End_x C a0 w Q = FunY Try.prog C 4 Try.f18 [a0] w Q := by kernel_rfl
theorem enc_Reader_End_sound (a0 : Value) {w : World} {Q : Value → World → Prop} (h : enc_Reader_End_x (std Try.prog) a0 w Q) : CallsR Try.prog 18 #[a0] w Q :=
  calls_of_funY mixed Try.func18 (Eq.mp (enc_Reader_End_eq _ a0 w Q) h)

def enc_Reader_Left_x (C : Comb) (a0 : Value) (w : World) (Q : Value → World → Prop) : Prop :=
  C.step (sBin .eql 23 (.tmp 3) (.const (.pointer none)) a0 (.pointer none)) w fun v4_1 w =>
  C.bool v4_1
  (Q (.int .i64 0) w)
  (C.step (sNil a0) w fun v6_1 w =>
  C.step (sFieldAddr 67 v6_1 0) w fun v7_1 w =>
  C.step (sFieldAddr 65 v7_1 0) w fun v8_1 w =>
  C.step (sLoad 22 v8_1) w fun v9_1 w =>
  C.step (sBuiltin .len #[22] 3 [false] [v9_1]) w fun v10_1 w =>
  Q v10_1 w)
theorem enc_Reader_Left_eq (C : Comb) (a0 : Value) (w : World) (Q : Value → World → Prop) : enc_Reader_Left_x C a0 w Q = FunY Try.prog C 2 Try.f19 [a0] w Q := by kernel_rfl
theorem enc_Reader_Left_sound (a0 : Value) {w : World} {Q : Value → World → Prop} (h : enc_Reader_Left_x (std Try.prog) a0 w Q) : CallsR Try.prog 19 #[a0] w Q :=
  calls_of_funY mixed Try.func19 (Eq.mp (enc_Reader_Left_eq _ a0 w Q) h)

def enc_Reader_Fail_x (C : Comb) (a0 : Value) (a1 : Value) (w : World) (Q : Value → World → Prop) : Prop :=
  C.step (sBin .neq 23 (.tmp 4) (.const (.pointer none)) a0 (.pointer none)) w fun v5_1 w =>
  C.bool v5_1
  (C.step (sNil a0) w fun v8_1 w =>
  C.step (sFieldAddr 67 v8_1 1) w fun v9_1 w =>
  C.step (sLoad 41 v9_1) w fun v10_1 w =>
  C.step (sBin .eql 41 (.tmp 10) (.const (.int .i64 0)) v10_1 (.int .i64 0)) w fun v11_1 w =>
  C.bool v11_1
  (C.step (sNil a0) w fun v15_1 w =>
  C.step (sFieldAddr 67 v15_1 1) w fun v16_1 w =>
  C.step (sStore 41 v16_1 a1) w fun vx_1 w =>
  Q (.tuple #[]) w)
  (Q (.tuple #[]) w))
  (Q (.tuple #[]) w)
theorem enc_Reader_Fail_eq (C : Comb) (a0 : Value) (a1 : Value) (w : World) (Q : Value → World → Prop) : enc_Reader_Fail_x C a0 a1 w Q = FunY Try.prog C 4 Try.f20 [a0, a1] w Q := by kernel_rfl
theorem enc_Reader_Fail_sound (a0 : Value) (a1 : Value) {w : World} {Q : Value → World → Prop} (h : enc_Reader_Fail_x (std Try.prog) a0 a1 w Q) : CallsR Try.prog 20 #[a0, a1] w Q :=
  calls_of_funY mixed Try.func20 (Eq.mp (enc_Reader_Fail_eq _ a0 a1 w Q) h)

def flotillaref01_Take_k1 (C : Comb) (a1 : Value) (v2_1 : Value) (v4_1 : Value) (u6_1 : Value) (w : World) (Q : Value → World → Prop) : Prop :=
  C.step (sFieldAddr 48 v2_1 1) w fun v35_1 w =>
  C.step (sLoad 3 v35_1) w fun v36_1 w =>
  C.step (sBin .add 3 (.tmp 36) (.tmp 37) v36_1 a1) w fun v38_1 w =>
  C.step (sFieldAddr 48 v2_1 1) w fun v39_1 w =>
  C.step (sStore 3 v39_1 v38_1) w fun vx_4 w =>
  C.step (sLoad 48 v2_1) w fun v40_1 w =>
  C.step (sStore 48 v4_1 v40_1) w fun vx_5 w =>
  C.loadR 48 v4_1 w fun r_3 =>
  Q (.tuple #[r_3, u6_1]) w
def flotillaref01_Take_x (C : Comb) (a0 : Value) (a1 : Value) (w : World) (Q : Value → World → Prop) : Prop :=
  C.step (sBox 48 a0) w fun v2_1 w =>
  C.step (sAlloc 48) w fun v4_1 w =>
  C.step (sFieldAddr 48 v2_1 2) w fun v8_1 w =>
  C.step (sLoad 41 v8_1) w fun v9_1 w =>
  C.step (sBin .neq 41 (.tmp 9) (.const (.int .i64 0)) v9_1 (.int .i64 0)) w fun v10_1 w =>
  C.bool v10_1
  (C.step (sLoad 48 v2_1) w fun v11_1 w =>
  C.step (sStore 48 v4_1 v11_1) w fun vx_1 w =>
  C.loadR 48 v4_1 w fun r_1 =>
  Q (.tuple #[r_1, (.int .u64 0)]) w)
  (C.step (sLoad 48 v2_1) w fun v12_1 w =>
  C.calls 27 #[v12_1] w fun v13_1 w =>
  C.step (sBin .lss 3 (.tmp 13) (.tmp 14) v13_1 a1) w fun v15_1 w =>
  C.bool v15_1
  (C.step (sFieldAddr 48 v2_1 2) w fun v16_1 w =>
  C.step (sStore 41 v16_1 (.int .i64 4)) w fun vx_2 w =>
  C.step (sLoad 48 v2_1) w fun v17_1 w =>
  C.step (sStore 48 v4_1 v17_1) w fun vx_3 w =>
  C.loadR 48 v4_1 w fun r_2 =>
  Q (.tuple #[r_2, (.int .u64 0)]) w)
  (C.step (sBin .sub 3 (.tmp 18) (.const (.int .i64 1)) a1 (.int .i64 1)) w fun v19_1 w =>
  C.loop [(.int .u64 0), v19_1] w fun dv_1 vs_1 w again_1 =>
  C.step (sBin .geq 3 (.tmp 20) (.const (.int .i64 0)) (vs_1.getD 1 undef) (.int .i64 0)) w fun v21_1 w =>
  C.bool v21_1
  (C.step (sBin .mul 34 (.const (.int .u64 256)) (.tmp 24) (.int .u64 256) (vs_1.getD 0 undef)) w fun v25_1 w =>
  C.step (sFieldAddr 48 v2_1 0) w fun v26_1 w =>
  C.step (sLoad 9 v26_1) w fun v27_1 w =>
  C.step (sFieldAddr 48 v2_1 1) w fun v28_1 w =>
  C.step (sLoad 3 v28_1) w fun v29_1 w =>
  C.step (sBin .add 3 (.tmp 29) (.tmp 30) v29_1 (vs_1.getD 1 undef)) w fun v31_1 w =>
  C.step (sIndex 9 v27_1 v31_1) w fun v32_1 w =>
  C.step (sConv 5 34 v32_1) w fun v33_1 w =>
  C.step (sBin .add 34 (.tmp 25) (.tmp 33) v25_1 v33_1) w fun v34_1 w =>
  C.step (sBin .sub 3 (.tmp 22) (.const (.int .i64 1)) (vs_1.getD 1 undef) (.int .i64 1)) w fun v23_1 w =>
  again_1 [v34_1, v23_1] w)
  (flotillaref01_Take_k1 C a1 v2_1 v4_1 (vs_1.getD 0 undef) w Q)))
theorem flotillaref01_Take_eq (C : Comb) (a0 : Value) (a1 : Value) (w : World) (Q : Value → World → Prop) : flotillaref01_Take_x C a0 a1 w Q = FunY Try.prog C 8 Try.f21 [a0, a1] w Q := by kernel_rfl
theorem flotillaref01_Take_sound (a0 : Value) (a1 : Value) {w : World} {Q : Value → World → Prop} (h : flotillaref01_Take_x (std Try.prog) a0 a1 w Q) : CallsR Try.prog 21 #[a0, a1] w Q :=
  calls_of_funY mixed Try.func21 (Eq.mp (flotillaref01_Take_eq _ a0 a1 w Q) h)

def enc_Reader_Two_x (C : Comb) (a0 : Value) (w : World) (Q : Value → World → Prop) : Prop :=
  C.calls 29 #[a0, (.int .i64 2)] w fun v4_1 w =>
  C.step (sConv 34 53 v4_1) w fun v5_1 w =>
  Q v5_1 w
theorem enc_Reader_Two_eq (C : Comb) (a0 : Value) (w : World) (Q : Value → World → Prop) : enc_Reader_Two_x C a0 w Q = FunY Try.prog C 2 Try.f22 [a0] w Q := by kernel_rfl
theorem enc_Reader_Two_sound (a0 : Value) {w : World} {Q : Value → World → Prop} (h : enc_Reader_Two_x (std Try.prog) a0 w Q) : CallsR Try.prog 22 #[a0] w Q :=
  calls_of_funY mixed Try.func22 (Eq.mp (enc_Reader_Two_eq _ a0 w Q) h)

def enc_Reader_Four_x (C : Comb) (a0 : Value) (w : World) (Q : Value → World → Prop) : Prop :=
  C.calls 29 #[a0, (.int .i64 4)] w fun v4_1 w =>
  C.step (sConv 34 55 v4_1) w fun v5_1 w =>
  Q v5_1 w
theorem enc_Reader_Four_eq (C : Comb) (a0 : Value) (w : World) (Q : Value → World → Prop) : enc_Reader_Four_x C a0 w Q = FunY Try.prog C 2 Try.f23 [a0] w Q := by kernel_rfl
theorem enc_Reader_Four_sound (a0 : Value) {w : World} {Q : Value → World → Prop} (h : enc_Reader_Four_x (std Try.prog) a0 w Q) : CallsR Try.prog 23 #[a0] w Q :=
  calls_of_funY mixed Try.func23 (Eq.mp (enc_Reader_Four_eq _ a0 w Q) h)

def enc_Reader_Eight_x (C : Comb) (a0 : Value) (w : World) (Q : Value → World → Prop) : Prop :=
  C.calls 29 #[a0, (.int .i64 8)] w fun v4_1 w =>
  Q v4_1 w
theorem enc_Reader_Eight_eq (C : Comb) (a0 : Value) (w : World) (Q : Value → World → Prop) : enc_Reader_Eight_x C a0 w Q = FunY Try.prog C 2 Try.f24 [a0] w Q := by kernel_rfl
theorem enc_Reader_Eight_sound (a0 : Value) {w : World} {Q : Value → World → Prop} (h : enc_Reader_Eight_x (std Try.prog) a0 w Q) : CallsR Try.prog 24 #[a0] w Q :=
  calls_of_funY mixed Try.func24 (Eq.mp (enc_Reader_Eight_eq _ a0 w Q) h)

def flotillaref01_TakeText_k1 (C : Comb) (v2_1 : Value) (v4_1 : Value) (v12_1 : Value) (v6_1 : Value) (u1_1 : Value) (w : World) (Q : Value → World → Prop) : Prop :=
  C.step (sConv 34 3 v12_1) w fun v20_1 w =>
  C.step (sBin .gtr 3 (.tmp 20) (.tmp 21) v20_1 u1_1) w fun v22_1 w =>
  C.bool v22_1
  (C.step (sFieldAddr 48 v2_1 2) w fun v23_1 w =>
  C.step (sStore 41 v23_1 (.int .i64 3)) w fun vx_3 w =>
  C.step (sLoad 48 v2_1) w fun v24_1 w =>
  C.step (sStore 48 v4_1 v24_1) w fun vx_4 w =>
  C.loadR 48 v4_1 w fun r_2 =>
  Q (.tuple #[r_2, (.string ⟨#[]⟩)]) w)
  (C.step (sLoad 48 v6_1) w fun v25_1 w =>
  C.calls 27 #[v25_1] w fun v26_1 w =>
  C.step (sConv 34 3 v12_1) w fun v28_1 w =>
  C.step (sBin .lss 3 (.tmp 26) (.tmp 28) v26_1 v28_1) w fun v29_1 w =>
  C.bool v29_1
  (C.step (sFieldAddr 48 v2_1 2) w fun v30_1 w =>
  C.step (sStore 41 v30_1 (.int .i64 4)) w fun vx_5 w =>
  C.step (sLoad 48 v2_1) w fun v31_1 w =>
  C.step (sStore 48 v4_1 v31_1) w fun vx_6 w =>
  C.loadR 48 v4_1 w fun r_3 =>
  Q (.tuple #[r_3, (.string ⟨#[]⟩)]) w)
  (C.step (sFieldAddr 48 v6_1 1) w fun v32_1 w =>
  C.step (sLoad 3 v32_1) w fun v33_1 w =>
  C.step (sConv 34 3 v12_1) w fun v35_1 w =>
  C.step (sBin .add 3 (.tmp 33) (.tmp 35) v33_1 v35_1) w fun v36_1 w =>
  C.step (sFieldAddr 48 v6_1 1) w fun v37_1 w =>
  C.step (sStore 3 v37_1 v36_1) w fun vx_7 w =>
  C.draw w fun S_1 w =>
  C.stepS S_1 (sLoad 48 v6_1) fun v38_1 =>
  C.stepS S_1 (sFieldAddr 48 v2_1 0) fun v39_1 =>
  C.stepS S_1 (sLoad 9 v39_1) fun v40_1 =>
  C.stepS S_1 (sFieldAddr 48 v6_1 1) fun v41_1 =>
  C.stepS S_1 (sLoad 3 v41_1) fun v42_1 =>
  C.stepS S_1 (sConv 34 3 v12_1) fun v44_1 =>
  C.stepS S_1 (sBin .sub 3 (.tmp 42) (.tmp 44) v42_1 v44_1) fun v45_1 =>
  C.stepS S_1 (sFieldAddr 48 v6_1 1) fun v46_1 =>
  C.stepS S_1 (sLoad 3 v46_1) fun v47_1 =>
  C.stepS S_1 (sSlice 9 v40_1 (some v45_1) (some v47_1) none) fun v48_1 =>
  C.step (sStore 48 v4_1 v38_1) w fun vx_8 w =>
  C.keepS S_1 w fun S_2 =>
  C.loadR 48 v4_1 w fun r_4 =>
  Q (.tuple #[r_4, v48_1]) w))
def flotillaref01_TakeText_x (C : Comb) (a0 : Value) (a1 : Value) (w : World) (Q : Value → World → Prop) : Prop :=
  C.step (sBox 48 a0) w fun v2_1 w =>
  C.step (sAlloc 48) w fun v4_1 w =>
  C.step (sLoad 48 v2_1) w fun v9_1 w =>
  C.calls 21 #[v9_1, (.int .i64 2)] w fun v10_1 w =>
  C.step (sExtract v10_1 0) w fun v11_1 w =>
  C.step (sExtract v10_1 1) w fun v12_1 w =>
  C.step (sAlloc 48) w fun v6_1 w =>
  C.step (sStore 48 v6_1 v11_1) w fun vx_1 w =>
  C.step (sFieldAddr 48 v6_1 2) w fun v13_1 w =>
  C.step (sLoad 41 v13_1) w fun v14_1 w =>
  C.step (sBin .neq 41 (.tmp 14) (.const (.int .i64 0)) v14_1 (.int .i64 0)) w fun v15_1 w =>
  C.bool v15_1
  (C.step (sLoad 48 v6_1) w fun v16_1 w =>
  C.step (sStore 48 v4_1 v16_1) w fun vx_2 w =>
  C.loadR 48 v4_1 w fun r_1 =>
  Q (.tuple #[r_1, (.string ⟨#[]⟩)]) w)
  (C.step (sBin .lss 3 (.tmp 17) (.const (.int .i64 0)) a1 (.int .i64 0)) w fun v18_1 w =>
  C.bool v18_1
  (flotillaref01_TakeText_k1 C v2_1 v4_1 v12_1 v6_1 (.int .i64 0) w Q)
  (flotillaref01_TakeText_k1 C v2_1 v4_1 v12_1 v6_1 a1 w Q))
theorem flotillaref01_TakeText_eq (C : Comb) (a0 : Value) (a1 : Value) (w : World) (Q : Value → World → Prop) : flotillaref01_TakeText_x C a0 a1 w Q = FunY Try.prog C 8 Try.f25 [a0, a1] w Q := by kernel_rfl
theorem flotillaref01_TakeText_sound (a0 : Value) (a1 : Value) {w : World} {Q : Value → World → Prop} (h : flotillaref01_TakeText_x (std Try.prog) a0 a1 w Q) : CallsR Try.prog 25 #[a0, a1] w Q :=
  calls_of_funY mixed Try.func25 (Eq.mp (flotillaref01_TakeText_eq _ a0 a1 w Q) h)

def enc_Reader_Text_k1 (C : Comb) (a0 : Value) (v21_1 : Value) (v24_1 : Value) (w : World) (Q : Value → World → Prop) : Prop :=
  C.calls 38 #[a0, v24_1] w fun v41_1 w =>
  C.step (sConv 22 9 v41_1) w fun v42_1 w =>
  C.step (sNil a0) w fun v44_1 w =>
  C.step (sFieldAddr 67 v44_1 1) w fun v45_1 w =>
  C.step (sLoad 41 v45_1) w fun v46_1 w =>
  C.step (sBin .neq 41 (.tmp 46) (.const (.int .i64 0)) v46_1 (.int .i64 0)) w fun v47_1 w =>
  C.bool v47_1
  (C.step (sNil a0) w fun v50_1 w =>
  C.step (sFieldAddr 67 v50_1 0) w fun v51_1 w =>
  C.step (sFieldAddr 65 v51_1 0) w fun v52_1 w =>
  C.step (sStore 22 v52_1 v21_1) w fun vx_1 w =>
  Q (.string ⟨#[]⟩) w)
  (Q v42_1 w)
def enc_Reader_Text_x (C : Comb) (a0 : Value) (a1 : Value) (w : World) (Q : Value → World → Prop) : Prop :=
  C.step (sBin .eql 23 (.tmp 8) (.const (.pointer none)) a0 (.pointer none)) w fun v9_1 w =>
  C.bool v9_1
  (Q (.string ⟨#[]⟩) w)
  (C.step (sNil a0) w fun v12_1 w =>
  C.step (sFieldAddr 67 v12_1 1) w fun v13_1 w =>
  C.step (sLoad 41 v13_1) w fun v14_1 w =>
  C.step (sBin .neq 41 (.tmp 14) (.const (.int .i64 0)) v14_1 (.int .i64 0)) w fun v15_1 w =>
  C.bool v15_1
  (Q (.string ⟨#[]⟩) w)
  (C.step (sNil a0) w fun v18_1 w =>
  C.step (sFieldAddr 67 v18_1 0) w fun v19_1 w =>
  C.step (sFieldAddr 65 v19_1 0) w fun v20_1 w =>
  C.step (sLoad 22 v20_1) w fun v21_1 w =>
  C.calls 29 #[a0, (.int .i64 2)] w fun v23_1 w =>
  C.step (sConv 34 3 v23_1) w fun v24_1 w =>
  C.step (sNil a0) w fun v26_1 w =>
  C.step (sFieldAddr 67 v26_1 1) w fun v27_1 w =>
  C.step (sLoad 41 v27_1) w fun v28_1 w =>
  C.step (sBin .eql 41 (.tmp 28) (.const (.int .i64 0)) v28_1 (.int .i64 0)) w fun v29_1 w =>
  C.bool v29_1
  (C.step (sBuiltin .max #[3, 3] 3 [false, true] [a1, (.int .i64 0)]) w fun v33_1 w =>
  C.step (sBin .gtr 3 (.tmp 31) (.tmp 33) v24_1 v33_1) w fun v34_1 w =>
  C.bool v34_1
  (C.step (sNil a0) w fun v37_1 w =>
  C.step (sFieldAddr 67 v37_1 1) w fun v38_1 w =>
  C.step (sStore 41 v38_1 (.int .i64 3)) w fun vx_2 w =>
  enc_Reader_Text_k1 C a0 v21_1 v24_1 w Q)
  (enc_Reader_Text_k1 C a0 v21_1 v24_1 w Q))
  (enc_Reader_Text_k1 C a0 v21_1 v24_1 w Q)))
theorem enc_Reader_Text_eq (C : Comb) (a0 : Value) (a1 : Value) (w : World) (Q : Value → World → Prop) : enc_Reader_Text_x C a0 a1 w Q = FunY Try.prog C 8 Try.f26 [a0, a1] w Q := by kernel_rfl
theorem enc_Reader_Text_sound (a0 : Value) (a1 : Value) {w : World} {Q : Value → World → Prop} (h : enc_Reader_Text_x (std Try.prog) a0 a1 w Q) : CallsR Try.prog 26 #[a0, a1] w Q :=
  calls_of_funY mixed Try.func26 (Eq.mp (enc_Reader_Text_eq _ a0 a1 w Q) h)

def flotillaref01_Left_x (C : Comb) (a0 : Value) (w : World) (Q : Value → World → Prop) : Prop :=
  C.step (sBox 48 a0) w fun v1_1 w =>
  C.step (sFieldAddr 48 v1_1 0) w fun v3_1 w =>
  C.step (sLoad 9 v3_1) w fun v4_1 w =>
  C.step (sBuiltin .len #[9] 3 [false] [v4_1]) w fun v5_1 w =>
  C.step (sFieldAddr 48 v1_1 1) w fun v6_1 w =>
  C.step (sLoad 3 v6_1) w fun v7_1 w =>
  C.step (sBin .sub 3 (.tmp 5) (.tmp 7) v5_1 v7_1) w fun v8_1 w =>
  Q v8_1 w
theorem flotillaref01_Left_eq (C : Comb) (a0 : Value) (w : World) (Q : Value → World → Prop) : flotillaref01_Left_x C a0 w Q = FunY Try.prog C 2 Try.f27 [a0] w Q := by kernel_rfl
theorem flotillaref01_Left_sound (a0 : Value) {w : World} {Q : Value → World → Prop} (h : flotillaref01_Left_x (std Try.prog) a0 w Q) : CallsR Try.prog 27 #[a0] w Q :=
  calls_of_funY mixed Try.func27 (Eq.mp (flotillaref01_Left_eq _ a0 w Q) h)

def flotillaref01_End_k1 (C : Comb) (v1_1 : Value) (w : World) (Q : Value → World → Prop) : Prop :=
  C.step (sFieldAddr 48 v1_1 2) w fun v11_1 w =>
  C.step (sLoad 41 v11_1) w fun v12_1 w =>
  Q v12_1 w
def flotillaref01_End_x (C : Comb) (a0 : Value) (w : World) (Q : Value → World → Prop) : Prop :=
  C.step (sBox 48 a0) w fun v1_1 w =>
  C.step (sFieldAddr 48 v1_1 2) w fun v3_1 w =>
  C.step (sLoad 41 v3_1) w fun v4_1 w =>
  C.step (sBin .eql 41 (.tmp 4) (.const (.int .i64 0)) v4_1 (.int .i64 0)) w fun v5_1 w =>
  C.bool v5_1
  (C.step (sLoad 48 v1_1) w fun v7_1 w =>
  C.calls 27 #[v7_1] w fun v8_1 w =>
  C.step (sBin .gtr 3 (.tmp 8) (.const (.int .i64 0)) v8_1 (.int .i64 0)) w fun v9_1 w =>
  C.bool v9_1
  (Q (.int .i64 5) w)
  (flotillaref01_End_k1 C v1_1 w Q))
  (flotillaref01_End_k1 C v1_1 w Q)
theorem flotillaref01_End_eq (C : Comb) (a0 : Value) (w : World) (Q : Value → World → Prop) : flotillaref01_End_x C a0 w Q = FunY Try.prog C 2 Try.f28 [a0] w Q := by kernel_rfl
theorem flotillaref01_End_sound (a0 : Value) {w : World} {Q : Value → World → Prop} (h : flotillaref01_End_x (std Try.prog) a0 w Q) : CallsR Try.prog 28 #[a0] w Q :=
  calls_of_funY mixed Try.func28 (Eq.mp (flotillaref01_End_eq _ a0 w Q) h)

def enc_Reader_num_k1 (C : Comb) (u5_1 : Value) (w : World) (Q : Value → World → Prop) : Prop :=
  Q u5_1 w
def enc_Reader_num_x (C : Comb) (a0 : Value) (a1 : Value) (w : World) (Q : Value → World → Prop) : Prop :=
  C.calls 38 #[a0, a1] w fun v10_1 w =>
  C.step (sBuiltin .len #[22] 3 [false] [v10_1]) w fun v11_1 w =>
  C.loop [undef, undef, (.int .u64 0), (.int .i64 0)] w fun dv_1 vs_1 w again_1 =>
  C.step (sBin .lss 3 (.tmp 12) (.tmp 11) (vs_1.getD 3 undef) v11_1) w fun v13_1 w =>
  C.bool v13_1
  (C.step (sIndexAddr 22 v10_1 (vs_1.getD 3 undef)) w fun v15_1 w =>
  C.step (sLoad 5 v15_1) w fun v16_1 w =>
  C.step (sConv 5 34 v16_1) w fun v19_1 w =>
  C.step (sBin .mul 3 (.const (.int .i64 8)) (.tmp 20) (.int .i64 8) (vs_1.getD 3 undef)) w fun v21_1 w =>
  C.step (sBin .shl 34 (.tmp 19) (.tmp 21) v19_1 v21_1) w fun v22_1 w =>
  C.step (sBin .add 34 (.tmp 17) (.tmp 22) (vs_1.getD 2 undef) v22_1) w fun v23_1 w =>
  C.step (sBin .add 3 (.tmp 12) (.const (.int .i64 1)) (vs_1.getD 3 undef) (.int .i64 1)) w fun v24_1 w =>
  again_1 [(vs_1.getD 3 undef), v16_1, v23_1, v24_1] w)
  (enc_Reader_num_k1 C (vs_1.getD 2 undef) w Q)
theorem enc_Reader_num_eq (C : Comb) (a0 : Value) (a1 : Value) (w : World) (Q : Value → World → Prop) : enc_Reader_num_x C a0 a1 w Q = FunY Try.prog C 8 Try.f29 [a0, a1] w Q := by kernel_rfl
theorem enc_Reader_num_sound (a0 : Value) (a1 : Value) {w : World} {Q : Value → World → Prop} (h : enc_Reader_num_x (std Try.prog) a0 a1 w Q) : CallsR Try.prog 29 #[a0, a1] w Q :=
  calls_of_funY mixed Try.func29 (Eq.mp (enc_Reader_num_eq _ a0 a1 w Q) h)

def enc_Writer_Two_x (C : Comb) (a0 : Value) (a1 : Value) (w : World) (Q : Value → World → Prop) : Prop :=
  C.step (sConv 53 34 a1) w fun v6_1 w =>
  C.calls 31 #[a0, v6_1, (.int .i64 2)] w fun v7_1 w =>
  Q (.tuple #[]) w
theorem enc_Writer_Two_eq (C : Comb) (a0 : Value) (a1 : Value) (w : World) (Q : Value → World → Prop) : enc_Writer_Two_x C a0 a1 w Q = FunY Try.prog C 4 Try.f30 [a0, a1] w Q := by kernel_rfl
theorem enc_Writer_Two_sound (a0 : Value) (a1 : Value) {w : World} {Q : Value → World → Prop} (h : enc_Writer_Two_x (std Try.prog) a0 a1 w Q) : CallsR Try.prog 30 #[a0, a1] w Q :=
  calls_of_funY mixed Try.func30 (Eq.mp (enc_Writer_Two_eq _ a0 a1 w Q) h)

def enc_Writer_num_x (C : Comb) (a0 : Value) (a1 : Value) (a2 : Value) (w : World) (Q : Value → World → Prop) : Prop :=
  C.step (sBin .eql 27 (.tmp 7) (.const (.pointer none)) a0 (.pointer none)) w fun v8_1 w =>
  C.bool v8_1
  (Q (.tuple #[]) w)
  (C.loop [undef, (.int .i64 0)] w fun dv_1 vs_1 w again_1 =>
  C.step (sBin .lss 3 (.tmp 10) (.tmp 9) (vs_1.getD 1 undef) a2) w fun v11_1 w =>
  C.bool v11_1
  (C.draw w fun S_1 w =>
  C.stepS S_1 (sNil a0) fun v15_1 =>
  C.stepS S_1 (sFieldAddr 71 v15_1 0) fun v16_1 =>
  C.stepS S_1 (sFieldAddr 65 v16_1 0) fun v17_1 =>
  C.stepS S_1 (sLoad 22 v17_1) fun v18_1 =>
  C.stepS S_1 (sBin .mul 3 (.const (.int .i64 8)) (.tmp 20) (.int .i64 8) (vs_1.getD 1 undef)) fun v21_1 =>
  C.stepS S_1 (sBin .shr 34 (.tmp 19) (.tmp 21) a1 v21_1) fun v22_1 =>
  C.stepS S_1 (sConv 34 5 v22_1) fun v23_1 =>
  C.step (sBuildSlice 22 1 [(0, v23_1)]) w fun v24_1 w =>
  C.keepS S_1 w fun S_2 =>
  C.step (sBuiltin .append #[22, 22] 22 [false, false] [v18_1, v24_1]) w fun v25_1 w =>
  C.keepS S_2 w fun S_3 =>
  C.stepS S_3 (sNil a0) fun v26_1 =>
  C.stepS S_3 (sFieldAddr 71 v26_1 0) fun v27_1 =>
  C.stepS S_3 (sFieldAddr 65 v27_1 0) fun v28_1 =>
  C.step (sStore 22 v28_1 v25_1) w fun vx_1 w =>
  C.keepT w fun S_4 =>
  C.step (sBin .add 3 (.tmp 10) (.const (.int .i64 1)) (vs_1.getD 1 undef) (.int .i64 1)) w fun v29_1 w =>
  again_1 [(vs_1.getD 1 undef), v29_1] w)
  (Q (.tuple #[]) w))
theorem enc_Writer_num_eq (C : Comb) (a0 : Value) (a1 : Value) (a2 : Value) (w : World) (Q : Value → World → Prop) : enc_Writer_num_x C a0 a1 a2 w Q = FunY Try.prog C 7 Try.f31 [a0, a1, a2] w Q := by kernel_rfl
theorem enc_Writer_num_sound (a0 : Value) (a1 : Value) (a2 : Value) {w : World} {Q : Value → World → Prop} (h : enc_Writer_num_x (std Try.prog) a0 a1 a2 w Q) : CallsR Try.prog 31 #[a0, a1, a2] w Q :=
  calls_of_funY mixed Try.func31 (Eq.mp (enc_Writer_num_eq _ a0 a1 a2 w Q) h)

def flotillalaw01_kind_x (C : Comb) (a0 : Value) (w : World) (Q : Value → World → Prop) : Prop :=
  C.step (sBox 36 a0) w fun v1_1 w =>
  C.step (sFieldAddr 36 v1_1 0) w fun v3_1 w =>
  C.step (sLoad 3 v3_1) w fun v4_1 w =>
  C.step (sConv 3 39 v4_1) w fun v5_1 w =>
  C.step (sBin .rem 39 (.tmp 5) (.const (.int .u64 5)) v5_1 (.int .u64 5)) w fun v6_1 w =>
  C.step (sConv 39 3 v6_1) w fun v7_1 w =>
  Q v7_1 w
theorem flotillalaw01_kind_eq (C : Comb) (a0 : Value) (w : World) (Q : Value → World → Prop) : flotillalaw01_kind_x C a0 w Q = FunY Try.prog C 2 Try.f32 [a0] w Q := by kernel_rfl
theorem flotillalaw01_kind_sound (a0 : Value) {w : World} {Q : Value → World → Prop} (h : flotillalaw01_kind_x (std Try.prog) a0 w Q) : CallsR Try.prog 32 #[a0] w Q :=
  calls_of_funY mixed Try.func32 (Eq.mp (flotillalaw01_kind_eq _ a0 w Q) h)

def enc_Writer_Byte_x (C : Comb) (a0 : Value) (a1 : Value) (w : World) (Q : Value → World → Prop) : Prop :=
  C.step (sConv 5 34 a1) w fun v6_1 w =>
  C.calls 31 #[a0, v6_1, (.int .i64 1)] w fun v7_1 w =>
  Q (.tuple #[]) w
theorem enc_Writer_Byte_eq (C : Comb) (a0 : Value) (a1 : Value) (w : World) (Q : Value → World → Prop) : enc_Writer_Byte_x C a0 a1 w Q = FunY Try.prog C 4 Try.f33 [a0, a1] w Q := by kernel_rfl
theorem enc_Writer_Byte_sound (a0 : Value) (a1 : Value) {w : World} {Q : Value → World → Prop} (h : enc_Writer_Byte_x (std Try.prog) a0 a1 w Q) : CallsR Try.prog 33 #[a0, a1] w Q :=
  calls_of_funY mixed Try.func33 (Eq.mp (enc_Writer_Byte_eq _ a0 a1 w Q) h)

def enc_Writer_Four_x (C : Comb) (a0 : Value) (a1 : Value) (w : World) (Q : Value → World → Prop) : Prop :=
  C.step (sConv 55 34 a1) w fun v6_1 w =>
  C.calls 31 #[a0, v6_1, (.int .i64 4)] w fun v7_1 w =>
  Q (.tuple #[]) w
theorem enc_Writer_Four_eq (C : Comb) (a0 : Value) (a1 : Value) (w : World) (Q : Value → World → Prop) : enc_Writer_Four_x C a0 a1 w Q = FunY Try.prog C 4 Try.f34 [a0, a1] w Q := by kernel_rfl
theorem enc_Writer_Four_sound (a0 : Value) (a1 : Value) {w : World} {Q : Value → World → Prop} (h : enc_Writer_Four_x (std Try.prog) a0 a1 w Q) : CallsR Try.prog 34 #[a0, a1] w Q :=
  calls_of_funY mixed Try.func34 (Eq.mp (enc_Writer_Four_eq _ a0 a1 w Q) h)

def enc_Writer_Eight_x (C : Comb) (a0 : Value) (a1 : Value) (w : World) (Q : Value → World → Prop) : Prop :=
  C.calls 31 #[a0, a1, (.int .i64 8)] w fun v6_1 w =>
  Q (.tuple #[]) w
theorem enc_Writer_Eight_eq (C : Comb) (a0 : Value) (a1 : Value) (w : World) (Q : Value → World → Prop) : enc_Writer_Eight_x C a0 a1 w Q = FunY Try.prog C 4 Try.f35 [a0, a1] w Q := by kernel_rfl
theorem enc_Writer_Eight_sound (a0 : Value) (a1 : Value) {w : World} {Q : Value → World → Prop} (h : enc_Writer_Eight_x (std Try.prog) a0 a1 w Q) : CallsR Try.prog 35 #[a0, a1] w Q :=
  calls_of_funY mixed Try.func35 (Eq.mp (enc_Writer_Eight_eq _ a0 a1 w Q) h)

def flotillaref01_Text_k1 (C : Comb) (u0_1 : Value) (w : World) (Q : Value → World → Prop) : Prop :=
  C.step (sBuiltin .len #[9] 3 [false] [u0_1]) w fun v9_1 w =>
  C.step (sConv 3 34 v9_1) w fun v10_1 w =>
  C.calls 37 #[v10_1, (.int .i64 2)] w fun v11_1 w =>
  C.step (sBin .add 9 (.tmp 11) (.tmp 12) v11_1 u0_1) w fun v13_1 w =>
  Q v13_1 w
def flotillaref01_Text_x (C : Comb) (a0 : Value) (w : World) (Q : Value → World → Prop) : Prop :=
  C.step (sBuiltin .len #[9] 3 [false] [a0]) w fun v4_1 w =>
  C.step (sBin .gtr 3 (.tmp 4) (.const (.int .i64 65535)) v4_1 (.int .i64 65535)) w fun v5_1 w =>
  C.bool v5_1
  (C.step (sSlice 9 a0 none (some (.int .i64 65535)) none) w fun v7_1 w =>
  flotillaref01_Text_k1 C v7_1 w Q)
  (flotillaref01_Text_k1 C a0 w Q)
theorem flotillaref01_Text_eq (C : Comb) (a0 : Value) (w : World) (Q : Value → World → Prop) : flotillaref01_Text_x C a0 w Q = FunY Try.prog C 2 Try.f36 [a0] w Q := by kernel_rfl
theorem flotillaref01_Text_sound (a0 : Value) {w : World} {Q : Value → World → Prop} (h : flotillaref01_Text_x (std Try.prog) a0 w Q) : CallsR Try.prog 36 #[a0] w Q :=
  calls_of_funY mixed Try.func36 (Eq.mp (flotillaref01_Text_eq _ a0 w Q) h)

def flotillaref01_Num_k1 (C : Comb) (u5_1 : Value) (w : World) (Q : Value → World → Prop) : Prop :=
  Q u5_1 w
def flotillaref01_Num_x (C : Comb) (a0 : Value) (a1 : Value) (w : World) (Q : Value → World → Prop) : Prop :=
  C.loop [(.string ⟨#[]⟩), a0, (.int .i64 0)] w fun dv_1 vs_1 w again_1 =>
  C.step (sBin .lss 3 (.tmp 7) (.tmp 8) (vs_1.getD 2 undef) a1) w fun v9_1 w =>
  C.bool v9_1
  (C.step (sBin .rem 34 (.tmp 13) (.const (.int .u64 256)) (vs_1.getD 1 undef) (.int .u64 256)) w fun v14_1 w =>
  C.step (sConv 34 5 v14_1) w fun v15_1 w =>
  C.step (sBuildSlice 22 1 [(0, v15_1)]) w fun v16_1 w =>
  C.step (sConv 22 9 v16_1) w fun v17_1 w =>
  C.step (sBin .add 9 (.tmp 12) (.tmp 17) (vs_1.getD 0 undef) v17_1) w fun v18_1 w =>
  C.step (sBin .quo 34 (.tmp 19) (.const (.int .u64 256)) (vs_1.getD 1 undef) (.int .u64 256)) w fun v20_1 w =>
  C.step (sBin .add 3 (.tmp 10) (.const (.int .i64 1)) (vs_1.getD 2 undef) (.int .i64 1)) w fun v11_1 w =>
  again_1 [v18_1, v20_1, v11_1] w)
  (flotillaref01_Num_k1 C (vs_1.getD 0 undef) w Q)
theorem flotillaref01_Num_eq (C : Comb) (a0 : Value) (a1 : Value) (w : World) (Q : Value → World → Prop) : flotillaref01_Num_x C a0 a1 w Q = FunY Try.prog C 7 Try.f37 [a0, a1] w Q := by kernel_rfl
theorem flotillaref01_Num_sound (a0 : Value) (a1 : Value) {w : World} {Q : Value → World → Prop} (h : flotillaref01_Num_x (std Try.prog) a0 a1 w Q) : CallsR Try.prog 37 #[a0, a1] w Q :=
  calls_of_funY mixed Try.func37 (Eq.mp (flotillaref01_Num_eq _ a0 a1 w Q) h)

def enc_Reader_take_x (C : Comb) (a0 : Value) (a1 : Value) (w : World) (Q : Value → World → Prop) : Prop :=
  C.step (sBin .eql 23 (.tmp 6) (.const (.pointer none)) a0 (.pointer none)) w fun v7_1 w =>
  C.bool v7_1
  (Q (.slice none 0 0) w)
  (C.step (sNil a0) w fun v10_1 w =>
  C.step (sFieldAddr 67 v10_1 1) w fun v11_1 w =>
  C.step (sLoad 41 v11_1) w fun v12_1 w =>
  C.step (sBin .neq 41 (.tmp 12) (.const (.int .i64 0)) v12_1 (.int .i64 0)) w fun v13_1 w =>
  C.bool v13_1
  (Q (.slice none 0 0) w)
  (C.step (sNil a0) w fun v16_1 w =>
  C.step (sFieldAddr 67 v16_1 0) w fun v17_1 w =>
  C.step (sFieldAddr 65 v17_1 0) w fun v18_1 w =>
  C.step (sLoad 22 v18_1) w fun v19_1 w =>
  C.step (sBuiltin .len #[22] 3 [false] [v19_1]) w fun v20_1 w =>
  C.step (sBin .lss 3 (.tmp 20) (.tmp 21) v20_1 a1) w fun v22_1 w =>
  C.bool v22_1
  (C.step (sNil a0) w fun v24_1 w =>
  C.step (sFieldAddr 67 v24_1 1) w fun v25_1 w =>
  C.step (sStore 41 v25_1 (.int .i64 4)) w fun vx_1 w =>
  Q (.slice none 0 0) w)
  (C.step (sNil a0) w fun v27_1 w =>
  C.step (sFieldAddr 67 v27_1 0) w fun v28_1 w =>
  C.step (sFieldAddr 65 v28_1 0) w fun v29_1 w =>
  C.step (sLoad 22 v29_1) w fun v30_1 w =>
  C.step (sSlice 22 v30_1 none (some a1) none) w fun v32_1 w =>
  C.step (sNil a0) w fun v35_1 w =>
  C.step (sFieldAddr 67 v35_1 0) w fun v36_1 w =>
  C.step (sFieldAddr 65 v36_1 0) w fun v37_1 w =>
  C.step (sLoad 22 v37_1) w fun v38_1 w =>
  C.step (sSlice 22 v38_1 (some a1) none none) w fun v40_1 w =>
  C.step (sNil a0) w fun v41_1 w =>
  C.step (sFieldAddr 67 v41_1 0) w fun v42_1 w =>
  C.step (sFieldAddr 65 v42_1 0) w fun v43_1 w =>
  C.step (sStore 22 v43_1 v40_1) w fun vx_2 w =>
  Q v32_1 w)))
theorem enc_Reader_take_eq (C : Comb) (a0 : Value) (a1 : Value) (w : World) (Q : Value → World → Prop) : enc_Reader_take_x C a0 a1 w Q = FunY Try.prog C 6 Try.f38 [a0, a1] w Q := by kernel_rfl
theorem enc_Reader_take_sound (a0 : Value) (a1 : Value) {w : World} {Q : Value → World → Prop} (h : enc_Reader_take_x (std Try.prog) a0 a1 w Q) : CallsR Try.prog 38 #[a0, a1] w Q :=
  calls_of_funY mixed Try.func38 (Eq.mp (enc_Reader_take_eq _ a0 a1 w Q) h)

end Go.Proofs.Ytibacmekhkaipaa
