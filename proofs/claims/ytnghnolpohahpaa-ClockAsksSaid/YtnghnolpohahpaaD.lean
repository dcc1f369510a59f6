/- Functions of the program, read as statements without slots. Written by a program of this work. -/
import Derived.Test.YtnghnolpohahpaaXf
import Derived.Test.YtnghnolpohahpaaProg
import Derived.KernelRfl
namespace Go.Proofs.Ytnghnolpohahpaa
open Go Xf
set_option maxRecDepth 100000
set_option linter.unusedVariables false

theorem mixed : Try.prog.follows .mixedOrders = true := by kernel_rfl

def flotillalaw14_ClockNews_k1 (C : Comb) (w : World) (Q : Value → World → Prop) : Prop :=
  Q (.bool false) w
def flotillalaw14_ClockNews_k2 (C : Comb) (w : World) (Q : Value → World → Prop) : Prop :=
  Q (.bool false) w
def flotillalaw14_ClockNews_k3 (C : Comb) (w : World) (Q : Value → World → Prop) : Prop :=
  Q (.bool false) w
def flotillalaw14_ClockNews_k4 (C : Comb) (w : World) (Q : Value → World → Prop) : Prop :=
  C.calls 10 #[] w fun v62_1 w =>
  Q v62_1 w
def flotillalaw14_ClockNews_x (C : Comb) (a0 : Value) (w : World) (Q : Value → World → Prop) : Prop :=
  C.calls 9 #[a0] w fun v8_1 w =>
  C.step (sExtract v8_1 0) w fun v9_1 w =>
  C.step (sExtract v8_1 1) w fun v10_1 w =>
  C.step (sAlloc 24) w fun v3_1 w =>
  C.step (sStore 24 v3_1 v9_1) w fun vx_1 w =>
  C.step (sBin .lss 3 (.tmp 11) (.const (.int .i64 1)) a0 (.int .i64 1)) w fun v12_1 w =>
  C.bool v12_1
  (C.step (sBin .eql 25 (.tmp 17) (.const (.int .i64 1)) v10_1 (.int .i64 1)) w fun v18_1 w =>
  C.bool v18_1
  (C.step (sFieldAddr 24 v3_1 0) w fun v20_1 w =>
  C.step (sLoad 22 v20_1) w fun v21_1 w =>
  C.step (sBuiltin .len #[22] 3 [false] [v21_1]) w fun v22_1 w =>
  C.step (sFieldAddr 24 v3_1 1) w fun v23_1 w =>
  C.step (sLoad 3 v23_1) w fun v24_1 w =>
  C.step (sBin .add 3 (.tmp 22) (.tmp 24) v22_1 v24_1) w fun v25_1 w =>
  C.step (sBin .eql 3 (.tmp 25) (.const (.int .i64 0)) v25_1 (.int .i64 0)) w fun v26_1 w =>
  C.bool v26_1
  (C.calls 10 #[] w fun v29_1 w =>
  Q v29_1 w)
  (flotillalaw14_ClockNews_k1 C w Q))
  (flotillalaw14_ClockNews_k1 C w Q))
  (C.step (sBin .gtr 3 (.tmp 14) (.const (.int .i64 16)) a0 (.int .i64 16)) w fun v15_1 w =>
  C.bool v15_1
  (C.step (sBin .eql 25 (.tmp 17) (.const (.int .i64 1)) v10_1 (.int .i64 1)) w fun v18_2 w =>
  C.bool v18_2
  (C.step (sFieldAddr 24 v3_1 0) w fun v20_2 w =>
  C.step (sLoad 22 v20_2) w fun v21_2 w =>
  C.step (sBuiltin .len #[22] 3 [false] [v21_2]) w fun v22_2 w =>
  C.step (sFieldAddr 24 v3_1 1) w fun v23_2 w =>
  C.step (sLoad 3 v23_2) w fun v24_2 w =>
  C.step (sBin .add 3 (.tmp 22) (.tmp 24) v22_2 v24_2) w fun v25_2 w =>
  C.step (sBin .eql 3 (.tmp 25) (.const (.int .i64 0)) v25_2 (.int .i64 0)) w fun v26_2 w =>
  C.bool v26_2
  (C.calls 10 #[] w fun v29_2 w =>
  Q v29_2 w)
  (flotillalaw14_ClockNews_k2 C w Q))
  (flotillalaw14_ClockNews_k2 C w Q))
  (C.step (sBin .neq 25 (.tmp 31) (.const (.int .i64 0)) v10_1 (.int .i64 0)) w fun v32_1 w =>
  C.bool v32_1
  (flotillalaw14_ClockNews_k3 C w Q)
  (C.step (sFieldAddr 24 v3_1 0) w fun v34_1 w =>
  C.step (sLoad 22 v34_1) w fun v35_1 w =>
  C.step (sBuiltin .len #[22] 3 [false] [v35_1]) w fun v36_1 w =>
  C.step (sBin .neq 3 (.tmp 36) (.tmp 37) v36_1 a0) w fun v38_1 w =>
  C.bool v38_1
  (flotillalaw14_ClockNews_k3 C w Q)
  (C.step (sFieldAddr 24 v3_1 1) w fun v41_1 w =>
  C.step (sLoad 3 v41_1) w fun v42_1 w =>
  C.step (sBin .neq 3 (.tmp 42) (.const (.int .i64 0)) v42_1 (.int .i64 0)) w fun v43_1 w =>
  C.bool v43_1
  (flotillalaw14_ClockNews_k3 C w Q)
  (C.step (sLoad 24 v3_1) w fun v46_1 w =>
  C.calls 11 #[v46_1] w fun v47_1 w =>
  C.step (sBin .neq 25 (.tmp 47) (.const (.int .i64 0)) v47_1 (.int .i64 0)) w fun v48_1 w =>
  C.bool v48_1
  (Q (.bool false) w)
  (C.loop [(.bool false), (.int .i64 0)] w fun dv_1 vs_1 w again_1 =>
  C.step (sBin .lss 3 (.tmp 50) (.tmp 51) (vs_1.getD 1 undef) a0) w fun v52_1 w =>
  C.bool v52_1
  (C.step (sFieldAddr 24 v3_1 0) w fun v55_1 w =>
  C.step (sLoad 22 v55_1) w fun v56_1 w =>
  C.step (sIndexAddr 22 v56_1 (vs_1.getD 1 undef)) w fun v58_1 w =>
  C.step (sLoad 31 v58_1) w fun v59_1 w =>
  C.step (sBuild 31 [(0, (.int .i64 (-1)))]) w fun v60_1 w =>
  C.step (sBin .neq 31 (.tmp 59) (.tmp 60) v59_1 v60_1) w fun v61_1 w =>
  C.bool v61_1
  (Q (.bool false) w)
  (C.step (sBin .add 3 (.tmp 53) (.const (.int .i64 1)) (vs_1.getD 1 undef) (.int .i64 1)) w fun v54_1 w =>
  again_1 [(vs_1.getD 0 undef), v54_1] w))
  (flotillalaw14_ClockNews_k4 C w Q)))))))
theorem flotillalaw14_ClockNews_eq (C : Comb) (a0 : Value) (w : World) (Q : Value → World → Prop) : flotillalaw14_ClockNews_x C a0 w Q = FunY Try.prog C 6 Try.f3 [a0] w Q := by kernel_rfl
theorem flotillalaw14_ClockNews_sound (a0 : Value) {w : World} {Q : Value → World → Prop} (h : flotillalaw14_ClockNews_x (std Try.prog) a0 w Q) : CallsR Try.prog 3 #[a0] w Q :=
  calls_of_funY mixed Try.func3 (Eq.mp (flotillalaw14_ClockNews_eq _ a0 w Q) h)

def flotillalaw14_ClockAsks_k1 (C : Comb) (w : World) (Q : Value → World → Prop) : Prop :=
  Q (.bool false) w
def flotillalaw14_ClockAsks_x (C : Comb) (a0 : Value) (a1 : Value) (w : World) (Q : Value → World → Prop) : Prop :=
  C.step (sBox 24 a0) w fun v2_1 w =>
  C.step (sBox 34 a1) w fun v3_1 w =>
  C.step (sFieldAddr 24 v2_1 0) w fun v7_1 w =>
  C.step (sLoad 22 v7_1) w fun v8_1 w =>
  C.step (sBuiltin .len #[22] 3 [false] [v8_1]) w fun v9_1 w =>
  C.step (sBin .gtr 3 (.tmp 9) (.const (.int .i64 100)) v9_1 (.int .i64 100)) w fun v10_1 w =>
  C.bool v10_1
  (C.step (sLoad 24 v2_1) w fun v11_1 w =>
  C.calls 11 #[v11_1] w fun v12_1 w =>
  C.step (sBin .eql 25 (.tmp 12) (.const (.int .i64 1)) v12_1 (.int .i64 1)) w fun v13_1 w =>
  C.bool v13_1
  (C.calls 10 #[] w fun v15_1 w =>
  Q v15_1 w)
  (Q (.bool false) w))
  (C.step (sLoad 24 v2_1) w fun v18_1 w =>
  C.step (sLoad 34 v3_1) w fun v19_1 w =>
  C.calls 12 #[v18_1, v19_1] w fun v20_1 w =>
  C.step (sExtract v20_1 0) w fun v21_1 w =>
  C.step (sExtract v20_1 1) w fun v22_1 w =>
  C.step (sAlloc 24) w fun v5_1 w =>
  C.step (sStore 24 v5_1 v21_1) w fun vx_1 w =>
  C.draw w fun S_1 w =>
  C.bool v22_1
  (C.stepS S_1 (sLoad 24 v2_1) fun v25_1 =>
  C.stepS S_1 (sLoad 24 v2_1) fun v29_1 =>
  C.calls 13 #[v25_1] w fun v26_1 w =>
  C.keepS S_1 w fun S_2 =>
  C.calls 11 #[v26_1] w fun v27_1 w =>
  C.keepS S_2 w fun S_3 =>
  C.stepS S_3 (sBin .eql 25 (.tmp 27) (.const (.int .i64 0)) v27_1 (.int .i64 0)) fun v28_1 =>
  C.calls 14 #[v29_1] w fun v30_1 w =>
  C.keepS S_3 w fun S_4 =>
  C.stepS S_4 (sBin .eql 4 (.tmp 28) (.tmp 30) v28_1 v30_1) fun v31_1 =>
  C.bool v31_1
  (C.calls 10 #[] w fun v34_1 w =>
  C.keepT w fun S_5 =>
  Q v34_1 w)
  (flotillalaw14_ClockAsks_k1 C w Q))
  (flotillalaw14_ClockAsks_k1 C w Q))
theorem flotillalaw14_ClockAsks_eq (C : Comb) (a0 : Value) (a1 : Value) (w : World) (Q : Value → World → Prop) : flotillalaw14_ClockAsks_x C a0 a1 w Q = FunY Try.prog C 7 Try.f4 [a0, a1] w Q := by kernel_rfl
theorem flotillalaw14_ClockAsks_sound (a0 : Value) (a1 : Value) {w : World} {Q : Value → World → Prop} (h : flotillalaw14_ClockAsks_x (std Try.prog) a0 a1 w Q) : CallsR Try.prog 4 #[a0, a1] w Q :=
  calls_of_funY mixed Try.func4 (Eq.mp (flotillalaw14_ClockAsks_eq _ a0 a1 w Q) h)

def flotillalaw14_ClockPlays_k1 (C : Comb) (u4_1 : Value) (w : World) (Q : Value → World → Prop) : Prop :=
  Q u4_1 w
def flotillalaw14_ClockPlays_k2 (C : Comb) (w : World) (Q : Value → World → Prop) : Prop :=
  C.calls 10 #[] w fun v53_1 w =>
  Q v53_1 w
def flotillalaw14_ClockPlays_k3 (C : Comb) (v5_1 : Value) (vs_1 : List Value) (again_1 : List Value → World → Prop) (u8_3 : Value) (u9_3 : Value) (w : World) (Q : Value → World → Prop) : Prop :=
  C.step (sUn .not u9_3) w fun v46_1 w =>
  C.bool v46_1
  (Q (.bool false) w)
  (C.step (sLoad 24 u8_3) w fun v48_1 w =>
  C.calls 11 #[v48_1] w fun v49_1 w =>
  C.step (sBin .neq 25 (.tmp 49) (.const (.int .i64 0)) v49_1 (.int .i64 0)) w fun v50_1 w =>
  C.bool v50_1
  (Q (.bool false) w)
  (C.step (sLoad 24 u8_3) w fun v52_1 w =>
  C.step (sStore 24 v5_1 v52_1) w fun vx_2 w =>
  C.step (sBin .add 3 (.tmp 34) (.const (.int .i64 1)) (vs_1.getD 3 undef) (.int .i64 1)) w fun v35_1 w =>
  again_1 [u8_3, u9_3, (vs_1.getD 2 undef), v35_1] w))
def flotillalaw14_ClockPlays_x (C : Comb) (a0 : Value) (a1 : Value) (w : World) (Q : Value → World → Prop) : Prop :=
  C.calls 9 #[a0] w fun v12_1 w =>
  C.step (sExtract v12_1 0) w fun v13_1 w =>
  C.step (sExtract v12_1 1) w fun v14_1 w =>
  C.step (sAlloc 24) w fun v5_1 w =>
  C.step (sStore 24 v5_1 v13_1) w fun vx_1 w =>
  C.step (sBin .neq 25 (.tmp 15) (.const (.int .i64 0)) v14_1 (.int .i64 0)) w fun v16_1 w =>
  C.bool v16_1
  (C.step (sBin .lss 3 (.tmp 17) (.const (.int .i64 1)) a0 (.int .i64 1)) w fun v18_1 w =>
  C.bool v18_1
  (C.calls 10 #[] w fun v24_1 w =>
  flotillalaw14_ClockPlays_k1 C v24_1 w Q)
  (C.step (sBin .gtr 3 (.tmp 20) (.const (.int .i64 16)) a0 (.int .i64 16)) w fun v21_1 w =>
  C.bool v21_1
  (C.calls 10 #[] w fun v24_2 w =>
  flotillalaw14_ClockPlays_k1 C v24_2 w Q)
  (Q (.bool false) w)))
  (C.loop [undef, undef, (.bool false), (.int .i64 0)] w fun dv_1 vs_1 w again_1 =>
  C.step (sBuiltin .len #[40] 3 [false] [a1]) w fun v28_1 w =>
  C.step (sBin .lss 3 (.tmp 26) (.tmp 28) (vs_1.getD 3 undef) v28_1) w fun v29_1 w =>
  C.bool v29_1
  (C.step (sBin .lss 3 (.tmp 31) (.const (.int .i64 120)) (vs_1.getD 3 undef) (.int .i64 120)) w fun v32_1 w =>
  C.bool v32_1
  (C.draw w fun S_1 w =>
  C.stepS S_1 (sLoad 24 v5_1) fun v37_1 =>
  C.stepS S_1 (sIndexAddr 40 a1 (vs_1.getD 3 undef)) fun v40_1 =>
  C.stepS S_1 (sLoad 34 v40_1) fun v41_1 =>
  (C.calls 12 #[v37_1, v41_1] w fun v42_1 w =>
  C.keepT w fun S_2 =>
  C.stepS S_2 (sExtract v42_1 0) fun v43_1 =>
  C.stepS S_2 (sExtract v42_1 1) fun v44_1 =>
  C.step (sAlloc 24) w fun v8_1 w =>
  C.keepS S_2 w fun S_3 =>
  C.step (sStore 24 v8_1 v43_1) w fun vx_3 w =>
  C.keepS S_3 w fun S_4 =>
  flotillalaw14_ClockPlays_k3 C v5_1 vs_1 again_1 v8_1 v44_1 w Q) ∧
  (C.step (sAlloc 24) w fun v8_2 w =>
  C.keepS S_1 w fun S_5 =>
  C.calls 12 #[v37_1, v41_1] w fun v42_2 w =>
  C.keepT w fun S_6 =>
  C.stepS S_6 (sExtract v42_2 0) fun v43_2 =>
  C.stepS S_6 (sExtract v42_2 1) fun v44_2 =>
  C.step (sStore 24 v8_2 v43_2) w fun vx_4 w =>
  C.keepS S_6 w fun S_7 =>
  flotillalaw14_ClockPlays_k3 C v5_1 vs_1 again_1 v8_2 v44_2 w Q))
  (flotillalaw14_ClockPlays_k2 C w Q))
  (flotillalaw14_ClockPlays_k2 C w Q))
theorem flotillalaw14_ClockPlays_eq (C : Comb) (a0 : Value) (a1 : Value) (w : World) (Q : Value → World → Prop) : flotillalaw14_ClockPlays_x C a0 a1 w Q = FunY Try.prog C 10 Try.f5 [a0, a1] w Q := by kernel_rfl
theorem flotillalaw14_ClockPlays_sound (a0 : Value) (a1 : Value) {w : World} {Q : Value → World → Prop} (h : flotillalaw14_ClockPlays_x (std Try.prog) a0 a1 w Q) : CallsR Try.prog 5 #[a0, a1] w Q :=
  calls_of_funY mixed Try.func5 (Eq.mp (flotillalaw14_ClockPlays_eq _ a0 a1 w Q) h)

def flotillalaw14_ClockSpares_k1 (C : Comb) (u4_1 : Value) (w : World) (Q : Value → World → Prop) : Prop :=
  Q u4_1 w
def flotillalaw14_ClockSpares_k2 (C : Comb) (w : World) (Q : Value → World → Prop) : Prop :=
  Q (.bool false) w
def flotillalaw14_ClockSpares_k3 (C : Comb) (w : World) (Q : Value → World → Prop) : Prop :=
  Q (.bool false) w
def flotillalaw14_ClockSpares_k4 (C : Comb) (w : World) (Q : Value → World → Prop) : Prop :=
  C.calls 10 #[] w fun v134_1 w =>
  Q v134_1 w
def flotillalaw14_ClockSpares_k5 (C : Comb) (vs_1 : List Value) (again_1 : List Value → World → Prop) (w : World) (Q : Value → World → Prop) : Prop :=
  C.step (sBin .add 3 (.tmp 87) (.const (.int .i64 1)) (vs_1.getD 0 undef) (.int .i64 1)) w fun v88_1 w =>
  again_1 [v88_1] w
def flotillalaw14_ClockSpares_k6 (C : Comb) (w : World) (Q : Value → World → Prop) : Prop :=
  Q (.bool false) w
def flotillalaw14_ClockSpares_x (C : Comb) (a0 : Value) (a1 : Value) (w : World) (Q : Value → World → Prop) : Prop :=
  C.calls 15 #[a0, a1] w fun v12_1 w =>
  C.step (sAlloc 24) w fun v5_1 w =>
  C.step (sStore 24 v5_1 v12_1) w fun vx_1 w =>
  C.step (sFieldAddr 24 v5_1 0) w fun v13_1 w =>
  C.step (sLoad 22 v13_1) w fun v14_1 w =>
  C.step (sBuiltin .len #[22] 3 [false] [v14_1]) w fun v15_1 w =>
  C.step (sBin .eql 3 (.tmp 15) (.const (.int .i64 0)) v15_1 (.int .i64 0)) w fun v16_1 w =>
  C.bool v16_1
  (C.step (sBin .lss 3 (.tmp 17) (.const (.int .i64 1)) a0 (.int .i64 1)) w fun v18_1 w =>
  C.bool v18_1
  (C.calls 10 #[] w fun v24_1 w =>
  flotillalaw14_ClockSpares_k1 C v24_1 w Q)
  (C.step (sBin .gtr 3 (.tmp 20) (.const (.int .i64 16)) a0 (.int .i64 16)) w fun v21_1 w =>
  C.bool v21_1
  (C.calls 10 #[] w fun v24_2 w =>
  flotillalaw14_ClockSpares_k1 C v24_2 w Q)
  (Q (.bool false) w)))
  (C.step (sLoad 24 v5_1) w fun v27_1 w =>
  C.calls 16 #[v27_1] w fun v28_1 w =>
  C.step (sExtract v28_1 0) w fun v29_1 w =>
  C.step (sExtract v28_1 1) w fun v30_1 w =>
  C.step (sExtract v28_1 2) w fun v31_1 w =>
  C.step (sAlloc 24) w fun v7_1 w =>
  C.step (sStore 24 v7_1 v30_1) w fun vx_2 w =>
  C.step (sBin .neq 25 (.tmp 32) (.const (.int .i64 0)) v31_1 (.int .i64 0)) w fun v33_1 w =>
  C.bool v33_1
  (C.step (sBin .eql 25 (.tmp 34) (.const (.int .i64 15)) v31_1 (.int .i64 15)) w fun v35_1 w =>
  C.bool v35_1
  (C.step (sLoad 24 v5_1) w fun v37_1 w =>
  C.calls 17 #[v37_1] w fun v38_1 w =>
  C.step (sBin .eql 3 (.tmp 38) (.const (.int .i64 0)) v38_1 (.int .i64 0)) w fun v39_1 w =>
  C.bool v39_1
  (C.calls 10 #[] w fun v42_1 w =>
  Q v42_1 w)
  (flotillalaw14_ClockSpares_k2 C w Q))
  (flotillalaw14_ClockSpares_k2 C w Q))
  (C.draw w fun S_1 w =>
  C.stepS S_1 (sBin .lss 3 (.tmp 44) (.const (.int .i64 0)) v29_1 (.int .i64 0)) fun v45_1 =>
  C.bool v45_1
  (flotillalaw14_ClockSpares_k3 C w Q)
  (C.stepS S_1 (sFieldAddr 24 v5_1 0) fun v48_1 =>
  C.stepS S_1 (sLoad 22 v48_1) fun v49_1 =>
  C.stepS S_1 (sBuiltin .len #[22] 3 [false] [v49_1]) fun v50_1 =>
  C.stepS S_1 (sBin .geq 3 (.tmp 47) (.tmp 50) v29_1 v50_1) fun v51_1 =>
  C.bool v51_1
  (flotillalaw14_ClockSpares_k3 C w Q)
  (C.stepS S_1 (sFieldAddr 24 v5_1 0) fun v54_1 =>
  C.stepS S_1 (sLoad 22 v54_1) fun v55_1 =>
  C.stepS S_1 (sIndexAddr 22 v55_1 v29_1) fun v57_1 =>
  C.stepS S_1 (sFieldAddr 31 v57_1 2) fun v58_1 =>
  C.stepS S_1 (sLoad 3 v58_1) fun v59_1 =>
  C.stepS S_1 (sBin .gtr 3 (.tmp 59) (.const (.int .i64 0)) v59_1 (.int .i64 0)) fun v60_1 =>
  C.bool v60_1
  (flotillalaw14_ClockSpares_k3 C w Q)
  (C.stepS S_1 (sFieldAddr 24 v7_1 0) fun v63_1 =>
  C.stepS S_1 (sLoad 22 v63_1) fun v64_1 =>
  C.stepS S_1 (sBuiltin .len #[22] 3 [false] [v64_1]) fun v65_1 =>
  C.stepS S_1 (sFieldAddr 24 v5_1 0) fun v66_1 =>
  C.stepS S_1 (sLoad 22 v66_1) fun v67_1 =>
  C.stepS S_1 (sBuiltin .len #[22] 3 [false] [v67_1]) fun v68_1 =>
  C.stepS S_1 (sBin .neq 3 (.tmp 65) (.tmp 68) v65_1 v68_1) fun v69_1 =>
  C.bool v69_1
  (flotillalaw14_ClockSpares_k3 C w Q)
  (C.stepS S_1 (sFieldAddr 24 v7_1 1) fun v72_1 =>
  C.stepS S_1 (sLoad 3 v72_1) fun v73_1 =>
  C.stepS S_1 (sBin .add 3 (.tmp 74) (.const (.int .i64 1)) v29_1 (.int .i64 1)) fun v75_1 =>
  C.stepS S_1 (sFieldAddr 24 v5_1 0) fun v76_1 =>
  C.stepS S_1 (sLoad 22 v76_1) fun v77_1 =>
  C.stepS S_1 (sBuiltin .len #[22] 3 [false] [v77_1]) fun v78_1 =>
  C.stepS S_1 (sBin .rem 3 (.tmp 75) (.tmp 78) v75_1 v78_1) fun v79_1 =>
  C.stepS S_1 (sBin .neq 3 (.tmp 73) (.tmp 79) v73_1 v79_1) fun v80_1 =>
  C.bool v80_1
  (Q (.bool false) w)
  (C.loop [(.int .i64 0)] w fun dv_1 vs_1 w again_1 =>
  C.step (sFieldAddr 24 v7_1 0) w fun v83_1 w =>
  C.step (sLoad 22 v83_1) w fun v84_1 w =>
  C.step (sBuiltin .len #[22] 3 [false] [v84_1]) w fun v85_1 w =>
  C.step (sBin .lss 3 (.tmp 82) (.tmp 85) (vs_1.getD 0 undef) v85_1) w fun v86_1 w =>
  C.bool v86_1
  (C.draw w fun S_2 w =>
  C.stepS S_2 (sFieldAddr 24 v7_1 0) fun v89_1 =>
  C.stepS S_2 (sLoad 22 v89_1) fun v90_1 =>
  C.stepS S_2 (sIndexAddr 22 v90_1 (vs_1.getD 0 undef)) fun v92_1 =>
  C.stepS S_2 (sFieldAddr 31 v92_1 0) fun v93_1 =>
  C.stepS S_2 (sLoad 3 v93_1) fun v94_1 =>
  C.stepS S_2 (sFieldAddr 24 v5_1 0) fun v95_1 =>
  C.stepS S_2 (sLoad 22 v95_1) fun v96_1 =>
  C.stepS S_2 (sIndexAddr 22 v96_1 (vs_1.getD 0 undef)) fun v98_1 =>
  C.stepS S_2 (sFieldAddr 31 v98_1 0) fun v99_1 =>
  C.stepS S_2 (sLoad 3 v99_1) fun v100_1 =>
  C.stepS S_2 (sBin .neq 3 (.tmp 94) (.tmp 100) v94_1 v100_1) fun v101_1 =>
  C.bool v101_1
  (flotillalaw14_ClockSpares_k6 C w Q)
  (C.stepS S_2 (sFieldAddr 24 v7_1 0) fun v103_1 =>
  C.stepS S_2 (sLoad 22 v103_1) fun v104_1 =>
  C.stepS S_2 (sIndexAddr 22 v104_1 (vs_1.getD 0 undef)) fun v106_1 =>
  C.stepS S_2 (sFieldAddr 31 v106_1 2) fun v107_1 =>
  C.stepS S_2 (sLoad 3 v107_1) fun v108_1 =>
  C.stepS S_2 (sFieldAddr 24 v5_1 0) fun v109_1 =>
  C.stepS S_2 (sLoad 22 v109_1) fun v110_1 =>
  C.stepS S_2 (sIndexAddr 22 v110_1 (vs_1.getD 0 undef)) fun v112_1 =>
  C.stepS S_2 (sFieldAddr 31 v112_1 2) fun v113_1 =>
  C.stepS S_2 (sLoad 3 v113_1) fun v114_1 =>
  C.stepS S_2 (sBin .neq 3 (.tmp 108) (.tmp 114) v108_1 v114_1) fun v115_1 =>
  C.bool v115_1
  (flotillalaw14_ClockSpares_k6 C w Q)
  (C.stepS S_2 (sFieldAddr 24 v7_1 0) fun v118_1 =>
  C.stepS S_2 (sLoad 22 v118_1) fun v119_1 =>
  C.stepS S_2 (sIndexAddr 22 v119_1 (vs_1.getD 0 undef)) fun v121_1 =>
  C.stepS S_2 (sFieldAddr 31 v121_1 1) fun v122_1 =>
  C.stepS S_2 (sLoad 4 v122_1) fun v123_1 =>
  C.bool v123_1
  (C.stepS S_2 (sFieldAddr 24 v5_1 0) fun v125_1 =>
  C.stepS S_2 (sLoad 22 v125_1) fun v126_1 =>
  C.stepS S_2 (sIndexAddr 22 v126_1 (vs_1.getD 0 undef)) fun v128_1 =>
  C.stepS S_2 (sFieldAddr 31 v128_1 1) fun v129_1 =>
  C.stepS S_2 (sLoad 4 v129_1) fun v130_1 =>
  C.stepS S_2 (sUn .not v130_1) fun v131_1 =>
  C.bool v131_1
  (Q (.bool false) w)
  (flotillalaw14_ClockSpares_k5 C vs_1 again_1 w Q))
  (flotillalaw14_ClockSpares_k5 C vs_1 again_1 w Q))))
  (flotillalaw14_ClockSpares_k4 C w Q))))))))
theorem flotillalaw14_ClockSpares_eq (C : Comb) (a0 : Value) (a1 : Value) (w : World) (Q : Value → World → Prop) : flotillalaw14_ClockSpares_x C a0 a1 w Q = FunY Try.prog C 2 Try.f6 [a0, a1] w Q := by kernel_rfl
theorem flotillalaw14_ClockSpares_sound (a0 : Value) (a1 : Value) {w : World} {Q : Value → World → Prop} (h : flotillalaw14_ClockSpares_x (std Try.prog) a0 a1 w Q) : CallsR Try.prog 6 #[a0, a1] w Q :=
  calls_of_funY mixed Try.func6 (Eq.mp (flotillalaw14_ClockSpares_eq _ a0 a1 w Q) h)

def flotillalaw14_ClockTurns_k2 (C : Comb) (v31_1 : Value) (u11_2 : Value) (w : World) (Q : Value → World → Prop) : Prop :=
  C.step (sBuiltin .len #[46] 3 [false] [u11_2]) w fun v80_1 w =>
  C.step (sBin .eql 3 (.tmp 80) (.tmp 81) v80_1 v31_1) w fun v82_1 w =>
  C.bool v82_1
  (C.calls 10 #[] w fun v84_1 w =>
  Q v84_1 w)
  (Q (.bool false) w)
def flotillalaw14_ClockTurns_k3 (C : Comb) (v5_1 : Value) (vs_1 : List Value) (again_1 : List Value → World → Prop) (v57_1 : Value) (v14_1 : Value) (w : World) (Q : Value → World → Prop) : Prop :=
  C.step (sBuildSlice 46 1 [(0, v57_1)]) w fun v76_1 w =>
  C.step (sBuiltin .append #[46, 46] 46 [false, false] [(vs_1.getD 0 undef), v76_1]) w fun v77_1 w =>
  C.step (sLoad 24 v14_1) w fun v78_1 w =>
  C.step (sStore 24 v5_1 v78_1) w fun vx_3 w =>
  C.step (sBin .add 3 (.tmp 52) (.const (.int .i64 1)) (vs_1.getD 1 undef) (.int .i64 1)) w fun v53_1 w =>
  again_1 [v77_1, v53_1] w
def flotillalaw14_ClockTurns_k1 (C : Comb) (v5_1 : Value) (v31_1 : Value) (w : World) (Q : Value → World → Prop) : Prop :=
  C.loop [(.slice none 0 0), (.int .i64 0)] w fun dv_1 vs_1 w again_1 =>
  C.step (sBin .lss 3 (.tmp 49) (.tmp 50) (vs_1.getD 1 undef) v31_1) w fun v51_1 w =>
  C.bool v51_1
  (C.step (sLoad 24 v5_1) w fun v55_1 w =>
  C.calls 16 #[v55_1] w fun v56_1 w =>
  C.step (sExtract v56_1 0) w fun v57_1 w =>
  C.step (sExtract v56_1 1) w fun v58_1 w =>
  C.step (sExtract v56_1 2) w fun v59_1 w =>
  C.step (sAlloc 24) w fun v14_1 w =>
  C.step (sStore 24 v14_1 v58_1) w fun vx_2 w =>
  C.step (sBin .neq 25 (.tmp 60) (.const (.int .i64 0)) v59_1 (.int .i64 0)) w fun v61_1 w =>
  C.bool v61_1
  (Q (.bool false) w)
  (C.loop [(.int .i64 0)] w fun dv_2 vs_2 w again_2 =>
  C.step (sBuiltin .len #[46] 3 [false] [(vs_1.getD 0 undef)]) w fun v64_1 w =>
  C.step (sBin .lss 3 (.tmp 62) (.tmp 64) (vs_2.getD 0 undef) v64_1) w fun v65_1 w =>
  C.bool v65_1
  (C.step (sIndexAddr 46 (vs_1.getD 0 undef) (vs_2.getD 0 undef)) w fun v70_1 w =>
  C.step (sLoad 3 v70_1) w fun v71_1 w =>
  C.step (sBin .eql 3 (.tmp 71) (.tmp 72) v71_1 v57_1) w fun v73_1 w =>
  C.bool v73_1
  (Q (.bool false) w)
  (C.step (sBin .add 3 (.tmp 66) (.const (.int .i64 1)) (vs_2.getD 0 undef) (.int .i64 1)) w fun v67_1 w =>
  again_2 [v67_1] w))
  (flotillalaw14_ClockTurns_k3 C v5_1 vs_1 again_1 v57_1 v14_1 w Q)))
  (flotillalaw14_ClockTurns_k2 C v31_1 (vs_1.getD 0 undef) w Q)
def flotillalaw14_ClockTurns_x (C : Comb) (a0 : Value) (a1 : Value) (w : World) (Q : Value → World → Prop) : Prop :=
  C.calls 15 #[a0, a1] w fun v19_1 w =>
  C.step (sAlloc 24) w fun v5_1 w =>
  C.step (sStore 24 v5_1 v19_1) w fun vx_1 w =>
  C.step (sFieldAddr 24 v5_1 0) w fun v20_1 w =>
  C.step (sLoad 22 v20_1) w fun v21_1 w =>
  C.step (sBuiltin .len #[22] 3 [false] [v21_1]) w fun v22_1 w =>
  C.step (sBin .eql 3 (.tmp 22) (.const (.int .i64 0)) v22_1 (.int .i64 0)) w fun v23_1 w =>
  C.bool v23_1
  (C.calls 10 #[] w fun v29_1 w =>
  Q v29_1 w)
  (C.step (sLoad 24 v5_1) w fun v25_1 w =>
  C.calls 17 #[v25_1] w fun v26_1 w =>
  C.step (sBin .eql 3 (.tmp 26) (.const (.int .i64 0)) v26_1 (.int .i64 0)) w fun v27_1 w =>
  C.bool v27_1
  (C.calls 10 #[] w fun v29_2 w =>
  Q v29_2 w)
  (C.step (sLoad 24 v5_1) w fun v30_1 w =>
  C.calls 17 #[v30_1] w fun v31_1 w =>
  C.loop [(.int .i64 0)] w fun dv_3 vs_3 w again_3 =>
  C.step (sFieldAddr 24 v5_1 0) w fun v33_1 w =>
  C.step (sLoad 22 v33_1) w fun v34_1 w =>
  C.step (sBuiltin .len #[22] 3 [false] [v34_1]) w fun v35_1 w =>
  C.step (sBin .mul 3 (.const (.int .i64 2)) (.tmp 35) (.int .i64 2) v35_1) w fun v36_1 w =>
  C.step (sBin .lss 3 (.tmp 32) (.tmp 36) (vs_3.getD 0 undef) v36_1) w fun v37_1 w =>
  C.bool v37_1
  (C.step (sLoad 24 v5_1) w fun v41_1 w =>
  C.calls 16 #[v41_1] w fun v42_1 w =>
  C.step (sExtract v42_1 0) w fun v43_1 w =>
  C.step (sExtract v42_1 1) w fun v44_1 w =>
  C.step (sExtract v42_1 2) w fun v45_1 w =>
  C.step (sAlloc 24) w fun v9_1 w =>
  C.step (sStore 24 v9_1 v44_1) w fun vx_4 w =>
  C.step (sBin .neq 25 (.tmp 46) (.const (.int .i64 0)) v45_1 (.int .i64 0)) w fun v47_1 w =>
  C.bool v47_1
  (Q (.bool false) w)
  (C.step (sLoad 24 v9_1) w fun v48_1 w =>
  C.step (sStore 24 v5_1 v48_1) w fun vx_5 w =>
  C.step (sBin .add 3 (.tmp 38) (.const (.int .i64 1)) (vs_3.getD 0 undef) (.int .i64 1)) w fun v39_1 w =>
  again_3 [v39_1] w))
  (flotillalaw14_ClockTurns_k1 C v5_1 v31_1 w Q)))
theorem flotillalaw14_ClockTurns_eq (C : Comb) (a0 : Value) (a1 : Value) (w : World) (Q : Value → World → Prop) : flotillalaw14_ClockTurns_x C a0 a1 w Q = FunY Try.prog C 2 Try.f7 [a0, a1] w Q := by kernel_rfl
theorem flotillalaw14_ClockTurns_sound (a0 : Value) (a1 : Value) {w : World} {Q : Value → World → Prop} (h : flotillalaw14_ClockTurns_x (std Try.prog) a0 a1 w Q) : CallsR Try.prog 7 #[a0, a1] w Q :=
  calls_of_funY mixed Try.func7 (Eq.mp (flotillalaw14_ClockTurns_eq _ a0 a1 w Q) h)

def flotillalaw14_ClockChance_k2 (C : Comb) (w : World) (Q : Value → World → Prop) : Prop :=
  Q (.bool false) w
def flotillalaw14_ClockChance_k4 (C : Comb) (w : World) (Q : Value → World → Prop) : Prop :=
  Q (.bool false) w
def flotillalaw14_ClockChance_k3 (C : Comb) (v13_1 : Value) (v99_1 : Value) (w : World) (Q : Value → World → Prop) : Prop :=
  C.step (sBin .lss 3 (.tmp 106) (.const (.int .i64 0)) v99_1 (.int .i64 0)) w fun v107_1 w =>
  C.bool v107_1
  (C.calls 10 #[] w fun v108_1 w =>
  Q v108_1 w)
  (C.step (sLoad 24 v13_1) w fun v110_1 w =>
  C.calls 20 #[v110_1, v99_1] w fun v112_1 w =>
  C.step (sExtract v112_1 0) w fun v113_1 w =>
  C.step (sExtract v112_1 1) w fun v114_1 w =>
  C.step (sAlloc 24) w fun v16_1 w =>
  C.step (sStore 24 v16_1 v113_1) w fun vx_4 w =>
  C.step (sBin .neq 25 (.tmp 115) (.const (.int .i64 0)) v114_1 (.int .i64 0)) w fun v116_1 w =>
  C.bool v116_1
  (Q (.bool false) w)
  (C.step (sLoad 24 v16_1) w fun v118_1 w =>
  C.calls 19 #[v118_1, v99_1] w fun v120_1 w =>
  C.step (sBin .neq 3 (.tmp 120) (.const (.int .i64 (-1))) v120_1 (.int .i64 (-1))) w fun v121_1 w =>
  C.bool v121_1
  (Q (.bool false) w)
  (C.step (sLoad 24 v16_1) w fun v124_1 w =>
  C.calls 21 #[v124_1, v99_1] w fun v126_1 w =>
  C.step (sExtract v126_1 0) w fun v127_1 w =>
  C.step (sExtract v126_1 1) w fun v128_1 w =>
  C.step (sAlloc 24) w fun v18_1 w =>
  C.step (sStore 24 v18_1 v127_1) w fun vx_5 w =>
  C.step (sBin .eql 25 (.tmp 129) (.const (.int .i64 0)) v128_1 (.int .i64 0)) w fun v130_1 w =>
  C.bool v130_1
  (C.step (sLoad 24 v18_1) w fun v132_1 w =>
  C.calls 19 #[v132_1, v99_1] w fun v134_1 w =>
  C.step (sBin .geq 3 (.tmp 134) (.const (.int .i64 0)) v134_1 (.int .i64 0)) w fun v135_1 w =>
  C.bool v135_1
  (C.calls 10 #[] w fun v138_1 w =>
  Q v138_1 w)
  (flotillalaw14_ClockChance_k4 C w Q))
  (flotillalaw14_ClockChance_k4 C w Q))))
def flotillalaw14_ClockChance_k1 (C : Comb) (a2 : Value) (v8_1 : Value) (u10_1 : Value) (w : World) (Q : Value → World → Prop) : Prop :=
  C.step (sLoad 24 v8_1) w fun v68_1 w =>
  C.calls 16 #[v68_1] w fun v69_1 w =>
  C.step (sExtract v69_1 0) w fun v70_1 w =>
  C.step (sExtract v69_1 1) w fun v71_1 w =>
  C.step (sExtract v69_1 2) w fun v72_1 w =>
  C.step (sAlloc 24) w fun v13_1 w =>
  C.step (sStore 24 v13_1 v71_1) w fun vx_3 w =>
  C.step (sBin .neq 25 (.tmp 73) (.const (.int .i64 0)) v72_1 (.int .i64 0)) w fun v74_1 w =>
  C.bool v74_1
  (C.step (sBin .eql 25 (.tmp 75) (.const (.int .i64 15)) v72_1 (.int .i64 15)) w fun v76_1 w =>
  C.bool v76_1
  (C.step (sLoad 24 v8_1) w fun v78_1 w =>
  C.calls 17 #[v78_1] w fun v79_1 w =>
  C.step (sBin .eql 3 (.tmp 79) (.const (.int .i64 0)) v79_1 (.int .i64 0)) w fun v80_1 w =>
  C.bool v80_1
  (C.calls 10 #[] w fun v83_1 w =>
  Q v83_1 w)
  (flotillalaw14_ClockChance_k2 C w Q))
  (flotillalaw14_ClockChance_k2 C w Q))
  (C.step (sBin .lss 3 (.tmp 85) (.const (.int .i64 0)) v70_1 (.int .i64 0)) w fun v86_1 w =>
  C.bool v86_1
  (Q (.bool false) w)
  (C.step (sFieldAddr 24 v8_1 0) w fun v89_1 w =>
  C.step (sLoad 22 v89_1) w fun v90_1 w =>
  C.step (sBuiltin .len #[22] 3 [false] [v90_1]) w fun v91_1 w =>
  C.step (sBin .geq 3 (.tmp 88) (.tmp 91) v70_1 v91_1) w fun v92_1 w =>
  C.bool v92_1
  (Q (.bool false) w)
  (C.step (sFieldAddr 24 v8_1 0) w fun v94_1 w =>
  C.step (sLoad 22 v94_1) w fun v95_1 w =>
  C.step (sIndexAddr 22 v95_1 v70_1) w fun v97_1 w =>
  C.step (sFieldAddr 31 v97_1 0) w fun v98_1 w =>
  C.step (sLoad 3 v98_1) w fun v99_1 w =>
  C.bool u10_1
  (C.step (sBin .eql 3 (.tmp 102) (.tmp 103) v99_1 a2) w fun v104_1 w =>
  C.bool v104_1
  (Q (.bool false) w)
  (flotillalaw14_ClockChance_k3 C v13_1 v99_1 w Q))
  (flotillalaw14_ClockChance_k3 C v13_1 v99_1 w Q))))
def flotillalaw14_ClockChance_x (C : Comb) (a0 : Value) (a1 : Value) (a2 : Value) (w : World) (Q : Value → World → Prop) : Prop :=
  C.calls 15 #[a0, a1] w fun v22_1 w =>
  C.step (sAlloc 24) w fun v7_1 w =>
  C.step (sStore 24 v7_1 v22_1) w fun vx_1 w =>
  C.step (sLoad 24 v7_1) w fun v24_1 w =>
  C.calls 18 #[v24_1, a2] w fun v26_1 w =>
  C.step (sExtract v26_1 0) w fun v27_1 w =>
  C.step (sExtract v26_1 1) w fun v28_1 w =>
  C.step (sAlloc 24) w fun v8_1 w =>
  C.step (sStore 24 v8_1 v27_1) w fun vx_2 w =>
  C.step (sBin .neq 25 (.tmp 29) (.const (.int .i64 0)) v28_1 (.int .i64 0)) w fun v30_1 w =>
  C.bool v30_1
  (C.step (sLoad 24 v7_1) w fun v31_1 w =>
  C.calls 19 #[v31_1, a2] w fun v33_1 w =>
  C.step (sBin .lss 3 (.tmp 33) (.const (.int .i64 0)) v33_1 (.int .i64 0)) w fun v34_1 w =>
  C.step (sBin .neq 25 (.tmp 35) (.const (.int .i64 0)) v28_1 (.int .i64 0)) w fun v36_1 w =>
  C.step (sBin .eql 4 (.tmp 34) (.tmp 36) v34_1 v36_1) w fun v37_1 w =>
  C.bool v37_1
  (C.calls 10 #[] w fun v39_1 w =>
  Q v39_1 w)
  (Q (.bool false) w))
  (C.loop [(.bool false), (.int .i64 0)] w fun dv_1 vs_1 w again_1 =>
  C.step (sFieldAddr 24 v8_1 0) w fun v42_1 w =>
  C.step (sLoad 22 v42_1) w fun v43_1 w =>
  C.step (sBuiltin .len #[22] 3 [false] [v43_1]) w fun v44_1 w =>
  C.step (sBin .lss 3 (.tmp 41) (.tmp 44) (vs_1.getD 1 undef) v44_1) w fun v45_1 w =>
  C.bool v45_1
  (C.bool (vs_1.getD 0 undef)
  (C.step (sBin .add 3 (.tmp 46) (.const (.int .i64 1)) (vs_1.getD 1 undef) (.int .i64 1)) w fun v47_1 w =>
  again_1 [(.bool true), v47_1] w)
  (C.step (sFieldAddr 24 v8_1 0) w fun v50_1 w =>
  C.step (sLoad 22 v50_1) w fun v51_1 w =>
  C.step (sIndexAddr 22 v51_1 (vs_1.getD 1 undef)) w fun v53_1 w =>
  C.step (sFieldAddr 31 v53_1 2) w fun v54_1 w =>
  C.step (sLoad 3 v54_1) w fun v55_1 w =>
  C.step (sBin .eql 3 (.tmp 55) (.const (.int .i64 0)) v55_1 (.int .i64 0)) w fun v56_1 w =>
  C.bool v56_1
  (C.step (sFieldAddr 24 v8_1 0) w fun v58_1 w =>
  C.step (sLoad 22 v58_1) w fun v59_1 w =>
  C.step (sIndexAddr 22 v59_1 (vs_1.getD 1 undef)) w fun v61_1 w =>
  C.step (sFieldAddr 31 v61_1 1) w fun v62_1 w =>
  C.step (sLoad 4 v62_1) w fun v63_1 w =>
  C.step (sUn .not v63_1) w fun v64_1 w =>
  C.step (sBin .add 3 (.tmp 46) (.const (.int .i64 1)) (vs_1.getD 1 undef) (.int .i64 1)) w fun v47_2 w =>
  again_1 [v64_1, v47_2] w)
  (C.step (sBin .add 3 (.tmp 46) (.const (.int .i64 1)) (vs_1.getD 1 undef) (.int .i64 1)) w fun v47_3 w =>
  again_1 [(.bool false), v47_3] w)))
  (flotillalaw14_ClockChance_k1 C a2 v8_1 (vs_1.getD 0 undef) w Q))
theorem flotillalaw14_ClockChance_eq (C : Comb) (a0 : Value) (a1 : Value) (a2 : Value) (w : World) (Q : Value → World → Prop) : flotillalaw14_ClockChance_x C a0 a1 a2 w Q = FunY Try.prog C 2 Try.f8 [a0, a1, a2] w Q := by kernel_rfl
theorem flotillalaw14_ClockChance_sound (a0 : Value) (a1 : Value) (a2 : Value) {w : World} {Q : Value → World → Prop} (h : flotillalaw14_ClockChance_x (std Try.prog) a0 a1 a2 w Q) : CallsR Try.prog 8 #[a0, a1, a2] w Q :=
  calls_of_funY mixed Try.func8 (Eq.mp (flotillalaw14_ClockChance_eq _ a0 a1 a2 w Q) h)

def clock_New_k1 (C : Comb) (v2_1 : Value) (v4_1 : Value) (w : World) (Q : Value → World → Prop) : Prop :=
  C.step (sLoad 24 v4_1) w fun v28_1 w =>
  C.step (sStore 24 v2_1 v28_1) w fun vx_4 w =>
  C.loadR 24 v2_1 w fun r_3 =>
  Q (.tuple #[r_3, (.int .i64 0)]) w
def clock_New_x (C : Comb) (a0 : Value) (w : World) (Q : Value → World → Prop) : Prop :=
  C.step (sAlloc 24) w fun v2_1 w =>
  C.step (sBin .lss 3 (.tmp 6) (.const (.int .i64 1)) a0 (.int .i64 1)) w fun v7_1 w =>
  C.bool v7_1
  (C.step (sBuild 24 []) w fun v12_1 w =>
  C.step (sStore 24 v2_1 v12_1) w fun vx_1 w =>
  C.loadR 24 v2_1 w fun r_1 =>
  Q (.tuple #[r_1, (.int .i64 1)]) w)
  (C.step (sBin .gtr 3 (.tmp 9) (.const (.int .i64 16)) a0 (.int .i64 16)) w fun v10_1 w =>
  C.bool v10_1
  (C.step (sBuild 24 []) w fun v12_2 w =>
  C.step (sStore 24 v2_1 v12_2) w fun vx_2 w =>
  C.loadR 24 v2_1 w fun r_2 =>
  Q (.tuple #[r_2, (.int .i64 1)]) w)
  (C.step (sMakeSlice 22 a0 a0) w fun v14_1 w =>
  C.step (sBuild 24 [(0, v14_1)]) w fun v15_1 w =>
  C.step (sAlloc 24) w fun v4_1 w =>
  C.step (sStore 24 v4_1 v15_1) w fun vx_3 w =>
  C.step (sFieldAddr 24 v4_1 0) w fun v16_1 w =>
  C.step (sLoad 22 v16_1) w fun v17_1 w =>
  C.step (sBuiltin .len #[22] 3 [false] [v17_1]) w fun v18_1 w =>
  C.loop [undef, (.int .i64 0)] w fun dv_1 vs_1 w again_1 =>
  C.step (sBin .lss 3 (.tmp 19) (.tmp 18) (vs_1.getD 1 undef) v18_1) w fun v20_1 w =>
  C.bool v20_1
  (C.step (sFieldAddr 24 v4_1 0) w fun v22_1 w =>
  C.step (sLoad 22 v22_1) w fun v23_1 w =>
  C.step (sIndexAddr 22 v23_1 (vs_1.getD 1 undef)) w fun v25_1 w =>
  C.step (sFieldAddr 31 v25_1 0) w fun v26_1 w =>
  C.step (sStore 3 v26_1 (.int .i64 (-1))) w fun vx_5 w =>
  C.step (sBin .add 3 (.tmp 19) (.const (.int .i64 1)) (vs_1.getD 1 undef) (.int .i64 1)) w fun v27_1 w =>
  again_1 [(vs_1.getD 1 undef), v27_1] w)
  (clock_New_k1 C v2_1 v4_1 w Q)))
theorem clock_New_eq (C : Comb) (a0 : Value) (w : World) (Q : Value → World → Prop) : clock_New_x C a0 w Q = FunY Try.prog C 6 Try.f9 [a0] w Q := by kernel_rfl
theorem clock_New_sound (a0 : Value) {w : World} {Q : Value → World → Prop} (h : clock_New_x (std Try.prog) a0 w Q) : CallsR Try.prog 9 #[a0] w Q :=
  calls_of_funY mixed Try.func9 (Eq.mp (clock_New_eq _ a0 w Q) h)

def flotillalaw14_lives_k1 (C : Comb) (w : World) (Q : Value → World → Prop) : Prop :=
  Q (.bool false) w
def flotillalaw14_lives_x (C : Comb) (w : World) (Q : Value → World → Prop) : Prop :=
  C.step (sBuild 31 [(0, (.int .i64 4)), (1, (.bool true))]) w fun v5_1 w =>
  C.step (sBuild 31 [(0, (.int .i64 7))]) w fun v6_1 w =>
  C.step (sBuildSlice 22 2 [(0, v5_1), (1, v6_1)]) w fun v7_1 w =>
  C.step (sBuild 24 [(0, v7_1)]) w fun v8_1 w =>
  C.calls 16 #[v8_1] w fun v9_1 w =>
  C.step (sExtract v9_1 0) w fun v10_1 w =>
  C.step (sExtract v9_1 1) w fun v11_1 w =>
  C.step (sExtract v9_1 2) w fun v12_1 w =>
  C.step (sAlloc 24) w fun v2_1 w =>
  C.step (sStore 24 v2_1 v11_1) w fun vx_1 w =>
  C.step (sBin .eql 3 (.tmp 13) (.const (.int .i64 1)) v10_1 (.int .i64 1)) w fun v14_1 w =>
  C.bool v14_1
  (C.step (sBin .eql 25 (.tmp 16) (.const (.int .i64 0)) v12_1 (.int .i64 0)) w fun v17_1 w =>
  C.bool v17_1
  (C.step (sFieldAddr 24 v2_1 0) w fun v20_1 w =>
  C.step (sLoad 22 v20_1) w fun v21_1 w =>
  C.step (sBuiltin .len #[22] 3 [false] [v21_1]) w fun v22_1 w =>
  C.step (sBin .eql 3 (.tmp 22) (.const (.int .i64 2)) v22_1 (.int .i64 2)) w fun v23_1 w =>
  C.bool v23_1
  (C.step (sFieldAddr 24 v2_1 0) w fun v26_1 w =>
  C.step (sLoad 22 v26_1) w fun v27_1 w =>
  C.step (sIndexAddr 22 v27_1 (.int .i64 0)) w fun v28_1 w =>
  C.step (sFieldAddr 31 v28_1 1) w fun v29_1 w =>
  C.step (sLoad 4 v29_1) w fun v30_1 w =>
  C.step (sUn .not v30_1) w fun v31_1 w =>
  C.bool v31_1
  (C.step (sFieldAddr 24 v2_1 0) w fun v34_1 w =>
  C.step (sLoad 22 v34_1) w fun v35_1 w =>
  C.step (sIndexAddr 22 v35_1 (.int .i64 0)) w fun v36_1 w =>
  C.step (sFieldAddr 31 v36_1 0) w fun v37_1 w =>
  C.step (sLoad 3 v37_1) w fun v38_1 w =>
  C.step (sBin .eql 3 (.tmp 38) (.const (.int .i64 4)) v38_1 (.int .i64 4)) w fun v39_1 w =>
  C.bool v39_1
  (C.step (sFieldAddr 24 v2_1 1) w fun v42_1 w =>
  C.step (sLoad 3 v42_1) w fun v43_1 w =>
  C.step (sBin .eql 3 (.tmp 43) (.const (.int .i64 0)) v43_1 (.int .i64 0)) w fun v44_1 w =>
  Q v44_1 w)
  (flotillalaw14_lives_k1 C w Q))
  (flotillalaw14_lives_k1 C w Q))
  (flotillalaw14_lives_k1 C w Q))
  (flotillalaw14_lives_k1 C w Q))
  (flotillalaw14_lives_k1 C w Q)
theorem flotillalaw14_lives_eq (C : Comb) (w : World) (Q : Value → World → Prop) : flotillalaw14_lives_x C w Q = FunY Try.prog C 4 Try.f10 [] w Q := by kernel_rfl
theorem flotillalaw14_lives_sound {w : World} {Q : Value → World → Prop} (h : flotillalaw14_lives_x (std Try.prog) w Q) : CallsR Try.prog 10 #[] w Q :=
  calls_of_funY mixed Try.func10 (Eq.mp (flotillalaw14_lives_eq _ w Q) h)

def clock_Check_k1 (C : Comb) (w : World) (Q : Value → World → Prop) : Prop :=
  Q (.int .i64 1) w
def clock_Check_k2 (C : Comb) (w : World) (Q : Value → World → Prop) : Prop :=
  Q (.int .i64 0) w
def clock_Check_k3 (C : Comb) (vs_1 : List Value) (again_1 : List Value → World → Prop) (w : World) (Q : Value → World → Prop) : Prop :=
  C.step (sBin .add 3 (.tmp 33) (.const (.int .i64 1)) (vs_1.getD 0 undef) (.int .i64 1)) w fun v86_1 w =>
  again_1 [v86_1] w
def clock_Check_k4 (C : Comb) (v3_1 : Value) (vs_1 : List Value) (again_1 : List Value → World → Prop) (v5_1 : Value) (w : World) (Q : Value → World → Prop) : Prop :=
  C.step (sFieldAddr 31 v5_1 0) w fun v80_1 w =>
  C.step (sLoad 3 v80_1) w fun v81_1 w =>
  C.step (sBin .geq 3 (.tmp 81) (.const (.int .i64 0)) v81_1 (.int .i64 0)) w fun v82_1 w =>
  C.bool v82_1
  (C.step (sFieldAddr 31 v5_1 0) w fun v83_1 w =>
  C.step (sLoad 3 v83_1) w fun v84_1 w =>
  C.step (sIndexAddr 50 v3_1 v84_1) w fun v85_1 w =>
  C.step (sStore 4 v85_1 (.bool true)) w fun vx_3 w =>
  clock_Check_k3 C vs_1 again_1 w Q)
  (clock_Check_k3 C vs_1 again_1 w Q)
def clock_Check_k5 (C : Comb) (w : World) (Q : Value → World → Prop) : Prop :=
  Q (.int .i64 1) w
def clock_Check_k6 (C : Comb) (v3_1 : Value) (vs_1 : List Value) (again_1 : List Value → World → Prop) (v5_1 : Value) (u79_6 : Value) (w : World) (Q : Value → World → Prop) : Prop :=
  C.bool u79_6
  (Q (.int .i64 1) w)
  (clock_Check_k4 C v3_1 vs_1 again_1 v5_1 w Q)
def clock_Check_k7 (C : Comb) (v3_1 : Value) (vs_1 : List Value) (again_1 : List Value → World → Prop) (v5_1 : Value) (w : World) (Q : Value → World → Prop) : Prop :=
  clock_Check_k4 C v3_1 vs_1 again_1 v5_1 w Q
def clock_Check_x (C : Comb) (a0 : Value) (w : World) (Q : Value → World → Prop) : Prop :=
  C.step (sBox 24 a0) w fun v1_1 w =>
  C.step (sFieldAddr 24 v1_1 0) w fun v6_1 w =>
  C.step (sLoad 22 v6_1) w fun v7_1 w =>
  C.step (sBuiltin .len #[22] 3 [false] [v7_1]) w fun v8_1 w =>
  C.step (sBin .lss 3 (.tmp 8) (.const (.int .i64 1)) v8_1 (.int .i64 1)) w fun v9_1 w =>
  C.bool v9_1
  (clock_Check_k1 C w Q)
  (C.step (sFieldAddr 24 v1_1 0) w fun v11_1 w =>
  C.step (sLoad 22 v11_1) w fun v12_1 w =>
  C.step (sBuiltin .len #[22] 3 [false] [v12_1]) w fun v13_1 w =>
  C.step (sBin .gtr 3 (.tmp 13) (.const (.int .i64 16)) v13_1 (.int .i64 16)) w fun v14_1 w =>
  C.bool v14_1
  (clock_Check_k1 C w Q)
  (C.step (sFieldAddr 24 v1_1 1) w fun v17_1 w =>
  C.step (sLoad 3 v17_1) w fun v18_1 w =>
  C.step (sBin .lss 3 (.tmp 18) (.const (.int .i64 0)) v18_1 (.int .i64 0)) w fun v19_1 w =>
  C.bool v19_1
  (clock_Check_k1 C w Q)
  (C.step (sFieldAddr 24 v1_1 1) w fun v22_1 w =>
  C.step (sLoad 3 v22_1) w fun v23_1 w =>
  C.step (sFieldAddr 24 v1_1 0) w fun v24_1 w =>
  C.step (sLoad 22 v24_1) w fun v25_1 w =>
  C.step (sBuiltin .len #[22] 3 [false] [v25_1]) w fun v26_1 w =>
  C.step (sBin .geq 3 (.tmp 23) (.tmp 26) v23_1 v26_1) w fun v27_1 w =>
  C.bool v27_1
  (Q (.int .i64 1) w)
  (C.step (sBuild 50 []) w fun v29_1 w =>
  C.step (sAlloc 50) w fun v3_1 w =>
  C.step (sStore 50 v3_1 v29_1) w fun vx_1 w =>
  C.step (sFieldAddr 24 v1_1 0) w fun v30_1 w =>
  C.step (sLoad 22 v30_1) w fun v31_1 w =>
  C.step (sBuiltin .len #[22] 3 [false] [v31_1]) w fun v32_1 w =>
  C.loop [(.int .i64 0)] w fun dv_1 vs_1 w again_1 =>
  C.step (sBin .lss 3 (.tmp 33) (.tmp 32) (vs_1.getD 0 undef) v32_1) w fun v34_1 w =>
  C.bool v34_1
  (C.step (sIndexAddr 22 v31_1 (vs_1.getD 0 undef)) w fun v35_1 w =>
  C.step (sLoad 31 v35_1) w fun v36_1 w =>
  C.step (sAlloc 31) w fun v5_1 w =>
  C.step (sStore 31 v5_1 v36_1) w fun vx_2 w =>
  C.step (sFieldAddr 31 v5_1 0) w fun v37_1 w =>
  C.step (sLoad 3 v37_1) w fun v38_1 w =>
  C.step (sBin .lss 3 (.tmp 38) (.const (.int .i64 (-1))) v38_1 (.int .i64 (-1))) w fun v39_1 w =>
  C.bool v39_1
  (clock_Check_k5 C w Q)
  (C.step (sFieldAddr 31 v5_1 0) w fun v41_1 w =>
  C.step (sLoad 3 v41_1) w fun v42_1 w =>
  C.step (sBin .geq 3 (.tmp 42) (.const (.int .i64 16)) v42_1 (.int .i64 16)) w fun v43_1 w =>
  C.bool v43_1
  (clock_Check_k5 C w Q)
  (C.step (sFieldAddr 31 v5_1 2) w fun v46_1 w =>
  C.step (sLoad 3 v46_1) w fun v47_1 w =>
  C.step (sBin .lss 3 (.tmp 47) (.const (.int .i64 0)) v47_1 (.int .i64 0)) w fun v48_1 w =>
  C.bool v48_1
  (clock_Check_k5 C w Q)
  (C.step (sFieldAddr 31 v5_1 2) w fun v51_1 w =>
  C.step (sLoad 3 v51_1) w fun v52_1 w =>
  C.step (sBin .gtr 3 (.tmp 52) (.const (.int .i64 1048576)) v52_1 (.int .i64 1048576)) w fun v53_1 w =>
  C.bool v53_1
  (clock_Check_k5 C w Q)
  (C.step (sFieldAddr 31 v5_1 0) w fun v56_1 w =>
  C.step (sLoad 3 v56_1) w fun v57_1 w =>
  C.step (sBin .eql 3 (.tmp 57) (.const (.int .i64 (-1))) v57_1 (.int .i64 (-1))) w fun v58_1 w =>
  C.bool v58_1
  (C.step (sFieldAddr 31 v5_1 1) w fun v60_1 w =>
  C.step (sLoad 4 v60_1) w fun v61_1 w =>
  C.bool v61_1
  (clock_Check_k5 C w Q)
  (C.step (sFieldAddr 31 v5_1 2) w fun v63_1 w =>
  C.step (sLoad 3 v63_1) w fun v64_1 w =>
  C.step (sBin .gtr 3 (.tmp 64) (.const (.int .i64 0)) v64_1 (.int .i64 0)) w fun v65_1 w =>
  C.bool v65_1
  (clock_Check_k5 C w Q)
  (C.step (sFieldAddr 31 v5_1 0) w fun v70_1 w =>
  C.step (sLoad 3 v70_1) w fun v71_1 w =>
  C.step (sBin .geq 3 (.tmp 71) (.const (.int .i64 0)) v71_1 (.int .i64 0)) w fun v72_1 w =>
  C.bool v72_1
  (C.step (sFieldAddr 31 v5_1 0) w fun v74_1 w =>
  C.step (sLoad 3 v74_1) w fun v75_1 w =>
  C.step (sIndexAddr 50 v3_1 v75_1) w fun v76_1 w =>
  C.step (sLoad 4 v76_1) w fun v77_1 w =>
  clock_Check_k6 C v3_1 vs_1 again_1 v5_1 v77_1 w Q)
  (clock_Check_k7 C v3_1 vs_1 again_1 v5_1 w Q))))
  (C.step (sFieldAddr 31 v5_1 0) w fun v70_2 w =>
  C.step (sLoad 3 v70_2) w fun v71_2 w =>
  C.step (sBin .geq 3 (.tmp 71) (.const (.int .i64 0)) v71_2 (.int .i64 0)) w fun v72_2 w =>
  C.bool v72_2
  (C.step (sFieldAddr 31 v5_1 0) w fun v74_2 w =>
  C.step (sLoad 3 v74_2) w fun v75_2 w =>
  C.step (sIndexAddr 50 v3_1 v75_2) w fun v76_2 w =>
  C.step (sLoad 4 v76_2) w fun v77_2 w =>
  clock_Check_k6 C v3_1 vs_1 again_1 v5_1 v77_2 w Q)
  (clock_Check_k7 C v3_1 vs_1 again_1 v5_1 w Q)))))))
  (clock_Check_k2 C w Q)))))
theorem clock_Check_eq (C : Comb) (a0 : Value) (w : World) (Q : Value → World → Prop) : clock_Check_x C a0 w Q = FunY Try.prog C 2 Try.f11 [a0] w Q := by kernel_rfl
theorem clock_Check_sound (a0 : Value) {w : World} {Q : Value → World → Prop} (h : clock_Check_x (std Try.prog) a0 w Q) : CallsR Try.prog 11 #[a0] w Q :=
  calls_of_funY mixed Try.func11 (Eq.mp (clock_Check_eq _ a0 w Q) h)

def flotillalaw14_one_k3 (C : Comb) (v2_1 : Value) (v4_1 : Value) (w : World) (Q : Value → World → Prop) : Prop :=
  C.step (sLoad 24 v2_1) w fun v130_1 w =>
  C.step (sStore 24 v4_1 v130_1) w fun vx_2 w =>
  C.loadR 24 v4_1 w fun r_1 =>
  Q (.tuple #[r_1, (.bool false)]) w
def flotillalaw14_one_k2 (C : Comb) (v2_1 : Value) (v3_1 : Value) (v4_1 : Value) (v6_1 : Value) (u7_1 : Value) (u9_1 : Value) (u11_2 : Value) (u8_2 : Value) (u12_2 : Value) (u10_2 : Value) (w : World) (Q : Value → World → Prop) : Prop :=
  C.draw w fun S_1 w =>
  C.stepS S_1 (sBin .neq 25 (.tmp 99) (.tmp 100) u8_2 u10_2) fun v101_1 =>
  C.bool v101_1
  (flotillalaw14_one_k3 C v2_1 v4_1 w Q)
  (C.stepS S_1 (sBin .neq 3 (.tmp 103) (.tmp 104) u11_2 u12_2) fun v105_1 =>
  C.bool v105_1
  (flotillalaw14_one_k3 C v2_1 v4_1 w Q)
  (C.stepS S_1 (sLoad 24 u7_1) fun v108_1 =>
  C.stepS S_1 (sLoad 24 u9_1) fun v109_1 =>
  C.calls 27 #[v108_1, v109_1] w fun v110_1 w =>
  C.keepT w fun S_2 =>
  C.stepS S_2 (sUn .not v110_1) fun v111_1 =>
  C.bool v111_1
  (flotillalaw14_one_k3 C v2_1 v4_1 w Q)
  (C.stepS S_2 (sLoad 24 v6_1) fun v114_1 =>
  C.stepS S_2 (sLoad 24 v2_1) fun v115_1 =>
  C.calls 27 #[v114_1, v115_1] w fun v116_1 w =>
  C.keepT w fun S_3 =>
  C.stepS S_3 (sUn .not v116_1) fun v117_1 =>
  C.bool v117_1
  (flotillalaw14_one_k3 C v2_1 v4_1 w Q)
  (C.stepS S_3 (sLoad 24 v6_1) fun v120_1 =>
  C.stepS S_3 (sFieldAddr 34 v3_1 1) fun v121_1 =>
  C.stepS S_3 (sLoad 3 v121_1) fun v122_1 =>
  C.stepS S_3 (sLoad 24 v2_1) fun v124_1 =>
  C.stepS S_3 (sFieldAddr 34 v3_1 1) fun v125_1 =>
  C.stepS S_3 (sLoad 3 v125_1) fun v126_1 =>
  C.calls 19 #[v120_1, v122_1] w fun v123_1 w =>
  C.keepS S_3 w fun S_4 =>
  C.calls 28 #[v124_1, v126_1] w fun v127_1 w =>
  C.keepT w fun S_5 =>
  C.stepS S_5 (sBin .neq 3 (.tmp 123) (.tmp 127) v123_1 v127_1) fun v128_1 =>
  C.bool v128_1
  (C.step (sLoad 24 v2_1) w fun v130_2 w =>
  C.step (sStore 24 v4_1 v130_2) w fun vx_3 w =>
  C.loadR 24 v4_1 w fun r_2 =>
  Q (.tuple #[r_2, (.bool false)]) w)
  (C.step (sBin .neq 25 (.tmp 131) (.const (.int .i64 0)) u8_2 (.int .i64 0)) w fun v132_1 w =>
  C.bool v132_1
  (C.step (sLoad 24 v2_1) w fun v133_1 w =>
  C.step (sStore 24 v4_1 v133_1) w fun vx_4 w =>
  C.loadR 24 v4_1 w fun r_3 =>
  Q (.tuple #[r_3, (.bool true)]) w)
  (C.step (sLoad 24 u7_1) w fun v134_1 w =>
  C.step (sStore 24 v4_1 v134_1) w fun vx_5 w =>
  C.loadR 24 v4_1 w fun r_4 =>
  Q (.tuple #[r_4, (.bool true)]) w))))))
def flotillalaw14_one_k1 (C : Comb) (v2_1 : Value) (v3_1 : Value) (v4_1 : Value) (v6_1 : Value) (u7_1 : Value) (u9_1 : Value) (w : World) (Q : Value → World → Prop) : Prop :=
  C.step (sFieldAddr 34 v3_1 0) w fun v17_1 w =>
  C.step (sLoad 3 v17_1) w fun v18_1 w =>
  C.step (sBin .eql 3 (.tmp 18) (.const (.int .i64 0)) v18_1 (.int .i64 0)) w fun v32_1 w =>
  C.bool v32_1
  (C.step (sLoad 24 v6_1) w fun v34_1 w =>
  C.step (sFieldAddr 34 v3_1 1) w fun v35_1 w =>
  C.step (sLoad 3 v35_1) w fun v36_1 w =>
  C.calls 21 #[v34_1, v36_1] w fun v37_1 w =>
  C.step (sExtract v37_1 0) w fun v38_1 w =>
  C.step (sExtract v37_1 1) w fun v39_1 w =>
  C.step (sStore 24 u7_1 v38_1) w fun vx_6 w =>
  C.step (sLoad 24 v2_1) w fun v41_1 w =>
  C.step (sFieldAddr 34 v3_1 1) w fun v42_1 w =>
  C.step (sLoad 3 v42_1) w fun v43_1 w =>
  C.calls 22 #[v41_1, v43_1] w fun v44_1 w =>
  C.step (sExtract v44_1 0) w fun v45_1 w =>
  C.step (sExtract v44_1 1) w fun v46_1 w =>
  C.step (sStore 24 u9_1 v45_1) w fun vx_7 w =>
  flotillalaw14_one_k2 C v2_1 v3_1 v4_1 v6_1 u7_1 u9_1 (.int .i64 0) v39_1 (.int .i64 0) v46_1 w Q)
  (C.step (sBin .eql 3 (.tmp 18) (.const (.int .i64 1)) v18_1 (.int .i64 1)) w fun v48_1 w =>
  C.bool v48_1
  (C.step (sLoad 24 v6_1) w fun v50_1 w =>
  C.step (sFieldAddr 34 v3_1 1) w fun v51_1 w =>
  C.step (sLoad 3 v51_1) w fun v52_1 w =>
  C.calls 20 #[v50_1, v52_1] w fun v53_1 w =>
  C.step (sExtract v53_1 0) w fun v54_1 w =>
  C.step (sExtract v53_1 1) w fun v55_1 w =>
  C.step (sStore 24 u7_1 v54_1) w fun vx_8 w =>
  C.step (sLoad 24 v2_1) w fun v57_1 w =>
  C.step (sFieldAddr 34 v3_1 1) w fun v58_1 w =>
  C.step (sLoad 3 v58_1) w fun v59_1 w =>
  C.calls 23 #[v57_1, v59_1] w fun v60_1 w =>
  C.step (sExtract v60_1 0) w fun v61_1 w =>
  C.step (sExtract v60_1 1) w fun v62_1 w =>
  C.step (sStore 24 u9_1 v61_1) w fun vx_9 w =>
  flotillalaw14_one_k2 C v2_1 v3_1 v4_1 v6_1 u7_1 u9_1 (.int .i64 0) v55_1 (.int .i64 0) v62_1 w Q)
  (C.step (sBin .eql 3 (.tmp 18) (.const (.int .i64 2)) v18_1 (.int .i64 2)) w fun v64_1 w =>
  C.bool v64_1
  (C.step (sLoad 24 v6_1) w fun v66_1 w =>
  C.step (sFieldAddr 34 v3_1 1) w fun v67_1 w =>
  C.step (sLoad 3 v67_1) w fun v68_1 w =>
  C.calls 18 #[v66_1, v68_1] w fun v69_1 w =>
  C.step (sExtract v69_1 0) w fun v70_1 w =>
  C.step (sExtract v69_1 1) w fun v71_1 w =>
  C.step (sStore 24 u7_1 v70_1) w fun vx_10 w =>
  C.step (sLoad 24 v2_1) w fun v73_1 w =>
  C.step (sFieldAddr 34 v3_1 1) w fun v74_1 w =>
  C.step (sLoad 3 v74_1) w fun v75_1 w =>
  C.calls 24 #[v73_1, v75_1, (.int .i64 0), (.bool true)] w fun v76_1 w =>
  C.step (sExtract v76_1 0) w fun v77_1 w =>
  C.step (sExtract v76_1 1) w fun v78_1 w =>
  C.step (sStore 24 u9_1 v77_1) w fun vx_11 w =>
  flotillalaw14_one_k2 C v2_1 v3_1 v4_1 v6_1 u7_1 u9_1 (.int .i64 0) v71_1 (.int .i64 0) v78_1 w Q)
  (C.step (sBin .eql 3 (.tmp 18) (.const (.int .i64 3)) v18_1 (.int .i64 3)) w fun v80_1 w =>
  C.bool v80_1
  (C.step (sLoad 24 v6_1) w fun v82_1 w =>
  C.step (sFieldAddr 34 v3_1 1) w fun v83_1 w =>
  C.step (sLoad 3 v83_1) w fun v84_1 w =>
  C.step (sFieldAddr 34 v3_1 2) w fun v85_1 w =>
  C.step (sLoad 3 v85_1) w fun v86_1 w =>
  C.calls 25 #[v82_1, v84_1, v86_1] w fun v87_1 w =>
  C.step (sExtract v87_1 0) w fun v88_1 w =>
  C.step (sExtract v87_1 1) w fun v89_1 w =>
  C.step (sStore 24 u7_1 v88_1) w fun vx_12 w =>
  C.step (sLoad 24 v2_1) w fun v91_1 w =>
  C.step (sFieldAddr 34 v3_1 1) w fun v92_1 w =>
  C.step (sLoad 3 v92_1) w fun v93_1 w =>
  C.step (sFieldAddr 34 v3_1 2) w fun v94_1 w =>
  C.step (sLoad 3 v94_1) w fun v95_1 w =>
  C.calls 24 #[v91_1, v93_1, v95_1, (.bool false)] w fun v96_1 w =>
  C.step (sExtract v96_1 0) w fun v97_1 w =>
  C.step (sExtract v96_1 1) w fun v98_1 w =>
  C.step (sStore 24 u9_1 v97_1) w fun vx_13 w =>
  flotillalaw14_one_k2 C v2_1 v3_1 v4_1 v6_1 u7_1 u9_1 (.int .i64 0) v89_1 (.int .i64 0) v98_1 w Q)
  (C.step (sLoad 24 v6_1) w fun v20_1 w =>
  C.calls 16 #[v20_1] w fun v21_1 w =>
  C.step (sExtract v21_1 0) w fun v22_1 w =>
  C.step (sExtract v21_1 1) w fun v23_1 w =>
  C.step (sExtract v21_1 2) w fun v24_1 w =>
  C.step (sStore 24 u7_1 v23_1) w fun vx_14 w =>
  C.step (sLoad 24 v2_1) w fun v26_1 w =>
  C.calls 26 #[v26_1] w fun v27_1 w =>
  C.step (sExtract v27_1 0) w fun v28_1 w =>
  C.step (sExtract v27_1 1) w fun v29_1 w =>
  C.step (sExtract v27_1 2) w fun v30_1 w =>
  C.step (sStore 24 u9_1 v29_1) w fun vx_15 w =>
  flotillalaw14_one_k2 C v2_1 v3_1 v4_1 v6_1 u7_1 u9_1 v22_1 v24_1 v28_1 v30_1 w Q))))
def flotillalaw14_one_x (C : Comb) (a0 : Value) (a1 : Value) (w : World) (Q : Value → World → Prop) : Prop :=
  C.step (sBox 24 a0) w fun v2_1 w =>
  C.step (sBox 34 a1) w fun v3_1 w =>
  C.step (sAlloc 24) w fun v4_1 w =>
  C.step (sLoad 24 v2_1) w fun v13_1 w =>
  C.calls 13 #[v13_1] w fun v14_1 w =>
  C.step (sAlloc 24) w fun v6_1 w =>
  C.step (sStore 24 v6_1 v14_1) w fun vx_1 w =>
  C.draw w fun S_6 w =>
  C.stepS S_6 (sLoad 24 v2_1) fun v15_1 =>
  C.stepS S_6 (sLoad 24 v2_1) fun v16_1 =>
  (C.step (sAlloc 24) w fun v7_1 w =>
  C.keepS S_6 w fun S_7 =>
  C.step (sAlloc 24) w fun v9_1 w =>
  C.keepS S_7 w fun S_8 =>
  C.step (sStore 24 v7_1 v15_1) w fun vx_16 w =>
  C.keepS S_8 w fun S_9 =>
  C.step (sStore 24 v9_1 v16_1) w fun vx_17 w =>
  C.keepT w fun S_10 =>
  flotillalaw14_one_k1 C v2_1 v3_1 v4_1 v6_1 v7_1 v9_1 w Q) ∧
  (C.step (sAlloc 24) w fun v9_2 w =>
  C.keepS S_6 w fun S_11 =>
  C.step (sAlloc 24) w fun v7_2 w =>
  C.keepS S_11 w fun S_12 =>
  C.step (sStore 24 v7_2 v15_1) w fun vx_18 w =>
  C.keepS S_12 w fun S_13 =>
  C.step (sStore 24 v9_2 v16_1) w fun vx_19 w =>
  C.keepT w fun S_14 =>
  flotillalaw14_one_k1 C v2_1 v3_1 v4_1 v6_1 v7_2 v9_2 w Q)
theorem flotillalaw14_one_eq (C : Comb) (a0 : Value) (a1 : Value) (w : World) (Q : Value → World → Prop) : flotillalaw14_one_x C a0 a1 w Q = FunY Try.prog C 2 Try.f12 [a0, a1] w Q := by kernel_rfl
theorem flotillalaw14_one_sound (a0 : Value) (a1 : Value) {w : World} {Q : Value → World → Prop} (h : flotillalaw14_one_x (std Try.prog) a0 a1 w Q) : CallsR Try.prog 12 #[a0, a1] w Q :=
  calls_of_funY mixed Try.func12 (Eq.mp (flotillalaw14_one_eq _ a0 a1 w Q) h)

def flotillalaw14_copied_x (C : Comb) (a0 : Value) (w : World) (Q : Value → World → Prop) : Prop :=
  C.step (sBox 24 a0) w fun v1_1 w =>
  C.step (sAlloc 24) w fun v2_1 w =>
  C.draw w fun S_1 w =>
  C.stepS S_1 (sFieldAddr 24 v1_1 0) fun v5_1 =>
  C.stepS S_1 (sLoad 22 v5_1) fun v6_1 =>
  C.stepS S_1 (sFieldAddr 24 v1_1 1) fun v8_1 =>
  C.stepS S_1 (sLoad 3 v8_1) fun v9_1 =>
  C.step (sBuiltin .append #[22, 22] 22 [false, false] [(.slice none 0 0), v6_1]) w fun v7_1 w =>
  C.keepS S_1 w fun S_2 =>
  C.step (sBuild 24 [(0, v7_1), (1, v9_1)]) w fun v10_1 w =>
  C.keepT w fun S_3 =>
  C.step (sStore 24 v2_1 v10_1) w fun vx_1 w =>
  C.keepT w fun S_4 =>
  C.loadR 24 v2_1 w fun r_1 =>
  Q r_1 w
theorem flotillalaw14_copied_eq (C : Comb) (a0 : Value) (w : World) (Q : Value → World → Prop) : flotillalaw14_copied_x C a0 w Q = FunY Try.prog C 4 Try.f13 [a0] w Q := by kernel_rfl
theorem flotillalaw14_copied_sound (a0 : Value) {w : World} {Q : Value → World → Prop} (h : flotillalaw14_copied_x (std Try.prog) a0 w Q) : CallsR Try.prog 13 #[a0] w Q :=
  calls_of_funY mixed Try.func13 (Eq.mp (flotillalaw14_copied_eq _ a0 w Q) h)

def flotillaref14_May_k1 (C : Comb) (w : World) (Q : Value → World → Prop) : Prop :=
  Q (.bool false) w
def flotillaref14_May_k2 (C : Comb) (w : World) (Q : Value → World → Prop) : Prop :=
  Q (.bool true) w
def flotillaref14_May_k3 (C : Comb) (vs_1 : List Value) (again_1 : List Value → World → Prop) (w : World) (Q : Value → World → Prop) : Prop :=
  C.step (sBin .add 3 (.tmp 30) (.const (.int .i64 1)) (vs_1.getD 0 undef) (.int .i64 1)) w fun v31_1 w =>
  again_1 [v31_1] w
def flotillaref14_May_k4 (C : Comb) (w : World) (Q : Value → World → Prop) : Prop :=
  Q (.bool false) w
def flotillaref14_May_k6 (C : Comb) (vs_2 : List Value) (again_2 : List Value → World → Prop) (w : World) (Q : Value → World → Prop) : Prop :=
  C.step (sBin .add 3 (.tmp 70) (.const (.int .i64 1)) (vs_2.getD 0 undef) (.int .i64 1)) w fun v71_1 w =>
  again_2 [v71_1] w
def flotillaref14_May_k5 (C : Comb) (v1_1 : Value) (vs_1 : List Value) (again_1 : List Value → World → Prop) (v5_1 : Value) (w : World) (Q : Value → World → Prop) : Prop :=
  C.loop [(.int .i64 0)] w fun dv_2 vs_2 w again_2 =>
  C.step (sBin .lss 3 (.tmp 67) (.tmp 68) (vs_2.getD 0 undef) (vs_1.getD 0 undef)) w fun v69_1 w =>
  C.bool v69_1
  (C.draw w fun S_1 w =>
  C.stepS S_1 (sFieldAddr 31 v5_1 0) fun v72_1 =>
  C.stepS S_1 (sLoad 3 v72_1) fun v73_1 =>
  C.stepS S_1 (sBin .geq 3 (.tmp 73) (.const (.int .i64 0)) v73_1 (.int .i64 0)) fun v74_1 =>
  C.bool v74_1
  (C.stepS S_1 (sFieldAddr 24 v1_1 0) fun v76_1 =>
  C.stepS S_1 (sLoad 22 v76_1) fun v77_1 =>
  C.stepS S_1 (sIndexAddr 22 v77_1 (vs_2.getD 0 undef)) fun v79_1 =>
  C.stepS S_1 (sFieldAddr 31 v79_1 0) fun v80_1 =>
  C.stepS S_1 (sLoad 3 v80_1) fun v81_1 =>
  C.stepS S_1 (sFieldAddr 31 v5_1 0) fun v82_1 =>
  C.stepS S_1 (sLoad 3 v82_1) fun v83_1 =>
  C.stepS S_1 (sBin .eql 3 (.tmp 81) (.tmp 83) v81_1 v83_1) fun v84_1 =>
  C.bool v84_1
  (Q (.bool false) w)
  (flotillaref14_May_k6 C vs_2 again_2 w Q))
  (flotillaref14_May_k6 C vs_2 again_2 w Q))
  (flotillaref14_May_k3 C vs_1 again_1 w Q)
def flotillaref14_May_x (C : Comb) (a0 : Value) (w : World) (Q : Value → World → Prop) : Prop :=
  C.step (sBox 24 a0) w fun v1_1 w =>
  C.step (sFieldAddr 24 v1_1 0) w fun v7_1 w =>
  C.step (sLoad 22 v7_1) w fun v8_1 w =>
  C.step (sBuiltin .len #[22] 3 [false] [v8_1]) w fun v9_1 w =>
  C.step (sBin .lss 3 (.tmp 10) (.const (.int .i64 1)) v9_1 (.int .i64 1)) w fun v11_1 w =>
  C.bool v11_1
  (flotillaref14_May_k1 C w Q)
  (C.step (sBin .gtr 3 (.tmp 13) (.const (.int .i64 16)) v9_1 (.int .i64 16)) w fun v14_1 w =>
  C.bool v14_1
  (flotillaref14_May_k1 C w Q)
  (C.step (sFieldAddr 24 v1_1 1) w fun v17_1 w =>
  C.step (sLoad 3 v17_1) w fun v18_1 w =>
  C.step (sBin .lss 3 (.tmp 18) (.const (.int .i64 0)) v18_1 (.int .i64 0)) w fun v19_1 w =>
  C.bool v19_1
  (flotillaref14_May_k1 C w Q)
  (C.step (sFieldAddr 24 v1_1 1) w fun v22_1 w =>
  C.step (sLoad 3 v22_1) w fun v23_1 w =>
  C.step (sBin .geq 3 (.tmp 23) (.tmp 24) v23_1 v9_1) w fun v25_1 w =>
  C.bool v25_1
  (Q (.bool false) w)
  (C.loop [(.int .i64 0)] w fun dv_1 vs_1 w again_1 =>
  C.step (sBin .lss 3 (.tmp 27) (.tmp 28) (vs_1.getD 0 undef) v9_1) w fun v29_1 w =>
  C.bool v29_1
  (C.step (sFieldAddr 24 v1_1 0) w fun v32_1 w =>
  C.step (sLoad 22 v32_1) w fun v33_1 w =>
  C.step (sIndexAddr 22 v33_1 (vs_1.getD 0 undef)) w fun v35_1 w =>
  C.step (sLoad 31 v35_1) w fun v36_1 w =>
  C.step (sAlloc 31) w fun v5_1 w =>
  C.step (sStore 31 v5_1 v36_1) w fun vx_1 w =>
  C.step (sFieldAddr 31 v5_1 0) w fun v37_1 w =>
  C.step (sLoad 3 v37_1) w fun v38_1 w =>
  C.step (sBin .lss 3 (.tmp 38) (.const (.int .i64 (-1))) v38_1 (.int .i64 (-1))) w fun v39_1 w =>
  C.bool v39_1
  (flotillaref14_May_k4 C w Q)
  (C.step (sFieldAddr 31 v5_1 0) w fun v41_1 w =>
  C.step (sLoad 3 v41_1) w fun v42_1 w =>
  C.step (sBin .gtr 3 (.tmp 42) (.const (.int .i64 15)) v42_1 (.int .i64 15)) w fun v43_1 w =>
  C.bool v43_1
  (flotillaref14_May_k4 C w Q)
  (C.step (sFieldAddr 31 v5_1 2) w fun v46_1 w =>
  C.step (sLoad 3 v46_1) w fun v47_1 w =>
  C.step (sBin .lss 3 (.tmp 47) (.const (.int .i64 0)) v47_1 (.int .i64 0)) w fun v48_1 w =>
  C.bool v48_1
  (flotillaref14_May_k4 C w Q)
  (C.step (sFieldAddr 31 v5_1 2) w fun v51_1 w =>
  C.step (sLoad 3 v51_1) w fun v52_1 w =>
  C.step (sBin .gtr 3 (.tmp 52) (.const (.int .i64 1048576)) v52_1 (.int .i64 1048576)) w fun v53_1 w =>
  C.bool v53_1
  (Q (.bool false) w)
  (C.step (sFieldAddr 31 v5_1 0) w fun v55_1 w =>
  C.step (sLoad 3 v55_1) w fun v56_1 w =>
  C.step (sBin .eql 3 (.tmp 56) (.const (.int .i64 (-1))) v56_1 (.int .i64 (-1))) w fun v57_1 w =>
  C.bool v57_1
  (C.step (sFieldAddr 31 v5_1 1) w fun v59_1 w =>
  C.step (sLoad 4 v59_1) w fun v60_1 w =>
  C.bool v60_1
  (Q (.bool false) w)
  (C.step (sFieldAddr 31 v5_1 2) w fun v62_1 w =>
  C.step (sLoad 3 v62_1) w fun v63_1 w =>
  C.step (sBin .neq 3 (.tmp 63) (.const (.int .i64 0)) v63_1 (.int .i64 0)) w fun v64_1 w =>
  C.bool v64_1
  (Q (.bool false) w)
  (flotillaref14_May_k5 C v1_1 vs_1 again_1 v5_1 w Q)))
  (flotillaref14_May_k5 C v1_1 vs_1 again_1 v5_1 w Q))))))
  (flotillaref14_May_k2 C w Q)))))
theorem flotillaref14_May_eq (C : Comb) (a0 : Value) (w : World) (Q : Value → World → Prop) : flotillaref14_May_x C a0 w Q = FunY Try.prog C 2 Try.f14 [a0] w Q := by kernel_rfl
theorem flotillaref14_May_sound (a0 : Value) {w : World} {Q : Value → World → Prop} (h : flotillaref14_May_x (std Try.prog) a0 w Q) : CallsR Try.prog 14 #[a0] w Q :=
  calls_of_funY mixed Try.func14 (Eq.mp (flotillaref14_May_eq _ a0 w Q) h)

def flotillalaw14_made_k1 (C : Comb) (v4_1 : Value) (v5_1 : Value) (w : World) (Q : Value → World → Prop) : Prop :=
  C.step (sLoad 24 v5_1) w fun v93_1 w =>
  C.step (sStore 24 v4_1 v93_1) w fun vx_2 w =>
  C.loadR 24 v4_1 w fun r_1 =>
  Q r_1 w
def flotillalaw14_made_k2 (C : Comb) (vs_1 : List Value) (again_1 : List Value → World → Prop) (w : World) (Q : Value → World → Prop) : Prop :=
  C.step (sBin .add 3 (.tmp 23) (.const (.int .i64 1)) (vs_1.getD 0 undef) (.int .i64 1)) w fun v24_1 w =>
  again_1 [v24_1] w
def flotillalaw14_made_k3 (C : Comb) (v5_1 : Value) (vs_1 : List Value) (again_1 : List Value → World → Prop) (v8_1 : Value) (u9_3 : Value) (w : World) (Q : Value → World → Prop) : Prop :=
  C.step (sBin .eql 25 (.tmp 90) (.const (.int .i64 0)) u9_3 (.int .i64 0)) w fun v91_1 w =>
  C.bool v91_1
  (C.step (sLoad 24 v8_1) w fun v92_1 w =>
  C.step (sStore 24 v5_1 v92_1) w fun vx_4 w =>
  flotillalaw14_made_k2 C vs_1 again_1 w Q)
  (flotillalaw14_made_k2 C vs_1 again_1 w Q)
def flotillalaw14_made_x (C : Comb) (a0 : Value) (a1 : Value) (w : World) (Q : Value → World → Prop) : Prop :=
  C.step (sAlloc 24) w fun v4_1 w =>
  C.calls 9 #[a0] w fun v12_1 w =>
  C.step (sExtract v12_1 0) w fun v13_1 w =>
  C.step (sExtract v12_1 1) w fun v14_1 w =>
  C.step (sAlloc 24) w fun v5_1 w =>
  C.step (sStore 24 v5_1 v13_1) w fun vx_1 w =>
  C.loop [(.int .i64 0)] w fun dv_1 vs_1 w again_1 =>
  C.step (sBuiltin .len #[40] 3 [false] [a1]) w fun v17_1 w =>
  C.step (sBin .lss 3 (.tmp 15) (.tmp 17) (vs_1.getD 0 undef) v17_1) w fun v18_1 w =>
  C.bool v18_1
  (C.step (sBin .lss 3 (.tmp 20) (.const (.int .i64 80)) (vs_1.getD 0 undef) (.int .i64 80)) w fun v21_1 w =>
  C.bool v21_1
  (C.step (sLoad 24 v5_1) w fun v25_1 w =>
  C.step (sAlloc 24) w fun v8_1 w =>
  C.step (sStore 24 v8_1 v25_1) w fun vx_3 w =>
  C.step (sIndexAddr 40 a1 (vs_1.getD 0 undef)) w fun v28_1 w =>
  C.step (sFieldAddr 34 v28_1 0) w fun v29_1 w =>
  C.step (sLoad 3 v29_1) w fun v30_1 w =>
  C.step (sBin .eql 3 (.tmp 30) (.const (.int .i64 0)) v30_1 (.int .i64 0)) w fun v38_1 w =>
  C.bool v38_1
  (C.draw w fun S_1 w =>
  C.stepS S_1 (sLoad 24 v5_1) fun v40_1 =>
  C.stepS S_1 (sIndexAddr 40 a1 (vs_1.getD 0 undef)) fun v43_1 =>
  C.stepS S_1 (sFieldAddr 34 v43_1 1) fun v44_1 =>
  C.stepS S_1 (sLoad 3 v44_1) fun v45_1 =>
  C.calls 21 #[v40_1, v45_1] w fun v46_1 w =>
  C.keepT w fun S_2 =>
  C.stepS S_2 (sExtract v46_1 0) fun v47_1 =>
  C.stepS S_2 (sExtract v46_1 1) fun v48_1 =>
  C.step (sStore 24 v8_1 v47_1) w fun vx_5 w =>
  C.keepS S_2 w fun S_3 =>
  flotillalaw14_made_k3 C v5_1 vs_1 again_1 v8_1 v48_1 w Q)
  (C.step (sBin .eql 3 (.tmp 30) (.const (.int .i64 1)) v30_1 (.int .i64 1)) w fun v50_1 w =>
  C.bool v50_1
  (C.draw w fun S_4 w =>
  C.stepS S_4 (sLoad 24 v5_1) fun v52_1 =>
  C.stepS S_4 (sIndexAddr 40 a1 (vs_1.getD 0 undef)) fun v55_1 =>
  C.stepS S_4 (sFieldAddr 34 v55_1 1) fun v56_1 =>
  C.stepS S_4 (sLoad 3 v56_1) fun v57_1 =>
  C.calls 20 #[v52_1, v57_1] w fun v58_1 w =>
  C.keepT w fun S_5 =>
  C.stepS S_5 (sExtract v58_1 0) fun v59_1 =>
  C.stepS S_5 (sExtract v58_1 1) fun v60_1 =>
  C.step (sStore 24 v8_1 v59_1) w fun vx_6 w =>
  C.keepS S_5 w fun S_6 =>
  flotillalaw14_made_k3 C v5_1 vs_1 again_1 v8_1 v60_1 w Q)
  (C.step (sBin .eql 3 (.tmp 30) (.const (.int .i64 2)) v30_1 (.int .i64 2)) w fun v62_1 w =>
  C.bool v62_1
  (C.draw w fun S_7 w =>
  C.stepS S_7 (sLoad 24 v5_1) fun v64_1 =>
  C.stepS S_7 (sIndexAddr 40 a1 (vs_1.getD 0 undef)) fun v67_1 =>
  C.stepS S_7 (sFieldAddr 34 v67_1 1) fun v68_1 =>
  C.stepS S_7 (sLoad 3 v68_1) fun v69_1 =>
  C.calls 18 #[v64_1, v69_1] w fun v70_1 w =>
  C.keepT w fun S_8 =>
  C.stepS S_8 (sExtract v70_1 0) fun v71_1 =>
  C.stepS S_8 (sExtract v70_1 1) fun v72_1 =>
  C.step (sStore 24 v8_1 v71_1) w fun vx_7 w =>
  C.keepS S_8 w fun S_9 =>
  flotillalaw14_made_k3 C v5_1 vs_1 again_1 v8_1 v72_1 w Q)
  (C.step (sBin .eql 3 (.tmp 30) (.const (.int .i64 3)) v30_1 (.int .i64 3)) w fun v74_1 w =>
  C.bool v74_1
  (C.draw w fun S_10 w =>
  C.stepS S_10 (sLoad 24 v5_1) fun v76_1 =>
  C.stepS S_10 (sIndexAddr 40 a1 (vs_1.getD 0 undef)) fun v79_1 =>
  C.stepS S_10 (sFieldAddr 34 v79_1 1) fun v80_1 =>
  C.stepS S_10 (sLoad 3 v80_1) fun v81_1 =>
  C.stepS S_10 (sIndexAddr 40 a1 (vs_1.getD 0 undef)) fun v84_1 =>
  C.stepS S_10 (sFieldAddr 34 v84_1 2) fun v85_1 =>
  C.stepS S_10 (sLoad 3 v85_1) fun v86_1 =>
  C.calls 25 #[v76_1, v81_1, v86_1] w fun v87_1 w =>
  C.keepT w fun S_11 =>
  C.stepS S_11 (sExtract v87_1 0) fun v88_1 =>
  C.stepS S_11 (sExtract v87_1 1) fun v89_1 =>
  C.step (sStore 24 v8_1 v88_1) w fun vx_8 w =>
  C.keepS S_11 w fun S_12 =>
  flotillalaw14_made_k3 C v5_1 vs_1 again_1 v8_1 v89_1 w Q)
  (C.step (sLoad 24 v5_1) w fun v32_1 w =>
  C.calls 16 #[v32_1] w fun v33_1 w =>
  C.step (sExtract v33_1 0) w fun v34_1 w =>
  C.step (sExtract v33_1 1) w fun v35_1 w =>
  C.step (sExtract v33_1 2) w fun v36_1 w =>
  C.step (sStore 24 v8_1 v35_1) w fun vx_9 w =>
  flotillalaw14_made_k3 C v5_1 vs_1 again_1 v8_1 v36_1 w Q)))))
  (flotillalaw14_made_k1 C v4_1 v5_1 w Q))
  (flotillalaw14_made_k1 C v4_1 v5_1 w Q)
theorem flotillalaw14_made_eq (C : Comb) (a0 : Value) (a1 : Value) (w : World) (Q : Value → World → Prop) : flotillalaw14_made_x C a0 a1 w Q = FunY Try.prog C 2 Try.f15 [a0, a1] w Q := by kernel_rfl
theorem flotillalaw14_made_sound (a0 : Value) (a1 : Value) {w : World} {Q : Value → World → Prop} (h : flotillalaw14_made_x (std Try.prog) a0 a1 w Q) : CallsR Try.prog 15 #[a0, a1] w Q :=
  calls_of_funY mixed Try.func15 (Eq.mp (flotillalaw14_made_eq _ a0 a1 w Q) h)

def clock_Next_k1 (C : Comb) (v3_1 : Value) (v5_1 : Value) (u7_1 : Value) (w : World) (Q : Value → World → Prop) : Prop :=
  C.step (sBin .lss 3 (.tmp 58) (.const (.int .i64 0)) u7_1 (.int .i64 0)) w fun v59_1 w =>
  C.bool v59_1
  (C.step (sBuild 24 []) w fun v60_1 w =>
  C.step (sStore 24 v3_1 v60_1) w fun vx_3 w =>
  C.loadR 24 v3_1 w fun r_2 =>
  Q (.tuple #[(.int .i64 0), r_2, (.int .i64 15)]) w)
  (C.draw w fun S_1 w =>
  C.stepS S_1 (sLoad 24 v5_1) fun v62_1 =>
  C.step (sStore 24 v3_1 v62_1) w fun vx_4 w =>
  C.keepT w fun S_2 =>
  C.loadR 24 v3_1 w fun r_3 =>
  Q (.tuple #[u7_1, r_3, (.int .i64 0)]) w)
def clock_Next_k2 (C : Comb) (vs_1 : List Value) (again_1 : List Value → World → Prop) (u8_2 : Value) (u9_2 : Value) (u7_2 : Value) (w : World) (Q : Value → World → Prop) : Prop :=
  C.step (sBin .add 3 (.tmp 22) (.const (.int .i64 1)) (vs_1.getD 3 undef) (.int .i64 1)) w fun v57_1 w =>
  again_1 [u8_2, u9_2, u7_2, v57_1] w
def clock_Next_x (C : Comb) (a0 : Value) (w : World) (Q : Value → World → Prop) : Prop :=
  C.step (sBox 24 a0) w fun v1_1 w =>
  C.step (sAlloc 24) w fun v3_1 w =>
  C.step (sLoad 24 v1_1) w fun v10_1 w =>
  C.calls 11 #[v10_1] w fun v11_1 w =>
  C.step (sBin .neq 25 (.tmp 11) (.const (.int .i64 0)) v11_1 (.int .i64 0)) w fun v12_1 w =>
  C.bool v12_1
  (C.step (sBuild 24 []) w fun v13_1 w =>
  C.step (sStore 24 v3_1 v13_1) w fun vx_1 w =>
  C.loadR 24 v3_1 w fun r_1 =>
  Q (.tuple #[(.int .i64 0), r_1, (.int .i64 1)]) w)
  (C.step (sLoad 24 v1_1) w fun v14_1 w =>
  C.calls 29 #[v14_1] w fun v15_1 w =>
  C.step (sAlloc 24) w fun v5_1 w =>
  C.step (sStore 24 v5_1 v15_1) w fun vx_2 w =>
  C.step (sFieldAddr 24 v5_1 0) w fun v16_1 w =>
  C.step (sLoad 22 v16_1) w fun v17_1 w =>
  C.step (sBuiltin .len #[22] 3 [false] [v17_1]) w fun v18_1 w =>
  C.step (sBin .mul 3 (.const (.int .i64 2)) (.tmp 19) (.int .i64 2) v18_1) w fun v20_1 w =>
  C.step (sBin .add 3 (.tmp 20) (.const (.int .i64 1)) v20_1 (.int .i64 1)) w fun v21_1 w =>
  C.loop [undef, undef, (.int .i64 (-1)), (.int .i64 0)] w fun dv_1 vs_1 w again_1 =>
  C.step (sBin .lss 3 (.tmp 22) (.tmp 21) (vs_1.getD 3 undef) v21_1) w fun v23_1 w =>
  C.bool v23_1
  (C.step (sFieldAddr 24 v5_1 1) w fun v24_1 w =>
  C.step (sLoad 3 v24_1) w fun v25_1 w =>
  C.step (sFieldAddr 24 v5_1 0) w fun v26_1 w =>
  C.step (sLoad 22 v26_1) w fun v27_1 w =>
  C.step (sIndexAddr 22 v27_1 v25_1) w fun v29_1 w =>
  C.step (sBin .add 3 (.tmp 30) (.const (.int .i64 1)) v25_1 (.int .i64 1)) w fun v31_1 w =>
  C.step (sBin .rem 3 (.tmp 31) (.tmp 32) v31_1 v18_1) w fun v33_1 w =>
  C.step (sFieldAddr 24 v5_1 1) w fun v34_1 w =>
  C.step (sStore 3 v34_1 v33_1) w fun vx_5 w =>
  C.step (sNil v29_1) w fun v38_1 w =>
  C.step (sFieldAddr 31 v38_1 0) w fun v39_1 w =>
  C.step (sLoad 3 v39_1) w fun v40_1 w =>
  C.step (sBin .eql 3 (.tmp 40) (.const (.int .i64 (-1))) v40_1 (.int .i64 (-1))) w fun v41_1 w =>
  C.bool v41_1
  (clock_Next_k1 C v3_1 v5_1 v25_1 w Q)
  (C.step (sNil v29_1) w fun v45_1 w =>
  C.step (sFieldAddr 31 v45_1 2) w fun v46_1 w =>
  C.step (sLoad 3 v46_1) w fun v47_1 w =>
  C.step (sBin .gtr 3 (.tmp 47) (.const (.int .i64 0)) v47_1 (.int .i64 0)) w fun v48_1 w =>
  C.bool v48_1
  (clock_Next_k2 C vs_1 again_1 v25_1 v29_1 (vs_1.getD 2 undef) w Q)
  (C.step (sNil v29_1) w fun v51_1 w =>
  C.step (sFieldAddr 31 v51_1 1) w fun v52_1 w =>
  C.step (sLoad 4 v52_1) w fun v53_1 w =>
  C.bool v53_1
  (C.step (sNil v29_1) w fun v55_1 w =>
  C.step (sFieldAddr 31 v55_1 1) w fun v56_1 w =>
  C.step (sStore 4 v56_1 (.bool false)) w fun vx_6 w =>
  clock_Next_k2 C vs_1 again_1 v25_1 v29_1 (vs_1.getD 2 undef) w Q)
  (clock_Next_k1 C v3_1 v5_1 v25_1 w Q))))
  (clock_Next_k1 C v3_1 v5_1 (vs_1.getD 2 undef) w Q))
theorem clock_Next_eq (C : Comb) (a0 : Value) (w : World) (Q : Value → World → Prop) : clock_Next_x C a0 w Q = FunY Try.prog C 10 Try.f16 [a0] w Q := by kernel_rfl
theorem clock_Next_sound (a0 : Value) {w : World} {Q : Value → World → Prop} (h : clock_Next_x (std Try.prog) a0 w Q) : CallsR Try.prog 16 #[a0] w Q :=
  calls_of_funY mixed Try.func16 (Eq.mp (clock_Next_eq _ a0 w Q) h)

def flotillalaw14_loose_k1 (C : Comb) (u3_1 : Value) (w : World) (Q : Value → World → Prop) : Prop :=
  Q u3_1 w
def flotillalaw14_loose_k2 (C : Comb) (vs_1 : List Value) (again_1 : List Value → World → Prop) (u3_2 : Value) (w : World) (Q : Value → World → Prop) : Prop :=
  C.step (sBin .add 3 (.tmp 10) (.const (.int .i64 1)) (vs_1.getD 1 undef) (.int .i64 1)) w fun v11_1 w =>
  again_1 [u3_2, v11_1] w
def flotillalaw14_loose_x (C : Comb) (a0 : Value) (w : World) (Q : Value → World → Prop) : Prop :=
  C.step (sBox 24 a0) w fun v1_1 w =>
  C.loop [(.int .i64 0), (.int .i64 0)] w fun dv_1 vs_1 w again_1 =>
  C.step (sFieldAddr 24 v1_1 0) w fun v6_1 w =>
  C.step (sLoad 22 v6_1) w fun v7_1 w =>
  C.step (sBuiltin .len #[22] 3 [false] [v7_1]) w fun v8_1 w =>
  C.step (sBin .lss 3 (.tmp 5) (.tmp 8) (vs_1.getD 1 undef) v8_1) w fun v9_1 w =>
  C.bool v9_1
  (C.step (sFieldAddr 24 v1_1 0) w fun v12_1 w =>
  C.step (sLoad 22 v12_1) w fun v13_1 w =>
  C.step (sIndexAddr 22 v13_1 (vs_1.getD 1 undef)) w fun v15_1 w =>
  C.step (sFieldAddr 31 v15_1 2) w fun v16_1 w =>
  C.step (sLoad 3 v16_1) w fun v17_1 w =>
  C.step (sBin .eql 3 (.tmp 17) (.const (.int .i64 0)) v17_1 (.int .i64 0)) w fun v18_1 w =>
  C.bool v18_1
  (C.step (sBin .add 3 (.tmp 19) (.const (.int .i64 1)) (vs_1.getD 0 undef) (.int .i64 1)) w fun v20_1 w =>
  flotillalaw14_loose_k2 C vs_1 again_1 v20_1 w Q)
  (flotillalaw14_loose_k2 C vs_1 again_1 (vs_1.getD 0 undef) w Q))
  (flotillalaw14_loose_k1 C (vs_1.getD 0 undef) w Q)
theorem flotillalaw14_loose_eq (C : Comb) (a0 : Value) (w : World) (Q : Value → World → Prop) : flotillalaw14_loose_x C a0 w Q = FunY Try.prog C 5 Try.f17 [a0] w Q := by kernel_rfl
theorem flotillalaw14_loose_sound (a0 : Value) {w : World} {Q : Value → World → Prop} (h : flotillalaw14_loose_x (std Try.prog) a0 w Q) : CallsR Try.prog 17 #[a0] w Q :=
  calls_of_funY mixed Try.func17 (Eq.mp (flotillalaw14_loose_eq _ a0 w Q) h)

def clock_Touch_x (C : Comb) (a0 : Value) (a1 : Value) (w : World) (Q : Value → World → Prop) : Prop :=
  C.step (sBox 24 a0) w fun v2_1 w =>
  C.step (sAlloc 24) w fun v4_1 w =>
  C.step (sLoad 24 v2_1) w fun v10_1 w =>
  C.calls 30 #[v10_1, a1] w fun v12_1 w =>
  C.step (sExtract v12_1 0) w fun v13_1 w =>
  C.step (sExtract v12_1 1) w fun v14_1 w =>
  C.step (sExtract v12_1 2) w fun v15_1 w =>
  C.step (sAlloc 24) w fun v6_1 w =>
  C.step (sStore 24 v6_1 v13_1) w fun vx_1 w =>
  C.step (sBin .neq 25 (.tmp 16) (.const (.int .i64 0)) v15_1 (.int .i64 0)) w fun v17_1 w =>
  C.bool v17_1
  (C.step (sBuild 24 []) w fun v18_1 w =>
  C.step (sStore 24 v4_1 v18_1) w fun vx_2 w =>
  C.loadR 24 v4_1 w fun r_1 =>
  Q (.tuple #[r_1, v15_1]) w)
  (C.step (sNil v14_1) w fun v21_1 w =>
  C.step (sFieldAddr 31 v21_1 1) w fun v22_1 w =>
  C.step (sStore 4 v22_1 (.bool true)) w fun vx_3 w =>
  C.step (sLoad 24 v6_1) w fun v23_1 w =>
  C.step (sStore 24 v4_1 v23_1) w fun vx_4 w =>
  C.loadR 24 v4_1 w fun r_2 =>
  Q (.tuple #[r_2, (.int .i64 0)]) w)
theorem clock_Touch_eq (C : Comb) (a0 : Value) (a1 : Value) (w : World) (Q : Value → World → Prop) : clock_Touch_x C a0 a1 w Q = FunY Try.prog C 9 Try.f18 [a0, a1] w Q := by kernel_rfl
theorem clock_Touch_sound (a0 : Value) (a1 : Value) {w : World} {Q : Value → World → Prop} (h : clock_Touch_x (std Try.prog) a0 a1 w Q) : CallsR Try.prog 18 #[a0, a1] w Q :=
  calls_of_funY mixed Try.func18 (Eq.mp (clock_Touch_eq _ a0 a1 w Q) h)

def clock_At_k1 (C : Comb) (w : World) (Q : Value → World → Prop) : Prop :=
  Q (.int .i64 (-1)) w
def clock_At_x (C : Comb) (a0 : Value) (a1 : Value) (w : World) (Q : Value → World → Prop) : Prop :=
  C.step (sBox 24 a0) w fun v2_1 w =>
  C.step (sBin .lss 3 (.tmp 7) (.const (.int .i64 0)) a1 (.int .i64 0)) w fun v8_1 w =>
  C.bool v8_1
  (Q (.int .i64 (-1)) w)
  (C.step (sLoad 24 v2_1) w fun v10_1 w =>
  C.calls 11 #[v10_1] w fun v11_1 w =>
  C.step (sBin .neq 25 (.tmp 11) (.const (.int .i64 0)) v11_1 (.int .i64 0)) w fun v12_1 w =>
  C.bool v12_1
  (Q (.int .i64 (-1)) w)
  (C.step (sFieldAddr 24 v2_1 0) w fun v14_1 w =>
  C.step (sLoad 22 v14_1) w fun v15_1 w =>
  C.step (sBuiltin .len #[22] 3 [false] [v15_1]) w fun v16_1 w =>
  C.loop [undef, undef, (.int .i64 0), (.int .i64 0)] w fun dv_1 vs_1 w again_1 =>
  C.step (sBin .lss 3 (.tmp 17) (.tmp 16) (vs_1.getD 3 undef) v16_1) w fun v18_1 w =>
  C.bool v18_1
  (C.step (sIndexAddr 22 v15_1 (vs_1.getD 3 undef)) w fun v20_1 w =>
  C.step (sLoad 31 v20_1) w fun v21_1 w =>
  C.step (sAlloc 31) w fun v6_1 w =>
  C.step (sStore 31 v6_1 v21_1) w fun vx_1 w =>
  C.step (sFieldAddr 31 v6_1 0) w fun v22_1 w =>
  C.step (sLoad 3 v22_1) w fun v23_1 w =>
  C.step (sBin .eql 3 (.tmp 23) (.tmp 24) v23_1 a1) w fun v25_1 w =>
  C.bool v25_1
  (Q (vs_1.getD 3 undef) w)
  (C.step (sBin .add 3 (.tmp 17) (.const (.int .i64 1)) (vs_1.getD 3 undef) (.int .i64 1)) w fun v27_1 w =>
  again_1 [v6_1, (vs_1.getD 3 undef), (vs_1.getD 2 undef), v27_1] w))
  (clock_At_k1 C w Q)))
theorem clock_At_eq (C : Comb) (a0 : Value) (a1 : Value) (w : World) (Q : Value → World → Prop) : clock_At_x C a0 a1 w Q = FunY Try.prog C 7 Try.f19 [a0, a1] w Q := by kernel_rfl
theorem clock_At_sound (a0 : Value) (a1 : Value) {w : World} {Q : Value → World → Prop} (h : clock_At_x (std Try.prog) a0 a1 w Q) : CallsR Try.prog 19 #[a0, a1] w Q :=
  calls_of_funY mixed Try.func19 (Eq.mp (clock_At_eq _ a0 a1 w Q) h)

def clock_Drop_x (C : Comb) (a0 : Value) (a1 : Value) (w : World) (Q : Value → World → Prop) : Prop :=
  C.step (sBox 24 a0) w fun v2_1 w =>
  C.step (sAlloc 24) w fun v4_1 w =>
  C.step (sLoad 24 v2_1) w fun v10_1 w =>
  C.calls 30 #[v10_1, a1] w fun v12_1 w =>
  C.step (sExtract v12_1 0) w fun v13_1 w =>
  C.step (sExtract v12_1 1) w fun v14_1 w =>
  C.step (sExtract v12_1 2) w fun v15_1 w =>
  C.step (sAlloc 24) w fun v6_1 w =>
  C.step (sStore 24 v6_1 v13_1) w fun vx_1 w =>
  C.step (sBin .neq 25 (.tmp 16) (.const (.int .i64 0)) v15_1 (.int .i64 0)) w fun v17_1 w =>
  C.bool v17_1
  (C.step (sBuild 24 []) w fun v18_1 w =>
  C.step (sStore 24 v4_1 v18_1) w fun vx_2 w =>
  C.loadR 24 v4_1 w fun r_1 =>
  Q (.tuple #[r_1, v15_1]) w)
  (C.step (sNil v14_1) w fun v21_1 w =>
  C.step (sFieldAddr 31 v21_1 2) w fun v22_1 w =>
  C.step (sLoad 3 v22_1) w fun v23_1 w =>
  C.step (sBin .gtr 3 (.tmp 23) (.const (.int .i64 0)) v23_1 (.int .i64 0)) w fun v24_1 w =>
  C.bool v24_1
  (C.step (sBuild 24 []) w fun v25_1 w =>
  C.step (sStore 24 v4_1 v25_1) w fun vx_3 w =>
  C.loadR 24 v4_1 w fun r_2 =>
  Q (.tuple #[r_2, (.int .i64 10)]) w)
  (C.step (sBuild 31 [(0, (.int .i64 (-1)))]) w fun v27_1 w =>
  C.step (sNil v14_1) w fun v28_1 w =>
  C.step (sStore 31 v28_1 v27_1) w fun vx_4 w =>
  C.step (sLoad 24 v6_1) w fun v29_1 w =>
  C.step (sStore 24 v4_1 v29_1) w fun vx_5 w =>
  C.loadR 24 v4_1 w fun r_3 =>
  Q (.tuple #[r_3, (.int .i64 0)]) w))
theorem clock_Drop_eq (C : Comb) (a0 : Value) (a1 : Value) (w : World) (Q : Value → World → Prop) : clock_Drop_x C a0 a1 w Q = FunY Try.prog C 9 Try.f20 [a0, a1] w Q := by kernel_rfl
theorem clock_Drop_sound (a0 : Value) (a1 : Value) {w : World} {Q : Value → World → Prop} (h : clock_Drop_x (std Try.prog) a0 a1 w Q) : CallsR Try.prog 20 #[a0, a1] w Q :=
  calls_of_funY mixed Try.func20 (Eq.mp (clock_Drop_eq _ a0 a1 w Q) h)

def clock_Put_k1 (C : Comb) (v4_1 : Value) (w : World) (Q : Value → World → Prop) : Prop :=
  C.step (sBuild 24 []) w fun v20_1 w =>
  C.step (sStore 24 v4_1 v20_1) w fun vx_1 w =>
  C.loadR 24 v4_1 w fun r_1 =>
  Q (.tuple #[r_1, (.int .i64 1)]) w
def clock_Put_k2 (C : Comb) (v4_1 : Value) (w : World) (Q : Value → World → Prop) : Prop :=
  C.step (sBuild 24 []) w fun v47_1 w =>
  C.step (sStore 24 v4_1 v47_1) w fun vx_4 w =>
  C.loadR 24 v4_1 w fun r_4 =>
  Q (.tuple #[r_4, (.int .i64 15)]) w
def clock_Put_x (C : Comb) (a0 : Value) (a1 : Value) (w : World) (Q : Value → World → Prop) : Prop :=
  C.step (sBox 24 a0) w fun v2_1 w =>
  C.step (sAlloc 24) w fun v4_1 w =>
  C.step (sLoad 24 v2_1) w fun v9_1 w =>
  C.calls 11 #[v9_1] w fun v10_1 w =>
  C.step (sBin .neq 25 (.tmp 10) (.const (.int .i64 0)) v10_1 (.int .i64 0)) w fun v11_1 w =>
  C.bool v11_1
  (clock_Put_k1 C v4_1 w Q)
  (C.step (sBin .lss 3 (.tmp 13) (.const (.int .i64 0)) a1 (.int .i64 0)) w fun v14_1 w =>
  C.bool v14_1
  (clock_Put_k1 C v4_1 w Q)
  (C.step (sBin .geq 3 (.tmp 17) (.const (.int .i64 16)) a1 (.int .i64 16)) w fun v18_1 w =>
  C.bool v18_1
  (C.step (sBuild 24 []) w fun v20_2 w =>
  C.step (sStore 24 v4_1 v20_2) w fun vx_2 w =>
  C.loadR 24 v4_1 w fun r_2 =>
  Q (.tuple #[r_2, (.int .i64 1)]) w)
  (C.step (sLoad 24 v2_1) w fun v21_1 w =>
  C.calls 19 #[v21_1, a1] w fun v23_1 w =>
  C.step (sBin .geq 3 (.tmp 23) (.const (.int .i64 0)) v23_1 (.int .i64 0)) w fun v24_1 w =>
  C.bool v24_1
  (C.step (sBuild 24 []) w fun v25_1 w =>
  C.step (sStore 24 v4_1 v25_1) w fun vx_3 w =>
  C.loadR 24 v4_1 w fun r_3 =>
  Q (.tuple #[r_3, (.int .i64 9)]) w)
  (C.step (sFieldAddr 24 v2_1 0) w fun v26_1 w =>
  C.step (sLoad 22 v26_1) w fun v27_1 w =>
  C.step (sBuiltin .len #[22] 3 [false] [v27_1]) w fun v28_1 w =>
  C.loop [undef, undef, undef, (.int .i64 0), (.int .i64 0)] w fun dv_1 vs_1 w again_1 =>
  C.step (sBin .lss 3 (.tmp 29) (.tmp 28) (vs_1.getD 4 undef) v28_1) w fun v30_1 w =>
  C.bool v30_1
  (C.step (sIndexAddr 22 v27_1 (vs_1.getD 4 undef)) w fun v32_1 w =>
  C.step (sLoad 31 v32_1) w fun v33_1 w =>
  C.step (sAlloc 31) w fun v7_1 w =>
  C.step (sStore 31 v7_1 v33_1) w fun vx_5 w =>
  C.step (sFieldAddr 31 v7_1 0) w fun v34_1 w =>
  C.step (sLoad 3 v34_1) w fun v35_1 w =>
  C.step (sBin .eql 3 (.tmp 35) (.const (.int .i64 (-1))) v35_1 (.int .i64 (-1))) w fun v36_1 w =>
  C.bool v36_1
  (C.step (sLoad 24 v2_1) w fun v37_1 w =>
  C.calls 29 #[v37_1] w fun v38_1 w =>
  C.step (sAlloc 24) w fun v8_1 w =>
  C.step (sStore 24 v8_1 v38_1) w fun vx_6 w =>
  C.step (sFieldAddr 24 v8_1 0) w fun v39_1 w =>
  C.step (sLoad 22 v39_1) w fun v40_1 w =>
  C.step (sBuild 31 [(0, a1), (1, (.bool true))]) w fun v43_1 w =>
  C.step (sIndexAddr 22 v40_1 (vs_1.getD 4 undef)) w fun v44_1 w =>
  C.step (sStore 31 v44_1 v43_1) w fun vx_7 w =>
  C.step (sLoad 24 v8_1) w fun v45_1 w =>
  C.step (sStore 24 v4_1 v45_1) w fun vx_8 w =>
  C.loadR 24 v4_1 w fun r_5 =>
  Q (.tuple #[r_5, (.int .i64 0)]) w)
  (C.step (sBin .add 3 (.tmp 29) (.const (.int .i64 1)) (vs_1.getD 4 undef) (.int .i64 1)) w fun v46_1 w =>
  again_1 [v7_1, (vs_1.getD 4 undef), (vs_1.getD 2 undef), (vs_1.getD 3 undef), v46_1] w))
  (clock_Put_k2 C v4_1 w Q)))))
theorem clock_Put_eq (C : Comb) (a0 : Value) (a1 : Value) (w : World) (Q : Value → World → Prop) : clock_Put_x C a0 a1 w Q = FunY Try.prog C 9 Try.f21 [a0, a1] w Q := by kernel_rfl
theorem clock_Put_sound (a0 : Value) (a1 : Value) {w : World} {Q : Value → World → Prop} (h : clock_Put_x (std Try.prog) a0 a1 w Q) : CallsR Try.prog 21 #[a0, a1] w Q :=
  calls_of_funY mixed Try.func21 (Eq.mp (clock_Put_eq _ a0 a1 w Q) h)

def flotillaref14_Put_k1 (C : Comb) (v4_1 : Value) (w : World) (Q : Value → World → Prop) : Prop :=
  C.step (sBuild 24 []) w fun v18_1 w =>
  C.step (sStore 24 v4_1 v18_1) w fun vx_1 w =>
  C.loadR 24 v4_1 w fun r_1 =>
  Q (.tuple #[r_1, (.int .i64 1)]) w
def flotillaref14_Put_k2 (C : Comb) (v4_1 : Value) (w : World) (Q : Value → World → Prop) : Prop :=
  C.step (sBuild 24 []) w fun v43_1 w =>
  C.step (sStore 24 v4_1 v43_1) w fun vx_4 w =>
  C.loadR 24 v4_1 w fun r_4 =>
  Q (.tuple #[r_4, (.int .i64 15)]) w
def flotillaref14_Put_x (C : Comb) (a0 : Value) (a1 : Value) (w : World) (Q : Value → World → Prop) : Prop :=
  C.step (sBox 24 a0) w fun v2_1 w =>
  C.step (sAlloc 24) w fun v4_1 w =>
  C.step (sLoad 24 v2_1) w fun v7_1 w =>
  C.calls 14 #[v7_1] w fun v8_1 w =>
  C.step (sUn .not v8_1) w fun v9_1 w =>
  C.bool v9_1
  (flotillaref14_Put_k1 C v4_1 w Q)
  (C.step (sBin .lss 3 (.tmp 11) (.const (.int .i64 0)) a1 (.int .i64 0)) w fun v12_1 w =>
  C.bool v12_1
  (flotillaref14_Put_k1 C v4_1 w Q)
  (C.step (sBin .gtr 3 (.tmp 15) (.const (.int .i64 15)) a1 (.int .i64 15)) w fun v16_1 w =>
  C.bool v16_1
  (C.step (sBuild 24 []) w fun v18_2 w =>
  C.step (sStore 24 v4_1 v18_2) w fun vx_2 w =>
  C.loadR 24 v4_1 w fun r_2 =>
  Q (.tuple #[r_2, (.int .i64 1)]) w)
  (C.step (sLoad 24 v2_1) w fun v19_1 w =>
  C.calls 28 #[v19_1, a1] w fun v21_1 w =>
  C.step (sBin .geq 3 (.tmp 21) (.const (.int .i64 0)) v21_1 (.int .i64 0)) w fun v22_1 w =>
  C.bool v22_1
  (C.step (sBuild 24 []) w fun v23_1 w =>
  C.step (sStore 24 v4_1 v23_1) w fun vx_3 w =>
  C.loadR 24 v4_1 w fun r_3 =>
  Q (.tuple #[r_3, (.int .i64 9)]) w)
  (C.loop [(.int .i64 0), (.int .i64 0)] w fun dv_1 vs_1 w again_1 =>
  C.step (sFieldAddr 24 v2_1 0) w fun v25_1 w =>
  C.step (sLoad 22 v25_1) w fun v26_1 w =>
  C.step (sBuiltin .len #[22] 3 [false] [v26_1]) w fun v27_1 w =>
  C.step (sBin .lss 3 (.tmp 24) (.tmp 27) (vs_1.getD 1 undef) v27_1) w fun v28_1 w =>
  C.bool v28_1
  (C.step (sFieldAddr 24 v2_1 0) w fun v31_1 w =>
  C.step (sLoad 22 v31_1) w fun v32_1 w =>
  C.step (sIndexAddr 22 v32_1 (vs_1.getD 1 undef)) w fun v34_1 w =>
  C.step (sFieldAddr 31 v34_1 0) w fun v35_1 w =>
  C.step (sLoad 3 v35_1) w fun v36_1 w =>
  C.step (sBin .eql 3 (.tmp 36) (.const (.int .i64 (-1))) v36_1 (.int .i64 (-1))) w fun v37_1 w =>
  C.bool v37_1
  (C.step (sLoad 24 v2_1) w fun v38_1 w =>
  C.step (sBuild 31 [(0, a1), (1, (.bool true))]) w fun v41_1 w =>
  C.calls 31 #[v38_1, (vs_1.getD 1 undef), v41_1] w fun v42_1 w =>
  C.step (sStore 24 v4_1 v42_1) w fun vx_5 w =>
  C.loadR 24 v4_1 w fun r_5 =>
  Q (.tuple #[r_5, (.int .i64 0)]) w)
  (C.step (sBin .add 3 (.tmp 29) (.const (.int .i64 1)) (vs_1.getD 1 undef) (.int .i64 1)) w fun v30_1 w =>
  again_1 [(vs_1.getD 0 undef), v30_1] w))
  (flotillaref14_Put_k2 C v4_1 w Q)))))
theorem flotillaref14_Put_eq (C : Comb) (a0 : Value) (a1 : Value) (w : World) (Q : Value → World → Prop) : flotillaref14_Put_x C a0 a1 w Q = FunY Try.prog C 7 Try.f22 [a0, a1] w Q := by kernel_rfl
theorem flotillaref14_Put_sound (a0 : Value) (a1 : Value) {w : World} {Q : Value → World → Prop} (h : flotillaref14_Put_x (std Try.prog) a0 a1 w Q) : CallsR Try.prog 22 #[a0, a1] w Q :=
  calls_of_funY mixed Try.func22 (Eq.mp (flotillaref14_Put_eq _ a0 a1 w Q) h)

def flotillaref14_Drop_x (C : Comb) (a0 : Value) (a1 : Value) (w : World) (Q : Value → World → Prop) : Prop :=
  C.step (sBox 24 a0) w fun v2_1 w =>
  C.step (sAlloc 24) w fun v4_1 w =>
  C.step (sLoad 24 v2_1) w fun v7_1 w =>
  C.calls 14 #[v7_1] w fun v8_1 w =>
  C.step (sUn .not v8_1) w fun v9_1 w =>
  C.bool v9_1
  (C.step (sBuild 24 []) w fun v10_1 w =>
  C.step (sStore 24 v4_1 v10_1) w fun vx_1 w =>
  C.loadR 24 v4_1 w fun r_1 =>
  Q (.tuple #[r_1, (.int .i64 1)]) w)
  (C.step (sLoad 24 v2_1) w fun v11_1 w =>
  C.calls 28 #[v11_1, a1] w fun v13_1 w =>
  C.step (sBin .lss 3 (.tmp 14) (.const (.int .i64 0)) v13_1 (.int .i64 0)) w fun v15_1 w =>
  C.bool v15_1
  (C.step (sBuild 24 []) w fun v16_1 w =>
  C.step (sStore 24 v4_1 v16_1) w fun vx_2 w =>
  C.loadR 24 v4_1 w fun r_2 =>
  Q (.tuple #[r_2, (.int .i64 8)]) w)
  (C.step (sFieldAddr 24 v2_1 0) w fun v17_1 w =>
  C.step (sLoad 22 v17_1) w fun v18_1 w =>
  C.step (sIndexAddr 22 v18_1 v13_1) w fun v20_1 w =>
  C.step (sFieldAddr 31 v20_1 2) w fun v21_1 w =>
  C.step (sLoad 3 v21_1) w fun v22_1 w =>
  C.step (sBin .gtr 3 (.tmp 22) (.const (.int .i64 0)) v22_1 (.int .i64 0)) w fun v23_1 w =>
  C.bool v23_1
  (C.step (sBuild 24 []) w fun v24_1 w =>
  C.step (sStore 24 v4_1 v24_1) w fun vx_3 w =>
  C.loadR 24 v4_1 w fun r_3 =>
  Q (.tuple #[r_3, (.int .i64 10)]) w)
  (C.step (sLoad 24 v2_1) w fun v25_1 w =>
  C.step (sBuild 31 [(0, (.int .i64 (-1)))]) w fun v27_1 w =>
  C.calls 31 #[v25_1, v13_1, v27_1] w fun v28_1 w =>
  C.step (sStore 24 v4_1 v28_1) w fun vx_4 w =>
  C.loadR 24 v4_1 w fun r_4 =>
  Q (.tuple #[r_4, (.int .i64 0)]) w)))
theorem flotillaref14_Drop_eq (C : Comb) (a0 : Value) (a1 : Value) (w : World) (Q : Value → World → Prop) : flotillaref14_Drop_x C a0 a1 w Q = FunY Try.prog C 7 Try.f23 [a0, a1] w Q := by kernel_rfl
theorem flotillaref14_Drop_sound (a0 : Value) (a1 : Value) {w : World} {Q : Value → World → Prop} (h : flotillaref14_Drop_x (std Try.prog) a0 a1 w Q) : CallsR Try.prog 23 #[a0, a1] w Q :=
  calls_of_funY mixed Try.func23 (Eq.mp (flotillaref14_Drop_eq _ a0 a1 w Q) h)

def flotillaref14_Pin_k1 (C : Comb) (v8_1 : Value) (w : World) (Q : Value → World → Prop) : Prop :=
  C.step (sBuild 24 []) w fun v47_1 w =>
  C.step (sStore 24 v8_1 v47_1) w fun vx_4 w =>
  C.loadR 24 v8_1 w fun r_3 =>
  Q (.tuple #[r_3, (.int .i64 10)]) w
def flotillaref14_Pin_k2 (C : Comb) (v4_1 : Value) (v8_1 : Value) (v18_1 : Value) (v11_1 : Value) (w : World) (Q : Value → World → Prop) : Prop :=
  C.step (sLoad 24 v4_1) w fun v55_1 w =>
  C.step (sLoad 31 v11_1) w fun v57_1 w =>
  C.calls 31 #[v55_1, v18_1, v57_1] w fun v58_1 w =>
  C.step (sStore 24 v8_1 v58_1) w fun vx_7 w =>
  C.loadR 24 v8_1 w fun r_5 =>
  Q (.tuple #[r_5, (.int .i64 0)]) w
def flotillaref14_Pin_x (C : Comb) (a0 : Value) (a1 : Value) (a2 : Value) (a3 : Value) (w : World) (Q : Value → World → Prop) : Prop :=
  C.step (sBox 24 a0) w fun v4_1 w =>
  C.step (sAlloc 24) w fun v8_1 w =>
  C.step (sLoad 24 v4_1) w fun v12_1 w =>
  C.calls 14 #[v12_1] w fun v13_1 w =>
  C.step (sUn .not v13_1) w fun v14_1 w =>
  C.bool v14_1
  (C.step (sBuild 24 []) w fun v15_1 w =>
  C.step (sStore 24 v8_1 v15_1) w fun vx_1 w =>
  C.loadR 24 v8_1 w fun r_1 =>
  Q (.tuple #[r_1, (.int .i64 1)]) w)
  (C.step (sLoad 24 v4_1) w fun v16_1 w =>
  C.calls 28 #[v16_1, a1] w fun v18_1 w =>
  C.step (sBin .lss 3 (.tmp 19) (.const (.int .i64 0)) v18_1 (.int .i64 0)) w fun v20_1 w =>
  C.bool v20_1
  (C.step (sBuild 24 []) w fun v21_1 w =>
  C.step (sStore 24 v8_1 v21_1) w fun vx_2 w =>
  C.loadR 24 v8_1 w fun r_2 =>
  Q (.tuple #[r_2, (.int .i64 8)]) w)
  (C.step (sFieldAddr 24 v4_1 0) w fun v22_1 w =>
  C.step (sLoad 22 v22_1) w fun v23_1 w =>
  C.step (sIndexAddr 22 v23_1 v18_1) w fun v25_1 w =>
  C.step (sLoad 31 v25_1) w fun v26_1 w =>
  C.step (sAlloc 31) w fun v11_1 w =>
  C.step (sStore 31 v11_1 v26_1) w fun vx_3 w =>
  C.step (sBin .gtr 3 (.tmp 27) (.const (.int .i64 1048576)) a2 (.int .i64 1048576)) w fun v28_1 w =>
  C.bool v28_1
  (flotillaref14_Pin_k1 C v8_1 w Q)
  (C.step (sBin .lss 3 (.tmp 30) (.const (.int .i64 (-1048576))) a2 (.int .i64 (-1048576))) w fun v31_1 w =>
  C.bool v31_1
  (flotillaref14_Pin_k1 C v8_1 w Q)
  (C.step (sFieldAddr 31 v11_1 2) w fun v34_1 w =>
  C.step (sLoad 3 v34_1) w fun v35_1 w =>
  C.step (sBin .add 3 (.tmp 35) (.tmp 36) v35_1 a2) w fun v37_1 w =>
  C.step (sBin .lss 3 (.tmp 37) (.const (.int .i64 0)) v37_1 (.int .i64 0)) w fun v38_1 w =>
  C.bool v38_1
  (flotillaref14_Pin_k1 C v8_1 w Q)
  (C.step (sFieldAddr 31 v11_1 2) w fun v41_1 w =>
  C.step (sLoad 3 v41_1) w fun v42_1 w =>
  C.step (sBin .add 3 (.tmp 42) (.tmp 43) v42_1 a2) w fun v44_1 w =>
  C.step (sBin .gtr 3 (.tmp 44) (.const (.int .i64 1048576)) v44_1 (.int .i64 1048576)) w fun v45_1 w =>
  C.bool v45_1
  (C.step (sBuild 24 []) w fun v47_2 w =>
  C.step (sStore 24 v8_1 v47_2) w fun vx_5 w =>
  C.loadR 24 v8_1 w fun r_4 =>
  Q (.tuple #[r_4, (.int .i64 10)]) w)
  (C.step (sFieldAddr 31 v11_1 2) w fun v48_1 w =>
  C.step (sLoad 3 v48_1) w fun v49_1 w =>
  C.step (sBin .add 3 (.tmp 49) (.tmp 50) v49_1 a2) w fun v51_1 w =>
  C.step (sFieldAddr 31 v11_1 2) w fun v52_1 w =>
  C.step (sStore 3 v52_1 v51_1) w fun vx_6 w =>
  C.bool a3
  (C.step (sFieldAddr 31 v11_1 1) w fun v54_1 w =>
  C.step (sStore 4 v54_1 (.bool true)) w fun vx_8 w =>
  flotillaref14_Pin_k2 C v4_1 v8_1 v18_1 v11_1 w Q)
  (flotillaref14_Pin_k2 C v4_1 v8_1 v18_1 v11_1 w Q)))))))
theorem flotillaref14_Pin_eq (C : Comb) (a0 : Value) (a1 : Value) (a2 : Value) (a3 : Value) (w : World) (Q : Value → World → Prop) : flotillaref14_Pin_x C a0 a1 a2 a3 w Q = FunY Try.prog C 12 Try.f24 [a0, a1, a2, a3] w Q := by kernel_rfl
theorem flotillaref14_Pin_sound (a0 : Value) (a1 : Value) (a2 : Value) (a3 : Value) {w : World} {Q : Value → World → Prop} (h : flotillaref14_Pin_x (std Try.prog) a0 a1 a2 a3 w Q) : CallsR Try.prog 24 #[a0, a1, a2, a3] w Q :=
  calls_of_funY mixed Try.func24 (Eq.mp (flotillaref14_Pin_eq _ a0 a1 a2 a3 w Q) h)

def clock_Pin_x (C : Comb) (a0 : Value) (a1 : Value) (a2 : Value) (w : World) (Q : Value → World → Prop) : Prop :=
  C.step (sBox 24 a0) w fun v3_1 w =>
  C.step (sAlloc 24) w fun v6_1 w =>
  C.step (sLoad 24 v3_1) w fun v12_1 w =>
  C.calls 30 #[v12_1, a1] w fun v14_1 w =>
  C.step (sExtract v14_1 0) w fun v15_1 w =>
  C.step (sExtract v14_1 1) w fun v16_1 w =>
  C.step (sExtract v14_1 2) w fun v17_1 w =>
  C.step (sAlloc 24) w fun v8_1 w =>
  C.step (sStore 24 v8_1 v15_1) w fun vx_1 w =>
  C.step (sBin .neq 25 (.tmp 18) (.const (.int .i64 0)) v17_1 (.int .i64 0)) w fun v19_1 w =>
  C.bool v19_1
  (C.step (sBuild 24 []) w fun v20_1 w =>
  C.step (sStore 24 v6_1 v20_1) w fun vx_2 w =>
  C.loadR 24 v6_1 w fun r_1 =>
  Q (.tuple #[r_1, v17_1]) w)
  (C.step (sNil v16_1) w fun v24_1 w =>
  C.step (sFieldAddr 31 v24_1 2) w fun v25_1 w =>
  C.step (sLoad 3 v25_1) w fun v26_1 w =>
  C.step (sUn .neg v26_1) w fun v27_1 w =>
  C.step (sBin .lss 3 (.tmp 22) (.tmp 27) a2 v27_1) w fun v28_1 w =>
  C.bool v28_1
  (C.step (sBuild 24 []) w fun v38_1 w =>
  C.step (sStore 24 v6_1 v38_1) w fun vx_3 w =>
  C.loadR 24 v6_1 w fun r_2 =>
  Q (.tuple #[r_2, (.int .i64 10)]) w)
  (C.step (sNil v16_1) w fun v32_1 w =>
  C.step (sFieldAddr 31 v32_1 2) w fun v33_1 w =>
  C.step (sLoad 3 v33_1) w fun v34_1 w =>
  C.step (sBin .sub 3 (.const (.int .i64 1048576)) (.tmp 34) (.int .i64 1048576) v34_1) w fun v35_1 w =>
  C.step (sBin .gtr 3 (.tmp 30) (.tmp 35) a2 v35_1) w fun v36_1 w =>
  C.bool v36_1
  (C.step (sBuild 24 []) w fun v38_2 w =>
  C.step (sStore 24 v6_1 v38_2) w fun vx_4 w =>
  C.loadR 24 v6_1 w fun r_3 =>
  Q (.tuple #[r_3, (.int .i64 10)]) w)
  (C.step (sNil v16_1) w fun v40_1 w =>
  C.step (sFieldAddr 31 v40_1 2) w fun v41_1 w =>
  C.step (sLoad 3 v41_1) w fun v42_1 w =>
  C.step (sBin .add 3 (.tmp 42) (.tmp 43) v42_1 a2) w fun v44_1 w =>
  C.step (sNil v16_1) w fun v45_1 w =>
  C.step (sFieldAddr 31 v45_1 2) w fun v46_1 w =>
  C.step (sStore 3 v46_1 v44_1) w fun vx_5 w =>
  C.step (sLoad 24 v8_1) w fun v47_1 w =>
  C.step (sStore 24 v6_1 v47_1) w fun vx_6 w =>
  C.loadR 24 v6_1 w fun r_4 =>
  Q (.tuple #[r_4, (.int .i64 0)]) w)))
theorem clock_Pin_eq (C : Comb) (a0 : Value) (a1 : Value) (a2 : Value) (w : World) (Q : Value → World → Prop) : clock_Pin_x C a0 a1 a2 w Q = FunY Try.prog C 11 Try.f25 [a0, a1, a2] w Q := by kernel_rfl
theorem clock_Pin_sound (a0 : Value) (a1 : Value) (a2 : Value) {w : World} {Q : Value → World → Prop} (h : clock_Pin_x (std Try.prog) a0 a1 a2 w Q) : CallsR Try.prog 25 #[a0, a1, a2] w Q :=
  calls_of_funY mixed Try.func25 (Eq.mp (clock_Pin_eq _ a0 a1 a2 w Q) h)

def flotillaref14_Next_k2 (C : Comb) (v1_1 : Value) (again_1 : List Value → World → Prop) (v30_1 : Value) (v8_1 : Value) (u2_2 : Value) (u4_2 : Value) (w : World) (Q : Value → World → Prop) : Prop :=
  C.step (sFieldAddr 31 v8_1 2) w fun v60_1 w =>
  C.step (sLoad 3 v60_1) w fun v61_1 w =>
  C.step (sBin .eql 3 (.tmp 61) (.const (.int .i64 0)) v61_1 (.int .i64 0)) w fun v62_1 w =>
  C.bool v62_1
  (C.step (sFieldAddr 31 v8_1 1) w fun v63_1 w =>
  C.step (sStore 4 v63_1 (.bool false)) w fun vx_5 w =>
  C.step (sLoad 24 v1_1) w fun v64_1 w =>
  C.step (sLoad 31 v8_1) w fun v66_1 w =>
  C.calls 31 #[v64_1, v30_1, v66_1] w fun v67_1 w =>
  C.step (sStore 24 v1_1 v67_1) w fun vx_6 w =>
  again_1 [u2_2, u4_2] w)
  (again_1 [u2_2, u4_2] w)
def flotillaref14_Next_k1 (C : Comb) (v1_1 : Value) (v3_1 : Value) (u5_1 : Value) (w : World) (Q : Value → World → Prop) : Prop :=
  C.bool u5_1
  (C.step (sBuild 24 []) w fun v28_1 w =>
  C.step (sStore 24 v3_1 v28_1) w fun vx_2 w =>
  C.loadR 24 v3_1 w fun r_2 =>
  Q (.tuple #[(.int .i64 0), r_2, (.int .i64 15)]) w)
  (C.loop [(.int .i64 0), (.int .i64 0)] w fun dv_1 vs_1 w again_1 =>
  C.step (sFieldAddr 24 v1_1 1) w fun v29_1 w =>
  C.step (sLoad 3 v29_1) w fun v30_1 w =>
  C.step (sFieldAddr 24 v1_1 0) w fun v31_1 w =>
  C.step (sLoad 22 v31_1) w fun v32_1 w =>
  C.step (sIndexAddr 22 v32_1 v30_1) w fun v34_1 w =>
  C.step (sLoad 31 v34_1) w fun v35_1 w =>
  C.step (sAlloc 31) w fun v8_1 w =>
  C.step (sStore 31 v8_1 v35_1) w fun vx_3 w =>
  C.step (sBin .add 3 (.tmp 36) (.const (.int .i64 1)) v30_1 (.int .i64 1)) w fun v37_1 w =>
  C.step (sFieldAddr 24 v1_1 0) w fun v38_1 w =>
  C.step (sLoad 22 v38_1) w fun v39_1 w =>
  C.step (sBuiltin .len #[22] 3 [false] [v39_1]) w fun v40_1 w =>
  C.step (sBin .rem 3 (.tmp 37) (.tmp 40) v37_1 v40_1) w fun v41_1 w =>
  C.step (sFieldAddr 24 v1_1 1) w fun v42_1 w =>
  C.step (sStore 3 v42_1 v41_1) w fun vx_4 w =>
  C.step (sFieldAddr 31 v8_1 0) w fun v43_1 w =>
  C.step (sLoad 3 v43_1) w fun v44_1 w =>
  C.step (sBin .eql 3 (.tmp 44) (.const (.int .i64 (-1))) v44_1 (.int .i64 (-1))) w fun v45_1 w =>
  C.bool v45_1
  (C.step (sLoad 24 v1_1) w fun v57_1 w =>
  C.step (sLoad 31 v8_1) w fun v58_1 w =>
  C.calls 31 #[v57_1, (.int .i64 (-1)), v58_1] w fun v59_1 w =>
  C.step (sStore 24 v3_1 v59_1) w fun vx_7 w =>
  C.loadR 24 v3_1 w fun r_3 =>
  Q (.tuple #[v30_1, r_3, (.int .i64 0)]) w)
  (C.step (sFieldAddr 31 v8_1 2) w fun v47_1 w =>
  C.step (sLoad 3 v47_1) w fun v48_1 w =>
  C.step (sBin .eql 3 (.tmp 48) (.const (.int .i64 0)) v48_1 (.int .i64 0)) w fun v49_1 w =>
  C.bool v49_1
  (C.step (sFieldAddr 31 v8_1 1) w fun v51_1 w =>
  C.step (sLoad 4 v51_1) w fun v52_1 w =>
  C.step (sUn .not v52_1) w fun v53_1 w =>
  C.bool v53_1
  (C.step (sLoad 24 v1_1) w fun v57_2 w =>
  C.step (sLoad 31 v8_1) w fun v58_2 w =>
  C.calls 31 #[v57_2, (.int .i64 (-1)), v58_2] w fun v59_2 w =>
  C.step (sStore 24 v3_1 v59_2) w fun vx_8 w =>
  C.loadR 24 v3_1 w fun r_4 =>
  Q (.tuple #[v30_1, r_4, (.int .i64 0)]) w)
  (flotillaref14_Next_k2 C v1_1 again_1 v30_1 v8_1 (vs_1.getD 0 undef) (vs_1.getD 1 undef) w Q))
  (flotillaref14_Next_k2 C v1_1 again_1 v30_1 v8_1 (vs_1.getD 0 undef) (vs_1.getD 1 undef) w Q)))
def flotillaref14_Next_x (C : Comb) (a0 : Value) (w : World) (Q : Value → World → Prop) : Prop :=
  C.step (sBox 24 a0) w fun v1_1 w =>
  C.step (sAlloc 24) w fun v3_1 w =>
  C.step (sLoad 24 v1_1) w fun v9_1 w =>
  C.calls 14 #[v9_1] w fun v10_1 w =>
  C.step (sUn .not v10_1) w fun v11_1 w =>
  C.bool v11_1
  (C.step (sBuild 24 []) w fun v12_1 w =>
  C.step (sStore 24 v3_1 v12_1) w fun vx_1 w =>
  C.loadR 24 v3_1 w fun r_1 =>
  Q (.tuple #[(.int .i64 0), r_1, (.int .i64 1)]) w)
  (C.loop [(.bool true), (.int .i64 0)] w fun dv_2 vs_2 w again_2 =>
  C.step (sFieldAddr 24 v1_1 0) w fun v14_1 w =>
  C.step (sLoad 22 v14_1) w fun v15_1 w =>
  C.step (sBuiltin .len #[22] 3 [false] [v15_1]) w fun v16_1 w =>
  C.step (sBin .lss 3 (.tmp 13) (.tmp 16) (vs_2.getD 1 undef) v16_1) w fun v17_1 w =>
  C.bool v17_1
  (C.step (sFieldAddr 24 v1_1 0) w fun v20_1 w =>
  C.step (sLoad 22 v20_1) w fun v21_1 w =>
  C.step (sIndexAddr 22 v21_1 (vs_2.getD 1 undef)) w fun v23_1 w =>
  C.step (sFieldAddr 31 v23_1 2) w fun v24_1 w =>
  C.step (sLoad 3 v24_1) w fun v25_1 w =>
  C.step (sBin .eql 3 (.tmp 25) (.const (.int .i64 0)) v25_1 (.int .i64 0)) w fun v26_1 w =>
  C.bool v26_1
  (C.step (sBin .add 3 (.tmp 18) (.const (.int .i64 1)) (vs_2.getD 1 undef) (.int .i64 1)) w fun v19_1 w =>
  again_2 [(.bool false), v19_1] w)
  (C.step (sBin .add 3 (.tmp 18) (.const (.int .i64 1)) (vs_2.getD 1 undef) (.int .i64 1)) w fun v19_2 w =>
  again_2 [(vs_2.getD 0 undef), v19_2] w))
  (flotillaref14_Next_k1 C v1_1 v3_1 (vs_2.getD 0 undef) w Q))
theorem flotillaref14_Next_eq (C : Comb) (a0 : Value) (w : World) (Q : Value → World → Prop) : flotillaref14_Next_x C a0 w Q = FunY Try.prog C 6 Try.f26 [a0] w Q := by kernel_rfl
theorem flotillaref14_Next_sound (a0 : Value) {w : World} {Q : Value → World → Prop} (h : flotillaref14_Next_x (std Try.prog) a0 w Q) : CallsR Try.prog 26 #[a0] w Q :=
  calls_of_funY mixed Try.func26 (Eq.mp (flotillaref14_Next_eq _ a0 w Q) h)

def flotillaref14_Same_k1 (C : Comb) (w : World) (Q : Value → World → Prop) : Prop :=
  Q (.bool true) w
def flotillaref14_Same_x (C : Comb) (a0 : Value) (a1 : Value) (w : World) (Q : Value → World → Prop) : Prop :=
  C.step (sBox 24 a0) w fun v2_1 w =>
  C.step (sBox 24 a1) w fun v3_1 w =>
  C.step (sFieldAddr 24 v2_1 1) w fun v6_1 w =>
  C.step (sLoad 3 v6_1) w fun v7_1 w =>
  C.step (sFieldAddr 24 v3_1 1) w fun v8_1 w =>
  C.step (sLoad 3 v8_1) w fun v9_1 w =>
  C.step (sBin .neq 3 (.tmp 7) (.tmp 9) v7_1 v9_1) w fun v10_1 w =>
  C.bool v10_1
  (Q (.bool false) w)
  (C.step (sFieldAddr 24 v2_1 0) w fun v12_1 w =>
  C.step (sLoad 22 v12_1) w fun v13_1 w =>
  C.step (sBuiltin .len #[22] 3 [false] [v13_1]) w fun v14_1 w =>
  C.step (sFieldAddr 24 v3_1 0) w fun v15_1 w =>
  C.step (sLoad 22 v15_1) w fun v16_1 w =>
  C.step (sBuiltin .len #[22] 3 [false] [v16_1]) w fun v17_1 w =>
  C.step (sBin .neq 3 (.tmp 14) (.tmp 17) v14_1 v17_1) w fun v18_1 w =>
  C.bool v18_1
  (Q (.bool false) w)
  (C.loop [(.bool false), (.int .i64 0)] w fun dv_1 vs_1 w again_1 =>
  C.step (sFieldAddr 24 v2_1 0) w fun v21_1 w =>
  C.step (sLoad 22 v21_1) w fun v22_1 w =>
  C.step (sBuiltin .len #[22] 3 [false] [v22_1]) w fun v23_1 w =>
  C.step (sBin .lss 3 (.tmp 20) (.tmp 23) (vs_1.getD 1 undef) v23_1) w fun v24_1 w =>
  C.bool v24_1
  (C.draw w fun S_1 w =>
  C.stepS S_1 (sFieldAddr 24 v2_1 0) fun v27_1 =>
  C.stepS S_1 (sLoad 22 v27_1) fun v28_1 =>
  C.stepS S_1 (sIndexAddr 22 v28_1 (vs_1.getD 1 undef)) fun v30_1 =>
  C.stepS S_1 (sLoad 31 v30_1) fun v31_1 =>
  C.stepS S_1 (sFieldAddr 24 v3_1 0) fun v32_1 =>
  C.stepS S_1 (sLoad 22 v32_1) fun v33_1 =>
  C.stepS S_1 (sIndexAddr 22 v33_1 (vs_1.getD 1 undef)) fun v35_1 =>
  C.stepS S_1 (sLoad 31 v35_1) fun v36_1 =>
  C.stepS S_1 (sBin .neq 31 (.tmp 31) (.tmp 36) v31_1 v36_1) fun v37_1 =>
  C.bool v37_1
  (Q (.bool false) w)
  (C.step (sBin .add 3 (.tmp 25) (.const (.int .i64 1)) (vs_1.getD 1 undef) (.int .i64 1)) w fun v26_1 w =>
  again_1 [(vs_1.getD 0 undef), v26_1] w))
  (flotillaref14_Same_k1 C w Q)))
theorem flotillaref14_Same_eq (C : Comb) (a0 : Value) (a1 : Value) (w : World) (Q : Value → World → Prop) : flotillaref14_Same_x C a0 a1 w Q = FunY Try.prog C 6 Try.f27 [a0, a1] w Q := by kernel_rfl
theorem flotillaref14_Same_sound (a0 : Value) (a1 : Value) {w : World} {Q : Value → World → Prop} (h : flotillaref14_Same_x (std Try.prog) a0 a1 w Q) : CallsR Try.prog 27 #[a0, a1] w Q :=
  calls_of_funY mixed Try.func27 (Eq.mp (flotillaref14_Same_eq _ a0 a1 w Q) h)

def flotillaref14_At_k1 (C : Comb) (w : World) (Q : Value → World → Prop) : Prop :=
  Q (.int .i64 (-1)) w
def flotillaref14_At_x (C : Comb) (a0 : Value) (a1 : Value) (w : World) (Q : Value → World → Prop) : Prop :=
  C.step (sBox 24 a0) w fun v2_1 w =>
  C.step (sBin .lss 3 (.tmp 6) (.const (.int .i64 0)) a1 (.int .i64 0)) w fun v7_1 w =>
  C.bool v7_1
  (Q (.int .i64 (-1)) w)
  (C.step (sLoad 24 v2_1) w fun v9_1 w =>
  C.calls 14 #[v9_1] w fun v10_1 w =>
  C.step (sUn .not v10_1) w fun v11_1 w =>
  C.bool v11_1
  (Q (.int .i64 (-1)) w)
  (C.loop [(.int .i64 0), (.int .i64 0)] w fun dv_1 vs_1 w again_1 =>
  C.step (sFieldAddr 24 v2_1 0) w fun v14_1 w =>
  C.step (sLoad 22 v14_1) w fun v15_1 w =>
  C.step (sBuiltin .len #[22] 3 [false] [v15_1]) w fun v16_1 w =>
  C.step (sBin .lss 3 (.tmp 13) (.tmp 16) (vs_1.getD 1 undef) v16_1) w fun v17_1 w =>
  C.bool v17_1
  (C.step (sFieldAddr 24 v2_1 0) w fun v20_1 w =>
  C.step (sLoad 22 v20_1) w fun v21_1 w =>
  C.step (sIndexAddr 22 v21_1 (vs_1.getD 1 undef)) w fun v23_1 w =>
  C.step (sFieldAddr 31 v23_1 0) w fun v24_1 w =>
  C.step (sLoad 3 v24_1) w fun v25_1 w =>
  C.step (sBin .eql 3 (.tmp 25) (.tmp 26) v25_1 a1) w fun v27_1 w =>
  C.bool v27_1
  (Q (vs_1.getD 1 undef) w)
  (C.step (sBin .add 3 (.tmp 18) (.const (.int .i64 1)) (vs_1.getD 1 undef) (.int .i64 1)) w fun v19_1 w =>
  again_1 [(vs_1.getD 0 undef), v19_1] w))
  (flotillaref14_At_k1 C w Q)))
theorem flotillaref14_At_eq (C : Comb) (a0 : Value) (a1 : Value) (w : World) (Q : Value → World → Prop) : flotillaref14_At_x C a0 a1 w Q = FunY Try.prog C 6 Try.f28 [a0, a1] w Q := by kernel_rfl
theorem flotillaref14_At_sound (a0 : Value) (a1 : Value) {w : World} {Q : Value → World → Prop} (h : flotillaref14_At_x (std Try.prog) a0 a1 w Q) : CallsR Try.prog 28 #[a0, a1] w Q :=
  calls_of_funY mixed Try.func28 (Eq.mp (flotillaref14_At_eq _ a0 a1 w Q) h)

def clock_twin_x (C : Comb) (a0 : Value) (w : World) (Q : Value → World → Prop) : Prop :=
  C.step (sBox 24 a0) w fun v1_1 w =>
  C.step (sAlloc 24) w fun v2_1 w =>
  C.step (sFieldAddr 24 v1_1 0) w fun v4_1 w =>
  C.step (sLoad 22 v4_1) w fun v5_1 w =>
  C.step (sBuiltin .len #[22] 3 [false] [v5_1]) w fun v6_1 w =>
  C.step (sMakeSlice 22 v6_1 v6_1) w fun v7_1 w =>
  C.step (sFieldAddr 24 v1_1 0) w fun v9_1 w =>
  C.step (sLoad 22 v9_1) w fun v10_1 w =>
  C.step (sBuiltin .copy #[22, 22] 3 [false, false] [v7_1, v10_1]) w fun v11_1 w =>
  C.step (sFieldAddr 24 v1_1 1) w fun v13_1 w =>
  C.step (sLoad 3 v13_1) w fun v14_1 w =>
  C.step (sBuild 24 [(0, v7_1), (1, v14_1)]) w fun v15_1 w =>
  C.step (sStore 24 v2_1 v15_1) w fun vx_1 w =>
  C.loadR 24 v2_1 w fun r_1 =>
  Q r_1 w
theorem clock_twin_eq (C : Comb) (a0 : Value) (w : World) (Q : Value → World → Prop) : clock_twin_x C a0 w Q = FunY Try.prog C 4 Try.f29 [a0] w Q := by kernel_rfl
theorem clock_twin_sound (a0 : Value) {w : World} {Q : Value → World → Prop} (h : clock_twin_x (std Try.prog) a0 w Q) : CallsR Try.prog 29 #[a0] w Q :=
  calls_of_funY mixed Try.func29 (Eq.mp (clock_twin_eq _ a0 w Q) h)

def clock_found_x (C : Comb) (a0 : Value) (a1 : Value) (w : World) (Q : Value → World → Prop) : Prop :=
  C.step (sBox 24 a0) w fun v2_1 w =>
  C.step (sAlloc 24) w fun v4_1 w =>
  C.step (sLoad 24 v2_1) w fun v9_1 w =>
  C.calls 11 #[v9_1] w fun v10_1 w =>
  C.step (sBin .neq 25 (.tmp 10) (.const (.int .i64 0)) v10_1 (.int .i64 0)) w fun v11_1 w =>
  C.bool v11_1
  (C.step (sBuild 24 []) w fun v12_1 w =>
  C.step (sStore 24 v4_1 v12_1) w fun vx_1 w =>
  C.loadR 24 v4_1 w fun r_1 =>
  Q (.tuple #[r_1, (.pointer none), (.int .i64 1)]) w)
  (C.step (sLoad 24 v2_1) w fun v13_1 w =>
  C.calls 19 #[v13_1, a1] w fun v15_1 w =>
  C.step (sBin .lss 3 (.tmp 16) (.const (.int .i64 0)) v15_1 (.int .i64 0)) w fun v17_1 w =>
  C.bool v17_1
  (C.step (sBuild 24 []) w fun v18_1 w =>
  C.step (sStore 24 v4_1 v18_1) w fun vx_2 w =>
  C.loadR 24 v4_1 w fun r_2 =>
  Q (.tuple #[r_2, (.pointer none), (.int .i64 8)]) w)
  (C.step (sLoad 24 v2_1) w fun v19_1 w =>
  C.calls 29 #[v19_1] w fun v20_1 w =>
  C.step (sAlloc 24) w fun v8_1 w =>
  C.step (sStore 24 v8_1 v20_1) w fun vx_3 w =>
  C.draw w fun S_1 w =>
  C.stepS S_1 (sLoad 24 v8_1) fun v21_1 =>
  C.stepS S_1 (sFieldAddr 24 v8_1 0) fun v22_1 =>
  C.stepS S_1 (sLoad 22 v22_1) fun v23_1 =>
  C.stepS S_1 (sIndexAddr 22 v23_1 v15_1) fun v25_1 =>
  C.step (sStore 24 v4_1 v21_1) w fun vx_4 w =>
  C.keepS S_1 w fun S_2 =>
  C.loadR 24 v4_1 w fun r_3 =>
  Q (.tuple #[r_3, v25_1, (.int .i64 0)]) w))
theorem clock_found_eq (C : Comb) (a0 : Value) (a1 : Value) (w : World) (Q : Value → World → Prop) : clock_found_x C a0 a1 w Q = FunY Try.prog C 9 Try.f30 [a0, a1] w Q := by kernel_rfl
theorem clock_found_sound (a0 : Value) (a1 : Value) {w : World} {Q : Value → World → Prop} (h : clock_found_x (std Try.prog) a0 a1 w Q) : CallsR Try.prog 30 #[a0, a1] w Q :=
  calls_of_funY mixed Try.func30 (Eq.mp (clock_found_eq _ a0 a1 w Q) h)

def flotillaref14_with_k1 (C : Comb) (v3_1 : Value) (v6_1 : Value) (u7_1 : Value) (w : World) (Q : Value → World → Prop) : Prop :=
  C.step (sFieldAddr 24 v3_1 1) w fun v32_1 w =>
  C.step (sLoad 3 v32_1) w fun v33_1 w =>
  C.step (sBuild 24 [(0, u7_1), (1, v33_1)]) w fun v34_1 w =>
  C.step (sStore 24 v6_1 v34_1) w fun vx_1 w =>
  C.loadR 24 v6_1 w fun r_1 =>
  Q r_1 w
def flotillaref14_with_k2 (C : Comb) (vs_1 : List Value) (again_1 : List Value → World → Prop) (u7_2 : Value) (w : World) (Q : Value → World → Prop) : Prop :=
  C.step (sBin .add 3 (.tmp 14) (.const (.int .i64 1)) (vs_1.getD 1 undef) (.int .i64 1)) w fun v15_1 w =>
  again_1 [u7_2, v15_1] w
def flotillaref14_with_x (C : Comb) (a0 : Value) (a1 : Value) (a2 : Value) (w : World) (Q : Value → World → Prop) : Prop :=
  C.step (sBox 24 a0) w fun v3_1 w =>
  C.step (sBox 31 a2) w fun v5_1 w =>
  C.step (sAlloc 24) w fun v6_1 w =>
  C.loop [(.slice none 0 0), (.int .i64 0)] w fun dv_1 vs_1 w again_1 =>
  C.step (sFieldAddr 24 v3_1 0) w fun v10_1 w =>
  C.step (sLoad 22 v10_1) w fun v11_1 w =>
  C.step (sBuiltin .len #[22] 3 [false] [v11_1]) w fun v12_1 w =>
  C.step (sBin .lss 3 (.tmp 9) (.tmp 12) (vs_1.getD 1 undef) v12_1) w fun v13_1 w =>
  C.bool v13_1
  (C.step (sBin .eql 3 (.tmp 16) (.tmp 17) (vs_1.getD 1 undef) a1) w fun v18_1 w =>
  C.bool v18_1
  (C.step (sLoad 31 v5_1) w fun v20_1 w =>
  C.step (sBuildSlice 22 1 [(0, v20_1)]) w fun v21_1 w =>
  C.step (sBuiltin .append #[22, 22] 22 [false, false] [(vs_1.getD 0 undef), v21_1]) w fun v22_1 w =>
  flotillaref14_with_k2 C vs_1 again_1 v22_1 w Q)
  (C.step (sFieldAddr 24 v3_1 0) w fun v24_1 w =>
  C.step (sLoad 22 v24_1) w fun v25_1 w =>
  C.step (sIndexAddr 22 v25_1 (vs_1.getD 1 undef)) w fun v27_1 w =>
  C.step (sLoad 31 v27_1) w fun v28_1 w =>
  C.step (sBuildSlice 22 1 [(0, v28_1)]) w fun v29_1 w =>
  C.step (sBuiltin .append #[22, 22] 22 [false, false] [(vs_1.getD 0 undef), v29_1]) w fun v30_1 w =>
  flotillaref14_with_k2 C vs_1 again_1 v30_1 w Q))
  (flotillaref14_with_k1 C v3_1 v6_1 (vs_1.getD 0 undef) w Q)
theorem flotillaref14_with_eq (C : Comb) (a0 : Value) (a1 : Value) (a2 : Value) (w : World) (Q : Value → World → Prop) : flotillaref14_with_x C a0 a1 a2 w Q = FunY Try.prog C 9 Try.f31 [a0, a1, a2] w Q := by kernel_rfl
theorem flotillaref14_with_sound (a0 : Value) (a1 : Value) (a2 : Value) {w : World} {Q : Value → World → Prop} (h : flotillaref14_with_x (std Try.prog) a0 a1 a2 w Q) : CallsR Try.prog 31 #[a0, a1, a2] w Q :=
  calls_of_funY mixed Try.func31 (Eq.mp (flotillaref14_with_eq _ a0 a1 a2 w Q) h)

end Go.Proofs.Ytnghnolpohahpaa
