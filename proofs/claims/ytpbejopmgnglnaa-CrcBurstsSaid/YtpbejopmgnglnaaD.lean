/- Functions of the program, read as statements without slots. Written by a program of this work. -/
import Derived.Test.YtpbejopmgnglnaaXf
import Derived.Test.YtpbejopmgnglnaaProg
import Derived.KernelRfl
namespace Go.Proofs.Ytpbejopmgnglnaa
open Go Xf
set_option maxRecDepth 100000
set_option linter.unusedVariables false

theorem mixed : Try.prog.follows .mixedOrders = true := by kernel_rfl

def crc_steps_k1 (C : Comb) (v0_1 : Value) (v1_1 : Value) (w : World) (Q : Value → World → Prop) : Prop :=
  C.step (sLoad 44 v1_1) w fun v24_1 w =>
  C.step (sStore 44 v0_1 v24_1) w fun vx_1 w =>
  C.loadR 44 v0_1 w fun r_1 =>
  Q r_1 w
def crc_steps_k2 (C : Comb) (v1_1 : Value) (vs_1 : List Value) (again_1 : List Value → World → Prop) (u3_2 : Value) (w : World) (Q : Value → World → Prop) : Prop :=
  C.step (sIndexAddr 44 v1_1 (vs_1.getD 2 undef)) w fun v22_1 w =>
  C.step (sStore 23 v22_1 u3_2) w fun vx_2 w =>
  C.step (sBin .add 3 (.tmp 4) (.const (.int .i64 1)) (vs_1.getD 2 undef) (.int .i64 1)) w fun v23_1 w =>
  again_1 [(vs_1.getD 2 undef), u3_2, v23_1] w
def crc_steps_k3 (C : Comb) (vs_2 : List Value) (again_2 : List Value → World → Prop) (u3_3 : Value) (w : World) (Q : Value → World → Prop) : Prop :=
  C.step (sBin .add 3 (.tmp 9) (.const (.int .i64 1)) (vs_2.getD 1 undef) (.int .i64 1)) w fun v19_1 w =>
  again_2 [u3_3, v19_1] w
def crc_steps_x (C : Comb) (w : World) (Q : Value → World → Prop) : Prop :=
  C.step (sAlloc 44) w fun v0_1 w =>
  C.step (sAlloc 44) w fun v1_1 w =>
  C.loop [undef, undef, (.int .i64 0)] w fun dv_1 vs_1 w again_1 =>
  C.step (sBin .lss 3 (.tmp 4) (.const (.int .i64 16)) (vs_1.getD 2 undef) (.int .i64 16)) w fun v5_1 w =>
  C.bool v5_1
  (C.step (sConv 3 23 (vs_1.getD 2 undef)) w fun v8_1 w =>
  C.loop [v8_1, (.int .i64 0)] w fun dv_2 vs_2 w again_2 =>
  C.step (sBin .lss 3 (.tmp 9) (.const (.int .i64 4)) (vs_2.getD 1 undef) (.int .i64 4)) w fun v10_1 w =>
  C.bool v10_1
  (C.step (sBin .and 23 (.tmp 11) (.const (.int .u32 1)) (vs_2.getD 0 undef) (.int .u32 1)) w fun v12_1 w =>
  C.step (sBin .eql 23 (.tmp 12) (.const (.int .u32 1)) v12_1 (.int .u32 1)) w fun v13_1 w =>
  C.bool v13_1
  (C.step (sBin .shr 23 (.tmp 14) (.const (.int .u64 1)) (vs_2.getD 0 undef) (.int .u64 1)) w fun v15_1 w =>
  C.step (sBin .xor 23 (.tmp 15) (.const (.int .u32 2197175160)) v15_1 (.int .u32 2197175160)) w fun v16_1 w =>
  crc_steps_k3 C vs_2 again_2 v16_1 w Q)
  (C.step (sBin .shr 23 (.tmp 17) (.const (.int .u64 1)) (vs_2.getD 0 undef) (.int .u64 1)) w fun v18_1 w =>
  crc_steps_k3 C vs_2 again_2 v18_1 w Q))
  (crc_steps_k2 C v1_1 vs_1 again_1 (vs_2.getD 0 undef) w Q))
  (crc_steps_k1 C v0_1 v1_1 w Q)
theorem crc_steps_eq (C : Comb) (w : World) (Q : Value → World → Prop) : crc_steps_x C w Q = FunY Try.prog C 4 Try.f18 [] w Q := by kernel_rfl
theorem crc_steps_sound {w : World} {Q : Value → World → Prop} (h : crc_steps_x (std Try.prog) w Q) : CallsR Try.prog 18 #[] w Q :=
  calls_of_funY mixed Try.func18 (Eq.mp (crc_steps_eq _ w Q) h)

def crc_More_k1 (C : Comb) (u6_1 : Value) (w : World) (Q : Value → World → Prop) : Prop :=
  C.step (sUn .xor u6_1) w fun v38_1 w =>
  Q v38_1 w
def crc_More_x (C : Comb) (a0 : Value) (a1 : Value) (w : World) (Q : Value → World → Prop) : Prop :=
  C.calls 18 #[] w fun v9_1 w =>
  C.step (sAlloc 44) w fun v5_1 w =>
  C.step (sStore 44 v5_1 v9_1) w fun vx_1 w =>
  C.step (sUn .xor a0) w fun v11_1 w =>
  C.step (sBuiltin .len #[22] 3 [false] [a1]) w fun v13_1 w =>
  C.loop [undef, v11_1, (.int .i64 0)] w fun dv_1 vs_1 w again_1 =>
  C.step (sBin .lss 3 (.tmp 14) (.tmp 13) (vs_1.getD 2 undef) v13_1) w fun v15_1 w =>
  C.bool v15_1
  (C.step (sIndexAddr 22 a1 (vs_1.getD 2 undef)) w fun v16_1 w =>
  C.step (sLoad 5 v16_1) w fun v17_1 w =>
  C.step (sConv 5 23 v17_1) w fun v20_1 w =>
  C.step (sBin .xor 23 (.tmp 18) (.tmp 20) (vs_1.getD 1 undef) v20_1) w fun v21_1 w =>
  C.step (sBin .shr 23 (.tmp 22) (.const (.int .u64 4)) v21_1 (.int .u64 4)) w fun v23_1 w =>
  C.step (sBin .and 23 (.tmp 24) (.const (.int .u32 15)) v21_1 (.int .u32 15)) w fun v25_1 w =>
  C.step (sIndexAddr 44 v5_1 v25_1) w fun v26_1 w =>
  C.step (sLoad 23 v26_1) w fun v27_1 w =>
  C.step (sBin .xor 23 (.tmp 23) (.tmp 27) v23_1 v27_1) w fun v28_1 w =>
  C.step (sBin .shr 23 (.tmp 29) (.const (.int .u64 4)) v28_1 (.int .u64 4)) w fun v30_1 w =>
  C.step (sBin .and 23 (.tmp 31) (.const (.int .u32 15)) v28_1 (.int .u32 15)) w fun v32_1 w =>
  C.step (sIndexAddr 44 v5_1 v32_1) w fun v33_1 w =>
  C.step (sLoad 23 v33_1) w fun v34_1 w =>
  C.step (sBin .xor 23 (.tmp 30) (.tmp 34) v30_1 v34_1) w fun v35_1 w =>
  C.step (sBin .add 3 (.tmp 14) (.const (.int .i64 1)) (vs_1.getD 2 undef) (.int .i64 1)) w fun v36_1 w =>
  again_1 [v17_1, v35_1, v36_1] w)
  (crc_More_k1 C (vs_1.getD 1 undef) w Q)
theorem crc_More_eq (C : Comb) (a0 : Value) (a1 : Value) (w : World) (Q : Value → World → Prop) : crc_More_x C a0 a1 w Q = FunY Try.prog C 9 Try.f12 [a0, a1] w Q := by kernel_rfl
theorem crc_More_sound (a0 : Value) (a1 : Value) {w : World} {Q : Value → World → Prop} (h : crc_More_x (std Try.prog) a0 a1 w Q) : CallsR Try.prog 12 #[a0, a1] w Q :=
  calls_of_funY mixed Try.func12 (Eq.mp (crc_More_eq _ a0 a1 w Q) h)

def crc_Sum_x (C : Comb) (a0 : Value) (w : World) (Q : Value → World → Prop) : Prop :=
  C.calls 12 #[(.int .u32 0), a0] w fun v4_1 w =>
  Q v4_1 w
theorem crc_Sum_eq (C : Comb) (a0 : Value) (w : World) (Q : Value → World → Prop) : crc_Sum_x C a0 w Q = FunY Try.prog C 2 Try.f10 [a0] w Q := by kernel_rfl
theorem crc_Sum_sound (a0 : Value) {w : World} {Q : Value → World → Prop} (h : crc_Sum_x (std Try.prog) a0 w Q) : CallsR Try.prog 10 #[a0] w Q :=
  calls_of_funY mixed Try.func10 (Eq.mp (crc_Sum_eq _ a0 w Q) h)

def crc_Seal_x (C : Comb) (a0 : Value) (w : World) (Q : Value → World → Prop) : Prop :=
  C.calls 10 #[a0] w fun v5_1 w =>
  C.step (sBuildSlice 22 0 []) w fun v6_1 w =>
  C.step (sBuiltin .append #[22, 22] 22 [false, false] [v6_1, a0]) w fun v8_1 w =>
  C.step (sConv 23 5 v5_1) w fun v10_1 w =>
  C.step (sBin .shr 23 (.tmp 11) (.const (.int .u64 8)) v5_1 (.int .u64 8)) w fun v12_1 w =>
  C.step (sConv 23 5 v12_1) w fun v13_1 w =>
  C.step (sBin .shr 23 (.tmp 14) (.const (.int .u64 16)) v5_1 (.int .u64 16)) w fun v15_1 w =>
  C.step (sConv 23 5 v15_1) w fun v16_1 w =>
  C.step (sBin .shr 23 (.tmp 17) (.const (.int .u64 24)) v5_1 (.int .u64 24)) w fun v18_1 w =>
  C.step (sConv 23 5 v18_1) w fun v19_1 w =>
  C.step (sBuildSlice 22 4 [(0, v10_1), (1, v13_1), (2, v16_1), (3, v19_1)]) w fun v20_1 w =>
  C.step (sBuiltin .append #[22, 22] 22 [false, false] [v8_1, v20_1]) w fun v21_1 w =>
  Q v21_1 w
theorem crc_Seal_eq (C : Comb) (a0 : Value) (w : World) (Q : Value → World → Prop) : crc_Seal_x C a0 w Q = FunY Try.prog C 4 Try.f16 [a0] w Q := by kernel_rfl
theorem crc_Seal_sound (a0 : Value) {w : World} {Q : Value → World → Prop} (h : crc_Seal_x (std Try.prog) a0 w Q) : CallsR Try.prog 16 #[a0] w Q :=
  calls_of_funY mixed Try.func16 (Eq.mp (crc_Seal_eq _ a0 w Q) h)

def crc_Open_k1 (C : Comb) (a0 : Value) (v12_1 : Value) (w : World) (Q : Value → World → Prop) : Prop :=
  C.step (sBuildSlice 22 0 []) w fun v33_1 w =>
  C.step (sSlice 22 a0 none (some v12_1) none) w fun v36_1 w =>
  C.step (sBuiltin .append #[22, 22] 22 [false, false] [v33_1, v36_1]) w fun v37_1 w =>
  Q (.tuple #[v37_1, (.int .i64 0)]) w
def crc_Open_x (C : Comb) (a0 : Value) (w : World) (Q : Value → World → Prop) : Prop :=
  C.step (sBuiltin .len #[22] 3 [false] [a0]) w fun v8_1 w =>
  C.step (sBin .lss 3 (.tmp 8) (.const (.int .i64 4)) v8_1 (.int .i64 4)) w fun v9_1 w =>
  C.bool v9_1
  (Q (.tuple #[(.slice none 0 0), (.int .i64 4)]) w)
  (C.step (sBuiltin .len #[22] 3 [false] [a0]) w fun v11_1 w =>
  C.step (sBin .sub 3 (.tmp 11) (.const (.int .i64 4)) v11_1 (.int .i64 4)) w fun v12_1 w =>
  C.step (sSlice 22 a0 none (some v12_1) none) w fun v15_1 w =>
  C.calls 10 #[v15_1] w fun v16_1 w =>
  C.loop [undef, (.slice none 0 0), (.int .i64 0), (.int .i64 0)] w fun dv_1 vs_1 w again_1 =>
  C.step (sBin .lss 3 (.tmp 17) (.const (.int .i64 4)) (vs_1.getD 3 undef) (.int .i64 4)) w fun v18_1 w =>
  C.bool v18_1
  (C.draw w fun S_1 w =>
  C.stepS S_1 (sBin .add 3 (.tmp 21) (.tmp 22) v12_1 (vs_1.getD 3 undef)) fun v23_1 =>
  C.stepS S_1 (sIndexAddr 22 a0 v23_1) fun v24_1 =>
  C.stepS S_1 (sLoad 5 v24_1) fun v25_1 =>
  C.stepS S_1 (sBin .mul 3 (.const (.int .i64 8)) (.tmp 27) (.int .i64 8) (vs_1.getD 3 undef)) fun v28_1 =>
  C.stepS S_1 (sBin .shr 23 (.tmp 26) (.tmp 28) v16_1 v28_1) fun v29_1 =>
  C.stepS S_1 (sConv 23 5 v29_1) fun v30_1 =>
  C.stepS S_1 (sBin .neq 5 (.tmp 25) (.tmp 30) v25_1 v30_1) fun v31_1 =>
  C.bool v31_1
  (Q (.tuple #[(.slice none 0 0), (.int .i64 6)]) w)
  (C.step (sBin .add 3 (.tmp 17) (.const (.int .i64 1)) (vs_1.getD 3 undef) (.int .i64 1)) w fun v32_1 w =>
  again_1 [(vs_1.getD 3 undef), (vs_1.getD 1 undef), (vs_1.getD 2 undef), v32_1] w))
  (crc_Open_k1 C a0 v12_1 w Q))
theorem crc_Open_eq (C : Comb) (a0 : Value) (w : World) (Q : Value → World → Prop) : crc_Open_x C a0 w Q = FunY Try.prog C 7 Try.f14 [a0] w Q := by kernel_rfl
theorem crc_Open_sound (a0 : Value) {w : World} {Q : Value → World → Prop} (h : crc_Open_x (std Try.prog) a0 w Q) : CallsR Try.prog 14 #[a0] w Q :=
  calls_of_funY mixed Try.func14 (Eq.mp (crc_Open_eq _ a0 w Q) h)

def flotillalaw02_CrcSums_k1 (C : Comb) (w : World) (Q : Value → World → Prop) : Prop :=
  Q (.bool false) w
def flotillalaw02_CrcSums_x (C : Comb) (a0 : Value) (a1 : Value) (a2 : Value) (w : World) (Q : Value → World → Prop) : Prop :=
  C.step (sBuiltin .len #[22] 3 [false] [a0]) w fun v9_1 w =>
  C.step (sBuiltin .len #[22] 3 [false] [a1]) w fun v11_1 w =>
  C.step (sBin .add 3 (.tmp 9) (.tmp 11) v9_1 v11_1) w fun v12_1 w =>
  C.step (sBin .gtr 3 (.tmp 12) (.const (.int .i64 20000)) v12_1 (.int .i64 20000)) w fun v13_1 w =>
  C.bool v13_1
  (C.calls 9 #[] w fun v14_1 w =>
  Q v14_1 w)
  (C.step (sConv 22 9 a0) w fun v16_1 w =>
  C.step (sConv 22 9 a1) w fun v18_1 w =>
  C.step (sBin .add 9 (.tmp 16) (.tmp 18) v16_1 v18_1) w fun v19_1 w =>
  C.draw w fun S_1 w =>
  C.stepS S_1 (sConv 22 9 a0) fun v23_1 =>
  C.calls 10 #[a0] w fun v21_1 w =>
  C.keepS S_1 w fun S_2 =>
  C.calls 11 #[v23_1] w fun v24_1 w =>
  C.keepT w fun S_3 =>
  C.stepS S_3 (sBin .eql 23 (.tmp 21) (.tmp 24) v21_1 v24_1) fun v25_1 =>
  C.bool v25_1
  (C.calls 10 #[a0] w fun v28_1 w =>
  C.keepS S_3 w fun S_4 =>
  C.calls 12 #[v28_1, a1] w fun v30_1 w =>
  C.keepS S_4 w fun S_5 =>
  C.calls 11 #[v19_1] w fun v32_1 w =>
  C.keepT w fun S_6 =>
  C.stepS S_6 (sBin .eql 23 (.tmp 30) (.tmp 32) v30_1 v32_1) fun v33_1 =>
  C.bool v33_1
  (C.stepS S_6 (sConv 22 9 a1) fun v41_1 =>
  C.calls 12 #[a2, a1] w fun v38_1 w =>
  C.keepS S_6 w fun S_7 =>
  C.calls 13 #[a2, v41_1] w fun v42_1 w =>
  C.keepT w fun S_8 =>
  C.stepS S_8 (sBin .eql 23 (.tmp 38) (.tmp 42) v38_1 v42_1) fun v43_1 =>
  C.bool v43_1
  (C.calls 9 #[] w fun v46_1 w =>
  C.keepT w fun S_9 =>
  Q v46_1 w)
  (flotillalaw02_CrcSums_k1 C w Q))
  (flotillalaw02_CrcSums_k1 C w Q))
  (flotillalaw02_CrcSums_k1 C w Q))
theorem flotillalaw02_CrcSums_eq (C : Comb) (a0 : Value) (a1 : Value) (a2 : Value) (w : World) (Q : Value → World → Prop) : flotillalaw02_CrcSums_x C a0 a1 a2 w Q = FunY Try.prog C 8 Try.f3 [a0, a1, a2] w Q := by kernel_rfl
theorem flotillalaw02_CrcSums_sound (a0 : Value) (a1 : Value) (a2 : Value) {w : World} {Q : Value → World → Prop} (h : flotillalaw02_CrcSums_x (std Try.prog) a0 a1 a2 w Q) : CallsR Try.prog 3 #[a0, a1, a2] w Q :=
  calls_of_funY mixed Try.func3 (Eq.mp (flotillalaw02_CrcSums_eq _ a0 a1 a2 w Q) h)

def flotillalaw02_CrcPieces_k1 (C : Comb) (u3_1 : Value) (u4_1 : Value) (w : World) (Q : Value → World → Prop) : Prop :=
  C.calls 10 #[u3_1] w fun v39_1 w =>
  C.step (sBin .eql 23 (.tmp 37) (.tmp 39) u4_1 v39_1) w fun v40_1 w =>
  C.bool v40_1
  (C.calls 9 #[] w fun v42_1 w =>
  Q v42_1 w)
  (Q (.bool false) w)
def flotillalaw02_CrcPieces_x (C : Comb) (a0 : Value) (w : World) (Q : Value → World → Prop) : Prop :=
  C.step (sBuildSlice 22 0 []) w fun v6_1 w =>
  C.calls 10 #[(.slice none 0 0)] w fun v7_1 w =>
  C.loop [(.bool false), v6_1, v7_1, (.int .i64 0)] w fun dv_1 vs_1 w again_1 =>
  C.step (sBuiltin .len #[30] 3 [false] [a0]) w fun v10_1 w =>
  C.step (sBin .lss 3 (.tmp 8) (.tmp 10) (vs_1.getD 3 undef) v10_1) w fun v11_1 w =>
  C.bool v11_1
  (C.step (sBin .lss 3 (.tmp 13) (.const (.int .i64 40)) (vs_1.getD 3 undef) (.int .i64 40)) w fun v14_1 w =>
  C.bool v14_1
  (C.step (sIndexAddr 30 a0 (vs_1.getD 3 undef)) w fun v20_1 w =>
  C.step (sLoad 22 v20_1) w fun v21_1 w =>
  C.step (sBuiltin .len #[22] 3 [false] [v21_1]) w fun v22_1 w =>
  C.step (sBin .gtr 3 (.tmp 22) (.const (.int .i64 1000)) v22_1 (.int .i64 1000)) w fun v23_1 w =>
  C.bool v23_1
  (C.calls 9 #[] w fun v24_1 w =>
  Q v24_1 w)
  (C.step (sIndexAddr 30 a0 (vs_1.getD 3 undef)) w fun v28_1 w =>
  C.step (sLoad 22 v28_1) w fun v29_1 w =>
  C.step (sBuiltin .append #[22, 22] 22 [false, false] [(vs_1.getD 1 undef), v29_1]) w fun v30_1 w =>
  C.step (sIndexAddr 30 a0 (vs_1.getD 3 undef)) w fun v34_1 w =>
  C.step (sLoad 22 v34_1) w fun v35_1 w =>
  C.calls 12 #[(vs_1.getD 2 undef), v35_1] w fun v36_1 w =>
  C.step (sBin .add 3 (.tmp 16) (.const (.int .i64 1)) (vs_1.getD 3 undef) (.int .i64 1)) w fun v17_1 w =>
  again_1 [(vs_1.getD 0 undef), v30_1, v36_1, v17_1] w))
  (flotillalaw02_CrcPieces_k1 C (vs_1.getD 1 undef) (vs_1.getD 2 undef) w Q))
  (flotillalaw02_CrcPieces_k1 C (vs_1.getD 1 undef) (vs_1.getD 2 undef) w Q)
theorem flotillalaw02_CrcPieces_eq (C : Comb) (a0 : Value) (w : World) (Q : Value → World → Prop) : flotillalaw02_CrcPieces_x C a0 w Q = FunY Try.prog C 6 Try.f4 [a0] w Q := by kernel_rfl
theorem flotillalaw02_CrcPieces_sound (a0 : Value) {w : World} {Q : Value → World → Prop} (h : flotillalaw02_CrcPieces_x (std Try.prog) a0 w Q) : CallsR Try.prog 4 #[a0] w Q :=
  calls_of_funY mixed Try.func4 (Eq.mp (flotillalaw02_CrcPieces_eq _ a0 w Q) h)

def flotillalaw02_CrcTogether_k1 (C : Comb) (a0 : Value) (a1 : Value) (a2 : Value) (v16_1 : Value) (u8_1 : Value) (w : World) (Q : Value → World → Prop) : Prop :=
  C.draw w fun S_1 w =>
  C.stepS S_1 (sSlice 22 a0 none (some v16_1) none) fun v42_1 =>
  C.stepS S_1 (sSlice 22 a1 none (some v16_1) none) fun v46_1 =>
  C.stepS S_1 (sSlice 22 a2 none (some v16_1) none) fun v51_1 =>
  C.calls 10 #[v42_1] w fun v43_1 w =>
  C.keepS S_1 w fun S_2 =>
  C.calls 10 #[v46_1] w fun v47_1 w =>
  C.keepS S_2 w fun S_3 =>
  C.stepS S_3 (sBin .xor 23 (.tmp 43) (.tmp 47) v43_1 v47_1) fun v48_1 =>
  C.calls 10 #[v51_1] w fun v52_1 w =>
  C.keepS S_3 w fun S_4 =>
  C.stepS S_4 (sBin .xor 23 (.tmp 48) (.tmp 52) v48_1 v52_1) fun v53_1 =>
  C.calls 10 #[u8_1] w fun v55_1 w =>
  C.keepS S_4 w fun S_5 =>
  C.stepS S_5 (sBin .eql 23 (.tmp 53) (.tmp 55) v53_1 v55_1) fun v56_1 =>
  C.bool v56_1
  (C.calls 9 #[] w fun v58_1 w =>
  C.keepT w fun S_6 =>
  Q v58_1 w)
  (Q (.bool false) w)
def flotillalaw02_CrcTogether_x (C : Comb) (a0 : Value) (a1 : Value) (a2 : Value) (w : World) (Q : Value → World → Prop) : Prop :=
  C.step (sBuiltin .len #[22] 3 [false] [a0]) w fun v11_1 w =>
  C.step (sBuiltin .len #[22] 3 [false] [a1]) w fun v13_1 w =>
  C.step (sBuiltin .len #[22] 3 [false] [a2]) w fun v15_1 w =>
  C.step (sBuiltin .min #[3, 3, 3, 3] 3 [false, false, false, true] [v11_1, v13_1, v15_1, (.int .i64 5000)]) w fun v16_1 w =>
  C.step (sBuildSlice 22 0 []) w fun v17_1 w =>
  C.loop [v17_1, (.int .i64 0)] w fun dv_1 vs_1 w again_1 =>
  C.step (sBin .lss 3 (.tmp 18) (.tmp 19) (vs_1.getD 1 undef) v16_1) w fun v20_1 w =>
  C.bool v20_1
  (C.draw w fun S_7 w =>
  C.stepS S_7 (sIndexAddr 22 a0 (vs_1.getD 1 undef)) fun v26_1 =>
  C.stepS S_7 (sLoad 5 v26_1) fun v27_1 =>
  C.stepS S_7 (sIndexAddr 22 a1 (vs_1.getD 1 undef)) fun v30_1 =>
  C.stepS S_7 (sLoad 5 v30_1) fun v31_1 =>
  C.stepS S_7 (sBin .xor 5 (.tmp 27) (.tmp 31) v27_1 v31_1) fun v32_1 =>
  C.stepS S_7 (sIndexAddr 22 a2 (vs_1.getD 1 undef)) fun v35_1 =>
  C.stepS S_7 (sLoad 5 v35_1) fun v36_1 =>
  C.stepS S_7 (sBin .xor 5 (.tmp 32) (.tmp 36) v32_1 v36_1) fun v37_1 =>
  C.step (sBuildSlice 22 1 [(0, v37_1)]) w fun v38_1 w =>
  C.keepS S_7 w fun S_8 =>
  C.step (sBuiltin .append #[22, 22] 22 [false, false] [(vs_1.getD 0 undef), v38_1]) w fun v39_1 w =>
  C.keepT w fun S_9 =>
  C.step (sBin .add 3 (.tmp 21) (.const (.int .i64 1)) (vs_1.getD 1 undef) (.int .i64 1)) w fun v22_1 w =>
  again_1 [v39_1, v22_1] w)
  (flotillalaw02_CrcTogether_k1 C a0 a1 a2 v16_1 (vs_1.getD 0 undef) w Q)
theorem flotillalaw02_CrcTogether_eq (C : Comb) (a0 : Value) (a1 : Value) (a2 : Value) (w : World) (Q : Value → World → Prop) : flotillalaw02_CrcTogether_x C a0 a1 a2 w Q = FunY Try.prog C 10 Try.f5 [a0, a1, a2] w Q := by kernel_rfl
theorem flotillalaw02_CrcTogether_sound (a0 : Value) (a1 : Value) (a2 : Value) {w : World} {Q : Value → World → Prop} (h : flotillalaw02_CrcTogether_x (std Try.prog) a0 a1 a2 w Q) : CallsR Try.prog 5 #[a0, a1, a2] w Q :=
  calls_of_funY mixed Try.func5 (Eq.mp (flotillalaw02_CrcTogether_eq _ a0 a1 a2 w Q) h)

def flotillalaw02_CrcSeals_k1 (C : Comb) (w : World) (Q : Value → World → Prop) : Prop :=
  Q (.bool false) w
def flotillalaw02_CrcSeals_x (C : Comb) (a0 : Value) (a1 : Value) (w : World) (Q : Value → World → Prop) : Prop :=
  C.step (sBuiltin .len #[22] 3 [false] [a0]) w fun v10_1 w =>
  C.step (sBuiltin .len #[22] 3 [false] [a1]) w fun v12_1 w =>
  C.step (sBin .add 3 (.tmp 10) (.tmp 12) v10_1 v12_1) w fun v13_1 w =>
  C.step (sBin .gtr 3 (.tmp 13) (.const (.int .i64 20000)) v13_1 (.int .i64 20000)) w fun v14_1 w =>
  C.bool v14_1
  (C.calls 9 #[] w fun v15_1 w =>
  Q v15_1 w)
  (C.calls 14 #[a1] w fun v18_1 w =>
  C.step (sExtract v18_1 0) w fun v19_1 w =>
  C.step (sExtract v18_1 1) w fun v20_1 w =>
  C.step (sConv 22 9 a1) w fun v23_1 w =>
  C.calls 15 #[v23_1] w fun v24_1 w =>
  C.step (sExtract v24_1 0) w fun v25_1 w =>
  C.step (sExtract v24_1 1) w fun v26_1 w =>
  C.draw w fun S_1 w =>
  C.stepS S_1 (sConv 22 9 a0) fun v31_1 =>
  C.calls 16 #[a0] w fun v28_1 w =>
  C.keepS S_1 w fun S_2 =>
  C.stepS S_2 (sConv 22 9 v28_1) fun v29_1 =>
  C.calls 17 #[v31_1] w fun v32_1 w =>
  C.keepS S_2 w fun S_3 =>
  C.stepS S_3 (sBin .eql 9 (.tmp 29) (.tmp 32) v29_1 v32_1) fun v33_1 =>
  C.bool v33_1
  (C.stepS S_3 (sConv 22 9 v19_1) fun v36_1 =>
  C.stepS S_3 (sBin .eql 9 (.tmp 36) (.tmp 37) v36_1 v25_1) fun v38_1 =>
  C.bool v38_1
  (C.stepS S_3 (sBin .eql 33 (.tmp 41) (.tmp 42) v20_1 v26_1) fun v43_1 =>
  C.bool v43_1
  (C.calls 9 #[] w fun v46_1 w =>
  C.keepT w fun S_4 =>
  Q v46_1 w)
  (flotillalaw02_CrcSeals_k1 C w Q))
  (flotillalaw02_CrcSeals_k1 C w Q))
  (flotillalaw02_CrcSeals_k1 C w Q))
theorem flotillalaw02_CrcSeals_eq (C : Comb) (a0 : Value) (a1 : Value) (w : World) (Q : Value → World → Prop) : flotillalaw02_CrcSeals_x C a0 a1 w Q = FunY Try.prog C 9 Try.f6 [a0, a1] w Q := by kernel_rfl
theorem flotillalaw02_CrcSeals_sound (a0 : Value) (a1 : Value) {w : World} {Q : Value → World → Prop} (h : flotillalaw02_CrcSeals_x (std Try.prog) a0 a1 w Q) : CallsR Try.prog 6 #[a0, a1] w Q :=
  calls_of_funY mixed Try.func6 (Eq.mp (flotillalaw02_CrcSeals_eq _ a0 a1 w Q) h)

def flotillalaw02_CrcBack_k1 (C : Comb) (w : World) (Q : Value → World → Prop) : Prop :=
  Q (.bool false) w
def flotillalaw02_CrcBack_k2 (C : Comb) (v13_1 : Value) (v20_1 : Value) (w : World) (Q : Value → World → Prop) : Prop :=
  C.step (sConv 22 9 v20_1) w fun v53_1 w =>
  C.step (sBin .eql 9 (.tmp 53) (.tmp 54) v53_1 v13_1) w fun v55_1 w =>
  C.bool v55_1
  (C.calls 9 #[] w fun v57_1 w =>
  Q v57_1 w)
  (Q (.bool false) w)
def flotillalaw02_CrcBack_x (C : Comb) (a0 : Value) (w : World) (Q : Value → World → Prop) : Prop :=
  C.step (sBuiltin .len #[22] 3 [false] [a0]) w fun v9_1 w =>
  C.step (sBin .gtr 3 (.tmp 9) (.const (.int .i64 20000)) v9_1 (.int .i64 20000)) w fun v10_1 w =>
  C.bool v10_1
  (C.calls 9 #[] w fun v11_1 w =>
  Q v11_1 w)
  (C.step (sConv 22 9 a0) w fun v13_1 w =>
  C.step (sConv 9 22 v13_1) w fun v15_1 w =>
  C.calls 16 #[v15_1] w fun v16_1 w =>
  C.calls 14 #[v16_1] w fun v19_1 w =>
  C.step (sExtract v19_1 0) w fun v20_1 w =>
  C.step (sExtract v19_1 1) w fun v21_1 w =>
  C.step (sBuiltin .len #[22] 3 [false] [v16_1]) w fun v23_1 w =>
  C.step (sBuiltin .len #[22] 3 [false] [a0]) w fun v25_1 w =>
  C.step (sBin .add 3 (.tmp 25) (.const (.int .i64 4)) v25_1 (.int .i64 4)) w fun v26_1 w =>
  C.step (sBin .neq 3 (.tmp 23) (.tmp 26) v23_1 v26_1) w fun v27_1 w =>
  C.bool v27_1
  (flotillalaw02_CrcBack_k1 C w Q)
  (C.step (sBin .neq 33 (.tmp 29) (.const (.int .i64 0)) v21_1 (.int .i64 0)) w fun v30_1 w =>
  C.bool v30_1
  (flotillalaw02_CrcBack_k1 C w Q)
  (C.step (sConv 22 9 v20_1) w fun v34_1 w =>
  C.step (sBin .neq 9 (.tmp 34) (.tmp 35) v34_1 v13_1) w fun v36_1 w =>
  C.bool v36_1
  (Q (.bool false) w)
  (C.loop [(.int .i64 0)] w fun dv_1 vs_1 w again_1 =>
  C.step (sBuiltin .len #[22] 3 [false] [v16_1]) w fun v40_1 w =>
  C.step (sBin .lss 3 (.tmp 38) (.tmp 40) (vs_1.getD 0 undef) v40_1) w fun v41_1 w =>
  C.bool v41_1
  (C.step (sIndexAddr 22 v16_1 (vs_1.getD 0 undef)) w fun v48_1 w =>
  C.step (sLoad 5 v48_1) w fun v49_1 w =>
  C.step (sBin .xor 5 (.tmp 49) (.const (.int .u8 255)) v49_1 (.int .u8 255)) w fun v50_1 w =>
  C.step (sIndexAddr 22 v16_1 (vs_1.getD 0 undef)) w fun v51_1 w =>
  C.step (sStore 5 v51_1 v50_1) w fun vx_1 w =>
  C.step (sBin .add 3 (.tmp 42) (.const (.int .i64 1)) (vs_1.getD 0 undef) (.int .i64 1)) w fun v43_1 w =>
  again_1 [v43_1] w)
  (flotillalaw02_CrcBack_k2 C v13_1 v20_1 w Q)))))
theorem flotillalaw02_CrcBack_eq (C : Comb) (a0 : Value) (w : World) (Q : Value → World → Prop) : flotillalaw02_CrcBack_x C a0 w Q = FunY Try.prog C 8 Try.f7 [a0] w Q := by kernel_rfl
theorem flotillalaw02_CrcBack_sound (a0 : Value) {w : World} {Q : Value → World → Prop} (h : flotillalaw02_CrcBack_x (std Try.prog) a0 w Q) : CallsR Try.prog 7 #[a0] w Q :=
  calls_of_funY mixed Try.func7 (Eq.mp (flotillalaw02_CrcBack_eq _ a0 w Q) h)

def flotillalaw02_CrcBursts_k2 (C : Comb) (w : World) (Q : Value → World → Prop) : Prop :=
  Q (.bool false) w
def flotillalaw02_CrcBursts_k1 (C : Comb) (v22_1 : Value) (w : World) (Q : Value → World → Prop) : Prop :=
  C.calls 14 #[v22_1] w fun v65_1 w =>
  C.step (sExtract v65_1 0) w fun v66_1 w =>
  C.step (sExtract v65_1 1) w fun v67_1 w =>
  C.step (sBin .eql 33 (.tmp 68) (.const (.int .i64 6)) v67_1 (.int .i64 6)) w fun v69_1 w =>
  C.bool v69_1
  (C.step (sBuiltin .len #[22] 3 [false] [v66_1]) w fun v72_1 w =>
  C.step (sBin .eql 3 (.tmp 72) (.const (.int .i64 0)) v72_1 (.int .i64 0)) w fun v73_1 w =>
  C.bool v73_1
  (C.calls 9 #[] w fun v76_1 w =>
  Q v76_1 w)
  (flotillalaw02_CrcBursts_k2 C w Q))
  (flotillalaw02_CrcBursts_k2 C w Q)
def flotillalaw02_CrcBursts_k3 (C : Comb) (vs_1 : List Value) (again_1 : List Value → World → Prop) (w : World) (Q : Value → World → Prop) : Prop :=
  C.step (sBin .add 3 (.tmp 40) (.const (.int .i64 1)) (vs_1.getD 0 undef) (.int .i64 1)) w fun v41_1 w =>
  again_1 [v41_1] w
def flotillalaw02_CrcBursts_x (C : Comb) (a0 : Value) (a1 : Value) (a2 : Value) (w : World) (Q : Value → World → Prop) : Prop :=
  C.step (sBin .eql 23 (.tmp 13) (.const (.int .u32 0)) a2 (.int .u32 0)) w fun v14_1 w =>
  C.bool v14_1
  (C.calls 9 #[] w fun v20_1 w =>
  Q v20_1 w)
  (C.step (sBuiltin .len #[22] 3 [false] [a0]) w fun v17_1 w =>
  C.step (sBin .gtr 3 (.tmp 17) (.const (.int .i64 5000)) v17_1 (.int .i64 5000)) w fun v18_1 w =>
  C.bool v18_1
  (C.calls 9 #[] w fun v20_2 w =>
  Q v20_2 w)
  (C.calls 16 #[a0] w fun v22_1 w =>
  C.step (sBuiltin .len #[22] 3 [false] [v22_1]) w fun v24_1 w =>
  C.step (sBuiltin .len #[22] 3 [false] [a0]) w fun v26_1 w =>
  C.step (sBin .add 3 (.tmp 26) (.const (.int .i64 4)) v26_1 (.int .i64 4)) w fun v27_1 w =>
  C.step (sBin .neq 3 (.tmp 24) (.tmp 27) v24_1 v27_1) w fun v28_1 w =>
  C.bool v28_1
  (Q (.bool false) w)
  (C.step (sConv 3 42 a1) w fun v30_1 w =>
  C.step (sBuiltin .len #[22] 3 [false] [v22_1]) w fun v32_1 w =>
  C.step (sBin .mul 3 (.const (.int .i64 8)) (.tmp 32) (.int .i64 8) v32_1) w fun v33_1 w =>
  C.step (sBin .sub 3 (.tmp 33) (.const (.int .i64 31)) v33_1 (.int .i64 31)) w fun v34_1 w =>
  C.step (sConv 3 42 v34_1) w fun v35_1 w =>
  C.step (sBin .rem 42 (.tmp 30) (.tmp 35) v30_1 v35_1) w fun v36_1 w =>
  C.step (sConv 42 3 v36_1) w fun v37_1 w =>
  C.loop [(.int .i64 0)] w fun dv_1 vs_1 w again_1 =>
  C.step (sBin .lss 3 (.tmp 38) (.const (.int .i64 32)) (vs_1.getD 0 undef) (.int .i64 32)) w fun v39_1 w =>
  C.bool v39_1
  (C.step (sBin .shr 23 (.tmp 42) (.tmp 43) a2 (vs_1.getD 0 undef)) w fun v44_1 w =>
  C.step (sBin .and 23 (.tmp 44) (.const (.int .u32 1)) v44_1 (.int .u32 1)) w fun v45_1 w =>
  C.step (sBin .eql 23 (.tmp 45) (.const (.int .u32 1)) v45_1 (.int .u32 1)) w fun v46_1 w =>
  C.bool v46_1
  (C.step (sBin .add 3 (.tmp 47) (.tmp 48) v37_1 (vs_1.getD 0 undef)) w fun v49_1 w =>
  C.draw w fun S_1 w =>
  C.stepS S_1 (sBin .quo 3 (.tmp 51) (.const (.int .i64 8)) v49_1 (.int .i64 8)) fun v52_1 =>
  C.stepS S_1 (sBin .quo 3 (.tmp 54) (.const (.int .i64 8)) v49_1 (.int .i64 8)) fun v55_1 =>
  C.stepS S_1 (sIndexAddr 22 v22_1 v55_1) fun v56_1 =>
  C.stepS S_1 (sLoad 5 v56_1) fun v57_1 =>
  C.stepS S_1 (sBin .rem 3 (.tmp 58) (.const (.int .i64 8)) v49_1 (.int .i64 8)) fun v59_1 =>
  C.stepS S_1 (sBin .shl 5 (.const (.int .u8 1)) (.tmp 59) (.int .u8 1) v59_1) fun v60_1 =>
  C.stepS S_1 (sBin .xor 5 (.tmp 57) (.tmp 60) v57_1 v60_1) fun v61_1 =>
  C.stepS S_1 (sIndexAddr 22 v22_1 v52_1) fun v62_1 =>
  C.step (sStore 5 v62_1 v61_1) w fun vx_1 w =>
  C.keepT w fun S_2 =>
  flotillalaw02_CrcBursts_k3 C vs_1 again_1 w Q)
  (flotillalaw02_CrcBursts_k3 C vs_1 again_1 w Q))
  (flotillalaw02_CrcBursts_k1 C v22_1 w Q))))
theorem flotillalaw02_CrcBursts_eq (C : Comb) (a0 : Value) (a1 : Value) (a2 : Value) (w : World) (Q : Value → World → Prop) : flotillalaw02_CrcBursts_x C a0 a1 a2 w Q = FunY Try.prog C 2 Try.f8 [a0, a1, a2] w Q := by kernel_rfl
theorem flotillalaw02_CrcBursts_sound (a0 : Value) (a1 : Value) (a2 : Value) {w : World} {Q : Value → World → Prop} (h : flotillalaw02_CrcBursts_x (std Try.prog) a0 a1 a2 w Q) : CallsR Try.prog 8 #[a0, a1, a2] w Q :=
  calls_of_funY mixed Try.func8 (Eq.mp (flotillalaw02_CrcBursts_eq _ a0 a1 a2 w Q) h)

def flotillalaw02_lives_x (C : Comb) (w : World) (Q : Value → World → Prop) : Prop :=
  C.step (sBuildSlice 22 9 [(0, (.int .u8 49)), (1, (.int .u8 50)), (2, (.int .u8 51)), (3, (.int .u8 52)), (4, (.int .u8 53)), (5, (.int .u8 54)), (6, (.int .u8 55)), (7, (.int .u8 56)), (8, (.int .u8 57))]) w fun v1_1 w =>
  C.step (sConv 22 22 v1_1) w fun v2_1 w =>
  C.calls 10 #[v2_1] w fun v3_1 w =>
  C.step (sBin .eql 23 (.tmp 3) (.const (.int .u32 3808858755)) v3_1 (.int .u32 3808858755)) w fun v4_1 w =>
  Q v4_1 w
theorem flotillalaw02_lives_eq (C : Comb) (w : World) (Q : Value → World → Prop) : flotillalaw02_lives_x C w Q = FunY Try.prog C 0 Try.f9 [] w Q := by kernel_rfl
theorem flotillalaw02_lives_sound {w : World} {Q : Value → World → Prop} (h : flotillalaw02_lives_x (std Try.prog) w Q) : CallsR Try.prog 9 #[] w Q :=
  calls_of_funY mixed Try.func9 (Eq.mp (flotillalaw02_lives_eq _ w Q) h)

def flotillaref02_Sum_x (C : Comb) (a0 : Value) (w : World) (Q : Value → World → Prop) : Prop :=
  C.calls 13 #[(.int .u32 0), a0] w fun v4_1 w =>
  Q v4_1 w
theorem flotillaref02_Sum_eq (C : Comb) (a0 : Value) (w : World) (Q : Value → World → Prop) : flotillaref02_Sum_x C a0 w Q = FunY Try.prog C 2 Try.f11 [a0] w Q := by kernel_rfl
theorem flotillaref02_Sum_sound (a0 : Value) {w : World} {Q : Value → World → Prop} (h : flotillaref02_Sum_x (std Try.prog) a0 w Q) : CallsR Try.prog 11 #[a0] w Q :=
  calls_of_funY mixed Try.func11 (Eq.mp (flotillaref02_Sum_eq _ a0 w Q) h)

def flotillaref02_More_k1 (C : Comb) (u5_1 : Value) (w : World) (Q : Value → World → Prop) : Prop :=
  C.step (sBin .sub 23 (.const (.int .u32 4294967295)) (.tmp 38) (.int .u32 4294967295) u5_1) w fun v39_1 w =>
  Q v39_1 w
def flotillaref02_More_k2 (C : Comb) (vs_1 : List Value) (again_1 : List Value → World → Prop) (u9_2 : Value) (u7_2 : Value) (u5_2 : Value) (u8_2 : Value) (w : World) (Q : Value → World → Prop) : Prop :=
  C.step (sBin .add 3 (.tmp 16) (.const (.int .i64 1)) (vs_1.getD 4 undef) (.int .i64 1)) w fun v17_1 w =>
  again_1 [u9_2, u7_2, u5_2, u8_2, v17_1] w
def flotillaref02_More_k3 (C : Comb) (vs_2 : List Value) (again_2 : List Value → World → Prop) (u9_3 : Value) (u7_3 : Value) (u5_3 : Value) (w : World) (Q : Value → World → Prop) : Prop :=
  C.step (sBin .add 3 (.tmp 24) (.const (.int .i64 1)) (vs_2.getD 3 undef) (.int .i64 1)) w fun v25_1 w =>
  again_2 [u9_3, u7_3, u5_3, v25_1] w
def flotillaref02_More_x (C : Comb) (a0 : Value) (a1 : Value) (w : World) (Q : Value → World → Prop) : Prop :=
  C.step (sBin .sub 23 (.const (.int .u32 4294967295)) (.tmp 10) (.int .u32 4294967295) a0) w fun v11_1 w =>
  C.loop [undef, undef, v11_1, undef, (.int .i64 0)] w fun dv_1 vs_1 w again_1 =>
  C.step (sBuiltin .len #[9] 3 [false] [a1]) w fun v14_1 w =>
  C.step (sBin .lss 3 (.tmp 12) (.tmp 14) (vs_1.getD 4 undef) v14_1) w fun v15_1 w =>
  C.bool v15_1
  (C.step (sIndex 9 a1 (vs_1.getD 4 undef)) w fun v20_1 w =>
  C.step (sConv 5 23 v20_1) w fun v21_1 w =>
  C.loop [(vs_1.getD 0 undef), v21_1, (vs_1.getD 2 undef), (.int .i64 0)] w fun dv_2 vs_2 w again_2 =>
  C.step (sBin .lss 3 (.tmp 22) (.const (.int .i64 8)) (vs_2.getD 3 undef) (.int .i64 8)) w fun v23_1 w =>
  C.bool v23_1
  (C.step (sBin .rem 23 (.tmp 26) (.const (.int .u32 2)) (vs_2.getD 2 undef) (.int .u32 2)) w fun v27_1 w =>
  C.step (sBin .rem 23 (.tmp 28) (.const (.int .u32 2)) (vs_2.getD 1 undef) (.int .u32 2)) w fun v29_1 w =>
  C.step (sBin .neq 23 (.tmp 27) (.tmp 29) v27_1 v29_1) w fun v30_1 w =>
  C.step (sBin .quo 23 (.tmp 31) (.const (.int .u32 2)) (vs_2.getD 2 undef) (.int .u32 2)) w fun v32_1 w =>
  C.step (sBin .quo 23 (.tmp 33) (.const (.int .u32 2)) (vs_2.getD 1 undef) (.int .u32 2)) w fun v34_1 w =>
  C.bool v30_1
  (C.step (sBin .xor 23 (.tmp 36) (.const (.int .u32 2197175160)) v32_1 (.int .u32 2197175160)) w fun v37_1 w =>
  flotillaref02_More_k3 C vs_2 again_2 v30_1 v34_1 v37_1 w Q)
  (flotillaref02_More_k3 C vs_2 again_2 v30_1 v34_1 v32_1 w Q))
  (flotillaref02_More_k2 C vs_1 again_1 (vs_2.getD 0 undef) (vs_2.getD 1 undef) (vs_2.getD 2 undef) (vs_2.getD 3 undef) w Q))
  (flotillaref02_More_k1 C (vs_1.getD 2 undef) w Q)
theorem flotillaref02_More_eq (C : Comb) (a0 : Value) (a1 : Value) (w : World) (Q : Value → World → Prop) : flotillaref02_More_x C a0 a1 w Q = FunY Try.prog C 10 Try.f13 [a0, a1] w Q := by kernel_rfl
theorem flotillaref02_More_sound (a0 : Value) (a1 : Value) {w : World} {Q : Value → World → Prop} (h : flotillaref02_More_x (std Try.prog) a0 a1 w Q) : CallsR Try.prog 13 #[a0, a1] w Q :=
  calls_of_funY mixed Try.func13 (Eq.mp (flotillaref02_More_eq _ a0 a1 w Q) h)

def flotillaref02_Open_x (C : Comb) (a0 : Value) (w : World) (Q : Value → World → Prop) : Prop :=
  C.step (sBuiltin .len #[9] 3 [false] [a0]) w fun v6_1 w =>
  C.step (sBin .lss 3 (.tmp 6) (.const (.int .i64 4)) v6_1 (.int .i64 4)) w fun v7_1 w =>
  C.bool v7_1
  (Q (.tuple #[(.string ⟨#[]⟩), (.int .i64 4)]) w)
  (C.step (sBuiltin .len #[9] 3 [false] [a0]) w fun v9_1 w =>
  C.step (sBin .sub 3 (.tmp 9) (.const (.int .i64 4)) v9_1 (.int .i64 4)) w fun v10_1 w =>
  C.draw w fun S_1 w =>
  C.stepS S_1 (sSlice 9 a0 (some v10_1) none none) fun v13_1 =>
  C.stepS S_1 (sSlice 9 a0 none (some v10_1) none) fun v16_1 =>
  C.calls 11 #[v16_1] w fun v17_1 w =>
  C.keepS S_1 w fun S_2 =>
  C.calls 19 #[v17_1] w fun v18_1 w =>
  C.keepS S_2 w fun S_3 =>
  C.stepS S_3 (sBin .neq 9 (.tmp 13) (.tmp 18) v13_1 v18_1) fun v19_1 =>
  C.bool v19_1
  (Q (.tuple #[(.string ⟨#[]⟩), (.int .i64 6)]) w)
  (C.step (sSlice 9 a0 none (some v10_1) none) w fun v22_1 w =>
  Q (.tuple #[v22_1, (.int .i64 0)]) w))
theorem flotillaref02_Open_eq (C : Comb) (a0 : Value) (w : World) (Q : Value → World → Prop) : flotillaref02_Open_x C a0 w Q = FunY Try.prog C 5 Try.f15 [a0] w Q := by kernel_rfl
theorem flotillaref02_Open_sound (a0 : Value) {w : World} {Q : Value → World → Prop} (h : flotillaref02_Open_x (std Try.prog) a0 w Q) : CallsR Try.prog 15 #[a0] w Q :=
  calls_of_funY mixed Try.func15 (Eq.mp (flotillaref02_Open_eq _ a0 w Q) h)

def flotillaref02_Seal_x (C : Comb) (a0 : Value) (w : World) (Q : Value → World → Prop) : Prop :=
  C.calls 11 #[a0] w fun v5_1 w =>
  C.calls 19 #[v5_1] w fun v6_1 w =>
  C.step (sBin .add 9 (.tmp 3) (.tmp 6) a0 v6_1) w fun v7_1 w =>
  Q v7_1 w
theorem flotillaref02_Seal_eq (C : Comb) (a0 : Value) (w : World) (Q : Value → World → Prop) : flotillaref02_Seal_x C a0 w Q = FunY Try.prog C 2 Try.f17 [a0] w Q := by kernel_rfl
theorem flotillaref02_Seal_sound (a0 : Value) {w : World} {Q : Value → World → Prop} (h : flotillaref02_Seal_x (std Try.prog) a0 w Q) : CallsR Try.prog 17 #[a0] w Q :=
  calls_of_funY mixed Try.func17 (Eq.mp (flotillaref02_Seal_eq _ a0 w Q) h)

def flotillaref02_Four_x (C : Comb) (a0 : Value) (w : World) (Q : Value → World → Prop) : Prop :=
  C.step (sBin .rem 23 (.tmp 3) (.const (.int .u32 256)) a0 (.int .u32 256)) w fun v4_1 w =>
  C.step (sConv 23 5 v4_1) w fun v5_1 w =>
  C.step (sBin .quo 23 (.tmp 6) (.const (.int .u32 256)) a0 (.int .u32 256)) w fun v7_1 w =>
  C.step (sBin .rem 23 (.tmp 7) (.const (.int .u32 256)) v7_1 (.int .u32 256)) w fun v8_1 w =>
  C.step (sConv 23 5 v8_1) w fun v9_1 w =>
  C.step (sBin .quo 23 (.tmp 10) (.const (.int .u32 65536)) a0 (.int .u32 65536)) w fun v11_1 w =>
  C.step (sBin .rem 23 (.tmp 11) (.const (.int .u32 256)) v11_1 (.int .u32 256)) w fun v12_1 w =>
  C.step (sConv 23 5 v12_1) w fun v13_1 w =>
  C.step (sBin .quo 23 (.tmp 14) (.const (.int .u32 16777216)) a0 (.int .u32 16777216)) w fun v15_1 w =>
  C.step (sConv 23 5 v15_1) w fun v16_1 w =>
  C.step (sBuildSlice 22 4 [(0, v5_1), (1, v9_1), (2, v13_1), (3, v16_1)]) w fun v17_1 w =>
  C.step (sConv 22 9 v17_1) w fun v18_1 w =>
  Q v18_1 w
theorem flotillaref02_Four_eq (C : Comb) (a0 : Value) (w : World) (Q : Value → World → Prop) : flotillaref02_Four_x C a0 w Q = FunY Try.prog C 2 Try.f19 [a0] w Q := by kernel_rfl
theorem flotillaref02_Four_sound (a0 : Value) {w : World} {Q : Value → World → Prop} (h : flotillaref02_Four_x (std Try.prog) a0 w Q) : CallsR Try.prog 19 #[a0] w Q :=
  calls_of_funY mixed Try.func19 (Eq.mp (flotillaref02_Four_eq _ a0 w Q) h)

end Go.Proofs.Ytpbejopmgnglnaa
