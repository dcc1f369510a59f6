/- Functions of the program, read as statements without slots. Written by a program of this work. -/
import Derived.Test.YtconmaojfkmlnaaD
import Derived.Test.YtconmaojfkmlnaaProg
import Derived.KernelRfl
namespace Go.Proofs.Ytconmaojfkmlnaa
open Go Xf
set_option maxRecDepth 100000
set_option linter.unusedVariables false


def rec_read_k1 (C : Comb) (v2_1 : Value) (v3_1 : Value) (w : World) (Q : Value → World → Prop) : Prop :=
  C.step (sLoad 33 v3_1) w fun v90_1 w =>
  C.step (sStore 33 v2_1 v90_1) w fun vx_2 w =>
  C.loadR 33 v2_1 w fun r_1 =>
  Q r_1 w
def rec_read_j2 (C : Comb) (a0 : Value) (v2_1 : Value) (v3_1 : Value) (dv_3 : Nat → Value) (vs_3 : List Value) (w : World) (Q : Value → World → Prop) : Prop :=
  C.calls 59 #[a0] w fun v82_1 w =>
  C.step (sBin .eql 34 (.tmp 82) (.const (.int .i64 0)) v82_1 (.int .i64 0)) w fun v83_1 w =>
  C.bool v83_1
  (C.step (sLoad 33 v3_1) w fun v85_1 w =>
  C.calls 16 #[v85_1] w fun v86_1 w =>
  C.step (sBin .eql 34 (.tmp 86) (.const (.int .i64 0)) v86_1 (.int .i64 0)) w fun v87_1 w =>
  C.calls 57 #[v87_1] w fun v89_1 w =>
  rec_read_k1 C v2_1 v3_1 w Q)
  (C.calls 57 #[(.bool false)] w fun v89_2 w =>
  rec_read_k1 C v2_1 v3_1 w Q)
def rec_read_k3 (C : Comb) (a0 : Value) (v3_1 : Value) (j_3 : List Value → World → Prop) (w : World) (Q : Value → World → Prop) : Prop :=
  C.calls 54 #[a0] w fun v66_1 w =>
  C.loop [(.int .u8 0)] w fun dv_4 vs_4 w again_1 =>
  C.step (sBin .lss 5 (.tmp 67) (.tmp 66) (vs_4.getD 0 undef) v66_1) w fun v68_1 w =>
  C.bool v68_1
  (C.draw w fun S_1 w =>
  C.stepS S_1 (sFieldAddr 33 v3_1 8) fun v69_1 =>
  C.stepS S_1 (sLoad 31 v69_1) fun v70_1 =>
  C.calls 32 #[a0] w fun v72_1 w =>
  C.keepS S_1 w fun S_2 =>
  C.stepS S_2 (sConv 70 3 v72_1) fun v73_1 =>
  C.calls 55 #[a0] w fun v75_1 w =>
  C.keepS S_2 w fun S_3 =>
  C.step (sBuild 53 [(0, v73_1), (1, v75_1)]) w fun v76_1 w =>
  C.keepS S_3 w fun S_4 =>
  C.step (sBuildSlice 31 1 [(0, v76_1)]) w fun v77_1 w =>
  C.keepS S_4 w fun S_5 =>
  C.step (sBuiltin .append #[31, 31] 31 [false, false] [v70_1, v77_1]) w fun v78_1 w =>
  C.keepT w fun S_6 =>
  C.stepS S_6 (sFieldAddr 33 v3_1 8) fun v79_1 =>
  C.step (sStore 31 v79_1 v78_1) w fun vx_3 w =>
  C.keepT w fun S_7 =>
  C.step (sBin .add 5 (.tmp 67) (.const (.int .u8 1)) (vs_4.getD 0 undef) (.int .u8 1)) w fun v80_1 w =>
  again_1 [v80_1] w)
  (j_3 [] w)
def rec_read_j4 (C : Comb) (a0 : Value) (v2_1 : Value) (v3_1 : Value) (dv_2 : Nat → Value) (vs_2 : List Value) (w : World) (Q : Value → World → Prop) : Prop :=
  C.join (fun dv_3 vs_3 w => rec_read_j2 C a0 v2_1 v3_1 dv_3 vs_3 w Q) (fun j_3 =>
  C.step (sFieldAddr 33 v3_1 0) w fun v43_1 w =>
  C.step (sLoad 24 v43_1) w fun v44_1 w =>
  C.step (sBin .eql 24 (.tmp 44) (.const (.int .i64 8)) v44_1 (.int .i64 8)) w fun v45_1 w =>
  C.bool v45_1
  (C.calls 54 #[a0] w fun v47_1 w =>
  C.loop [(.int .u8 0)] w fun dv_5 vs_5 w again_2 =>
  C.step (sBin .lss 5 (.tmp 48) (.tmp 47) (vs_5.getD 0 undef) v47_1) w fun v49_1 w =>
  C.bool v49_1
  (C.draw w fun S_8 w =>
  C.stepS S_8 (sFieldAddr 33 v3_1 7) fun v50_1 =>
  C.stepS S_8 (sLoad 30 v50_1) fun v51_1 =>
  C.calls 56 #[a0] w fun v53_1 w =>
  C.keepS S_8 w fun S_9 =>
  C.stepS S_9 (sConv 89 3 v53_1) fun v54_1 =>
  C.calls 54 #[a0] w fun v56_1 w =>
  C.keepS S_9 w fun S_10 =>
  C.stepS S_10 (sConv 5 49 v56_1) fun v57_1 =>
  C.calls 55 #[a0] w fun v59_1 w =>
  C.keepS S_10 w fun S_11 =>
  C.step (sBuild 51 [(0, v54_1), (1, v57_1), (2, v59_1)]) w fun v60_1 w =>
  C.keepS S_11 w fun S_12 =>
  C.step (sBuildSlice 30 1 [(0, v60_1)]) w fun v61_1 w =>
  C.keepS S_12 w fun S_13 =>
  C.step (sBuiltin .append #[30, 30] 30 [false, false] [v51_1, v61_1]) w fun v62_1 w =>
  C.keepT w fun S_14 =>
  C.stepS S_14 (sFieldAddr 33 v3_1 7) fun v63_1 =>
  C.step (sStore 30 v63_1 v62_1) w fun vx_4 w =>
  C.keepT w fun S_15 =>
  C.step (sBin .add 5 (.tmp 48) (.const (.int .u8 1)) (vs_5.getD 0 undef) (.int .u8 1)) w fun v64_1 w =>
  again_2 [v64_1] w)
  (rec_read_k3 C a0 v3_1 j_3 w Q))
  (j_3 [] w))
def rec_read_j5 (C : Comb) (a0 : Value) (v2_1 : Value) (v3_1 : Value) (dv_1 : Nat → Value) (vs_1 : List Value) (w : World) (Q : Value → World → Prop) : Prop :=
  C.join (fun dv_2 vs_2 w => rec_read_j4 C a0 v2_1 v3_1 dv_2 vs_2 w Q) (fun j_2 =>
  C.step (sFieldAddr 33 v3_1 0) w fun v37_1 w =>
  C.step (sLoad 24 v37_1) w fun v38_1 w =>
  C.step (sBin .eql 24 (.tmp 38) (.const (.int .i64 2)) v38_1 (.int .i64 2)) w fun v39_1 w =>
  C.bool v39_1
  (C.calls 55 #[a0] w fun v41_1 w =>
  C.step (sFieldAddr 33 v3_1 4) w fun v42_1 w =>
  C.step (sStore 26 v42_1 v41_1) w fun vx_5 w =>
  j_2 [] w)
  (j_2 [] w))
def rec_read_x (C : Comb) (a0 : Value) (w : World) (Q : Value → World → Prop) : Prop :=
  C.step (sAlloc 33) w fun v2_1 w =>
  C.calls 54 #[a0] w fun v5_1 w =>
  C.step (sConv 5 24 v5_1) w fun v6_1 w =>
  C.calls 55 #[a0] w fun v8_1 w =>
  C.calls 56 #[a0] w fun v10_1 w =>
  C.step (sConv 89 3 v10_1) w fun v11_1 w =>
  C.calls 55 #[a0] w fun v13_1 w =>
  C.step (sBuild 33 [(0, v6_1), (1, v8_1), (2, v11_1), (3, v13_1)]) w fun v14_1 w =>
  C.step (sAlloc 33) w fun v3_1 w =>
  C.step (sStore 33 v3_1 v14_1) w fun vx_1 w =>
  C.calls 33 #[a0] w fun v16_1 w =>
  C.step (sBin .eql 34 (.tmp 16) (.const (.int .i64 0)) v16_1 (.int .i64 0)) w fun v17_1 w =>
  C.calls 57 #[v17_1] w fun v18_1 w =>
  C.join (fun dv_1 vs_1 w => rec_read_j5 C a0 v2_1 v3_1 dv_1 vs_1 w Q) (fun j_1 =>
  C.step (sFieldAddr 33 v3_1 0) w fun v19_1 w =>
  C.step (sLoad 24 v19_1) w fun v20_1 w =>
  C.calls 41 #[v20_1] w fun v21_1 w =>
  C.bool v21_1
  (C.calls 32 #[a0] w fun v23_1 w =>
  C.step (sConv 70 3 v23_1) w fun v24_1 w =>
  C.step (sFieldAddr 33 v3_1 5) w fun v25_1 w =>
  C.step (sStore 3 v25_1 v24_1) w fun vx_6 w =>
  C.calls 54 #[a0] w fun v27_1 w =>
  C.step (sConv 5 27 v27_1) w fun v28_1 w =>
  C.calls 58 #[a0, (.int .i64 16)] w fun v30_1 w =>
  C.calls 58 #[a0, (.int .i64 32)] w fun v32_1 w =>
  C.calls 58 #[a0, (.int .i64 32)] w fun v34_1 w =>
  C.step (sBuild 29 [(0, v28_1), (1, v30_1), (2, v32_1), (3, v34_1)]) w fun v35_1 w =>
  C.step (sFieldAddr 33 v3_1 6) w fun v36_1 w =>
  C.step (sStore 29 v36_1 v35_1) w fun vx_7 w =>
  j_1 [] w)
  (j_1 [] w))
theorem rec_read_eq (C : Comb) (a0 : Value) (w : World) (Q : Value → World → Prop) : rec_read_x C a0 w Q = FunY Try.prog C 2 [6, 8, 17] Try.f24 [a0] w Q := by kernel_rfl
theorem rec_read_sound (a0 : Value) {w : World} {Q : Value → World → Prop} (h : rec_read_x (std Try.prog) a0 w Q) : CallsR Try.prog 24 #[a0] w Q :=
  calls_of_funY mixed Try.func24 (Eq.mp (rec_read_eq _ a0 w Q) h)

end Go.Proofs.Ytconmaojfkmlnaa
