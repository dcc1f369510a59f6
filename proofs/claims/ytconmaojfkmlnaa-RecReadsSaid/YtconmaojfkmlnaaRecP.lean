/- Pieces of a function. Written by a program of this work. -/
import Derived.Test.YtconmaojfkmlnaaD
import Derived.Test.YtconmaojfkmlnaaProg
import Derived.KernelRfl
namespace Go.Proofs.Ytconmaojfkmlnaa.Rec
open Go Go.Proofs.Ytconmaojfkmlnaa Xf
set_option maxRecDepth 100000
set_option linter.unusedVariables false

def sel : List Nat → Code → Code
  | [], c => c
  | 0 :: p, .seq a _ => sel p a
  | 1 :: p, .seq _ b => sel p b
  | 2 :: p, .cond _ a _ => sel p a
  | _, _ => .goto 0
def onN (N : List Sl → World → Prop) (e : Exit) (fr : List Sl) (w : World) : Prop := match e with | .normal => N fr w | _ => False
def read_p0_x (C : Comb) (s : Nat → Value) (w : World) (N : List Sl → World → Prop) : Prop :=
  C.step (sAlloc 33) w fun v2_1 w =>
  N [.val (s 0), .val (s 1), .val v2_1, .val (s 3), .val (s 4), .val (s 5), .val (s 6), .val (s 7), .val (s 8), .val (s 9), .val (s 10), .val (s 11), .val (s 12), .val (s 13), .val (s 14), .val (s 15), .val (s 16), .val (s 17), .val (s 18), .val (s 19), .val (s 20), .val (s 21), .val (s 22), .val (s 23), .val (s 24), .val (s 25), .val (s 26), .val (s 27), .val (s 28), .val (s 29), .val (s 30), .val (s 31), .val (s 32), .val (s 33), .val (s 34), .val (s 35), .val (s 36), .val (s 37), .val (s 38), .val (s 39), .val (s 40), .val (s 41), .val (s 42), .val (s 43), .val (s 44), .val (s 45), .val (s 46), .val (s 47), .val (s 48), .val (s 49), .val (s 50), .val (s 51), .val (s 52), .val (s 53), .val (s 54), .val (s 55), .val (s 56), .val (s 57), .val (s 58), .val (s 59), .val (s 60), .val (s 61), .val (s 62), .val (s 63), .val (s 64), .val (s 65), .val (s 66), .val (s 67), .val (s 68), .val (s 69), .val (s 70), .val (s 71), .val (s 72), .val (s 73), .val (s 74), .val (s 75), .val (s 76), .val (s 77), .val (s 78), .val (s 79), .val (s 80), .val (s 81), .val (s 82), .val (s 83), .val (s 84), .val (s 85), .val (s 86), .val (s 87), .val (s 88), .val (s 89), .val (s 90)] w
theorem read_p0_eq (C : Comb) (s : Nat → Value) (w : World) (N : List Sl → World → Prop) : read_p0_x C s w N = Y Try.prog C 2 [] (sel [0] (Try.f24.body.getD .skip)) (onN N) ((List.range 91).map fun i => .val (s i)) w := by kernel_rfl
def read_p1_x (C : Comb) (s : Nat → Value) (w : World) (N : List Sl → World → Prop) : Prop :=
  C.calls 54 #[(s 0)] w fun v5_1 w =>
  C.step (sConv 5 24 v5_1) w fun v6_1 w =>
  C.calls 55 #[(s 0)] w fun v8_1 w =>
  C.calls 56 #[(s 0)] w fun v10_1 w =>
  C.step (sConv 89 3 v10_1) w fun v11_1 w =>
  C.calls 55 #[(s 0)] w fun v13_1 w =>
  C.step (sBuild 33 [(0, v6_1), (1, v8_1), (2, v11_1), (3, v13_1)]) w fun v14_1 w =>
  C.step (sAlloc 33) w fun v3_1 w =>
  C.step (sStore 33 v3_1 v14_1) w fun vx_1 w =>
  N [.val (s 0), .val (s 1), .val (s 2), .val v3_1, .val (s 0), .val v5_1, .val v6_1, .val (s 0), .val v8_1, .val (s 0), .val v10_1, .val v11_1, .val (s 0), .val v13_1, .val v14_1, .val (s 15), .val (s 16), .val (s 17), .val (s 18), .val (s 19), .val (s 20), .val (s 21), .val (s 22), .val (s 23), .val (s 24), .val (s 25), .val (s 26), .val (s 27), .val (s 28), .val (s 29), .val (s 30), .val (s 31), .val (s 32), .val (s 33), .val (s 34), .val (s 35), .val (s 36), .val (s 37), .val (s 38), .val (s 39), .val (s 40), .val (s 41), .val (s 42), .val (s 43), .val (s 44), .val (s 45), .val (s 46), .val (s 47), .val (s 48), .val (s 49), .val (s 50), .val (s 51), .val (s 52), .val (s 53), .val (s 54), .val (s 55), .val (s 56), .val (s 57), .val (s 58), .val (s 59), .val (s 60), .val (s 61), .val (s 62), .val (s 63), .val (s 64), .val (s 65), .val (s 66), .val (s 67), .val (s 68), .val (s 69), .val (s 70), .val (s 71), .val (s 72), .val (s 73), .val (s 74), .val (s 75), .val (s 76), .val (s 77), .val (s 78), .val (s 79), .val (s 80), .val (s 81), .val (s 82), .val (s 83), .val (s 84), .val (s 85), .val (s 86), .val (s 87), .val (s 88), .val (s 89), .val (s 90)] w
theorem read_p1_eq (C : Comb) (s : Nat → Value) (w : World) (N : List Sl → World → Prop) : read_p1_x C s w N = Y Try.prog C 2 [] (sel [1, 0] (Try.f24.body.getD .skip)) (onN N) ((List.range 91).map fun i => .val (s i)) w := by kernel_rfl
def read_m1_x (C : Comb) (s : Nat → Value) (w : World) (N : List Sl → World → Prop) : Prop :=
  C.step (sFieldAddr 33 (s 3) 0) w fun v19_1 w =>
  C.step (sLoad 24 v19_1) w fun v20_1 w =>
  C.calls 41 #[v20_1] w fun v21_1 w =>
  C.bool v21_1
  (C.calls 32 #[(s 0)] w fun v23_1 w =>
  C.step (sConv 70 3 v23_1) w fun v24_1 w =>
  C.step (sFieldAddr 33 (s 3) 5) w fun v25_1 w =>
  C.step (sStore 3 v25_1 v24_1) w fun vx_1 w =>
  C.calls 54 #[(s 0)] w fun v27_1 w =>
  C.step (sConv 5 27 v27_1) w fun v28_1 w =>
  C.calls 58 #[(s 0), (.int .i64 16)] w fun v30_1 w =>
  C.calls 58 #[(s 0), (.int .i64 32)] w fun v32_1 w =>
  C.calls 58 #[(s 0), (.int .i64 32)] w fun v34_1 w =>
  C.step (sBuild 29 [(0, v28_1), (1, v30_1), (2, v32_1), (3, v34_1)]) w fun v35_1 w =>
  C.step (sFieldAddr 33 (s 3) 6) w fun v36_1 w =>
  C.step (sStore 29 v36_1 v35_1) w fun vx_2 w =>
  N [.val (s 0), .val (s 1), .val (s 2), .val (s 3), .val (s 4), .val (s 5), .val (s 6), .val (s 7), .val (s 8), .val (s 9), .val (s 10), .val (s 11), .val (s 12), .val (s 13), .val (s 14), .val (s 15), .val (s 16), .val (s 17), .val (s 18), .val v19_1, .val v20_1, .val v21_1, .val (s 0), .val v23_1, .val v24_1, .val v25_1, .val (s 0), .val v27_1, .val v28_1, .val (s 0), .val v30_1, .val (s 0), .val v32_1, .val (s 0), .val v34_1, .val v35_1, .val v36_1, .val (s 37), .val (s 38), .val (s 39), .val (s 40), .val (s 41), .val (s 42), .val (s 43), .val (s 44), .val (s 45), .val (s 46), .val (s 47), .val (s 48), .val (s 49), .val (s 50), .val (s 51), .val (s 52), .val (s 53), .val (s 54), .val (s 55), .val (s 56), .val (s 57), .val (s 58), .val (s 59), .val (s 60), .val (s 61), .val (s 62), .val (s 63), .val (s 64), .val (s 65), .val (s 66), .val (s 67), .val (s 68), .val (s 69), .val (s 70), .val (s 71), .val (s 72), .val (s 73), .val (s 74), .val (s 75), .val (s 76), .val (s 77), .val (s 78), .val (s 79), .val (s 80), .val (s 81), .val (s 82), .val (s 83), .val (s 84), .val (s 85), .val (s 86), .val (s 87), .val (s 88), .val (s 89), .val (s 90)] w)
  (N [.val (s 0), .val (s 1), .val (s 2), .val (s 3), .val (s 4), .val (s 5), .val (s 6), .val (s 7), .val (s 8), .val (s 9), .val (s 10), .val (s 11), .val (s 12), .val (s 13), .val (s 14), .val (s 15), .val (s 16), .val (s 17), .val (s 18), .val v19_1, .val v20_1, .val v21_1, .val (s 22), .val (s 23), .val (s 24), .val (s 25), .val (s 26), .val (s 27), .val (s 28), .val (s 29), .val (s 30), .val (s 31), .val (s 32), .val (s 33), .val (s 34), .val (s 35), .val (s 36), .val (s 37), .val (s 38), .val (s 39), .val (s 40), .val (s 41), .val (s 42), .val (s 43), .val (s 44), .val (s 45), .val (s 46), .val (s 47), .val (s 48), .val (s 49), .val (s 50), .val (s 51), .val (s 52), .val (s 53), .val (s 54), .val (s 55), .val (s 56), .val (s 57), .val (s 58), .val (s 59), .val (s 60), .val (s 61), .val (s 62), .val (s 63), .val (s 64), .val (s 65), .val (s 66), .val (s 67), .val (s 68), .val (s 69), .val (s 70), .val (s 71), .val (s 72), .val (s 73), .val (s 74), .val (s 75), .val (s 76), .val (s 77), .val (s 78), .val (s 79), .val (s 80), .val (s 81), .val (s 82), .val (s 83), .val (s 84), .val (s 85), .val (s 86), .val (s 87), .val (s 88), .val (s 89), .val (s 90)] w)
theorem read_m1_eq (C : Comb) (s : Nat → Value) (w : World) (N : List Sl → World → Prop) : read_m1_x C s w N = Y Try.prog C 2 [] (sel [1, 1, 1, 0] (Try.f24.body.getD .skip)) (onN N) ((List.range 91).map fun i => .val (s i)) w := by kernel_rfl
def read_m2_x (C : Comb) (s : Nat → Value) (w : World) (N : List Sl → World → Prop) : Prop :=
  C.step (sFieldAddr 33 (s 3) 0) w fun v37_1 w =>
  C.step (sLoad 24 v37_1) w fun v38_1 w =>
  C.step (sBin .eql 24 (.tmp 38) (.const (.int .i64 2)) v38_1 (.int .i64 2)) w fun v39_1 w =>
  C.bool v39_1
  (C.calls 55 #[(s 0)] w fun v41_1 w =>
  C.step (sFieldAddr 33 (s 3) 4) w fun v42_1 w =>
  C.step (sStore 26 v42_1 v41_1) w fun vx_1 w =>
  N [.val (s 0), .val (s 1), .val (s 2), .val (s 3), .val (s 4), .val (s 5), .val (s 6), .val (s 7), .val (s 8), .val (s 9), .val (s 10), .val (s 11), .val (s 12), .val (s 13), .val (s 14), .val (s 15), .val (s 16), .val (s 17), .val (s 18), .val (s 19), .val (s 20), .val (s 21), .val (s 22), .val (s 23), .val (s 24), .val (s 25), .val (s 26), .val (s 27), .val (s 28), .val (s 29), .val (s 30), .val (s 31), .val (s 32), .val (s 33), .val (s 34), .val (s 35), .val (s 36), .val v37_1, .val v38_1, .val v39_1, .val (s 0), .val v41_1, .val v42_1, .val (s 43), .val (s 44), .val (s 45), .val (s 46), .val (s 47), .val (s 48), .val (s 49), .val (s 50), .val (s 51), .val (s 52), .val (s 53), .val (s 54), .val (s 55), .val (s 56), .val (s 57), .val (s 58), .val (s 59), .val (s 60), .val (s 61), .val (s 62), .val (s 63), .val (s 64), .val (s 65), .val (s 66), .val (s 67), .val (s 68), .val (s 69), .val (s 70), .val (s 71), .val (s 72), .val (s 73), .val (s 74), .val (s 75), .val (s 76), .val (s 77), .val (s 78), .val (s 79), .val (s 80), .val (s 81), .val (s 82), .val (s 83), .val (s 84), .val (s 85), .val (s 86), .val (s 87), .val (s 88), .val (s 89), .val (s 90)] w)
  (N [.val (s 0), .val (s 1), .val (s 2), .val (s 3), .val (s 4), .val (s 5), .val (s 6), .val (s 7), .val (s 8), .val (s 9), .val (s 10), .val (s 11), .val (s 12), .val (s 13), .val (s 14), .val (s 15), .val (s 16), .val (s 17), .val (s 18), .val (s 19), .val (s 20), .val (s 21), .val (s 22), .val (s 23), .val (s 24), .val (s 25), .val (s 26), .val (s 27), .val (s 28), .val (s 29), .val (s 30), .val (s 31), .val (s 32), .val (s 33), .val (s 34), .val (s 35), .val (s 36), .val v37_1, .val v38_1, .val v39_1, .val (s 40), .val (s 41), .val (s 42), .val (s 43), .val (s 44), .val (s 45), .val (s 46), .val (s 47), .val (s 48), .val (s 49), .val (s 50), .val (s 51), .val (s 52), .val (s 53), .val (s 54), .val (s 55), .val (s 56), .val (s 57), .val (s 58), .val (s 59), .val (s 60), .val (s 61), .val (s 62), .val (s 63), .val (s 64), .val (s 65), .val (s 66), .val (s 67), .val (s 68), .val (s 69), .val (s 70), .val (s 71), .val (s 72), .val (s 73), .val (s 74), .val (s 75), .val (s 76), .val (s 77), .val (s 78), .val (s 79), .val (s 80), .val (s 81), .val (s 82), .val (s 83), .val (s 84), .val (s 85), .val (s 86), .val (s 87), .val (s 88), .val (s 89), .val (s 90)] w)
theorem read_m2_eq (C : Comb) (s : Nat → Value) (w : World) (N : List Sl → World → Prop) : read_m2_x C s w N = Y Try.prog C 2 [] (sel [1, 1, 1, 1, 0] (Try.f24.body.getD .skip)) (onN N) ((List.range 91).map fun i => .val (s i)) w := by kernel_rfl
def read_m3_k1 (C : Comb) (s : Nat → Value) (v43_1 : Value) (v44_1 : Value) (v45_1 : Value) (u46_1 : Value) (u47_1 : Value) (u49_1 : Value) (u50_1 : Value) (u51_1 : Value) (u52_1 : Value) (u53_1 : Value) (u54_1 : Value) (u55_1 : Value) (u56_1 : Value) (u57_1 : Value) (u58_1 : Value) (u59_1 : Value) (u60_1 : Value) (u61_1 : Value) (u62_1 : Value) (u63_1 : Value) (u64_1 : Value) (u48_1 : Value) (w : World) (N : List Sl → World → Prop) : Prop :=
  C.calls 54 #[(s 0)] w fun v66_1 w =>
  C.loop [(.int .u8 0)] w fun dv_1 vs_1 w again_1 =>
  C.step (sBin .lss 5 (.tmp 67) (.tmp 66) (vs_1.getD 0 undef) v66_1) w fun v68_1 w =>
  C.bool v68_1
  (C.draw w fun S_1 w =>
  C.stepS S_1 (sFieldAddr 33 (s 3) 8) fun v69_1 =>
  C.stepS S_1 (sLoad 31 v69_1) fun v70_1 =>
  C.calls 32 #[(s 0)] w fun v72_1 w =>
  C.keepS S_1 w fun S_2 =>
  C.stepS S_2 (sConv 70 3 v72_1) fun v73_1 =>
  C.calls 55 #[(s 0)] w fun v75_1 w =>
  C.keepS S_2 w fun S_3 =>
  C.step (sBuild 53 [(0, v73_1), (1, v75_1)]) w fun v76_1 w =>
  C.keepS S_3 w fun S_4 =>
  C.step (sBuildSlice 31 1 [(0, v76_1)]) w fun v77_1 w =>
  C.keepS S_4 w fun S_5 =>
  C.step (sBuiltin .append #[31, 31] 31 [false, false] [v70_1, v77_1]) w fun v78_1 w =>
  C.keepT w fun S_6 =>
  C.stepS S_6 (sFieldAddr 33 (s 3) 8) fun v79_1 =>
  C.step (sStore 31 v79_1 v78_1) w fun vx_1 w =>
  C.keepT w fun S_7 =>
  C.step (sBin .add 5 (.tmp 67) (.const (.int .u8 1)) (vs_1.getD 0 undef) (.int .u8 1)) w fun v80_1 w =>
  again_1 [v80_1] w)
  (N [.val (s 0), .val (s 1), .val (s 2), .val (s 3), .val (s 4), .val (s 5), .val (s 6), .val (s 7), .val (s 8), .val (s 9), .val (s 10), .val (s 11), .val (s 12), .val (s 13), .val (s 14), .val (s 15), .val (s 16), .val (s 17), .val (s 18), .val (s 19), .val (s 20), .val (s 21), .val (s 22), .val (s 23), .val (s 24), .val (s 25), .val (s 26), .val (s 27), .val (s 28), .val (s 29), .val (s 30), .val (s 31), .val (s 32), .val (s 33), .val (s 34), .val (s 35), .val (s 36), .val (s 37), .val (s 38), .val (s 39), .val (s 40), .val (s 41), .val (s 42), .val v43_1, .val v44_1, .val v45_1, .val u46_1, .val u47_1, .val u48_1, .val u49_1, .val u50_1, .val u51_1, .val u52_1, .val u53_1, .val u54_1, .val u55_1, .val u56_1, .val u57_1, .val u58_1, .val u59_1, .val u60_1, .val u61_1, .val u62_1, .val u63_1, .val u64_1, .val (s 0), .val v66_1, .val (vs_1.getD 0 undef), .val v68_1, .val (dv_1 69), .val (dv_1 70), .val (dv_1 71), .val (dv_1 72), .val (dv_1 73), .val (dv_1 74), .val (dv_1 75), .val (dv_1 76), .val (dv_1 77), .val (dv_1 78), .val (dv_1 79), .val (dv_1 80), .val (s 81), .val (s 82), .val (s 83), .val (s 84), .val (s 85), .val (s 86), .val (s 87), .val (s 88), .val (s 89), .val (s 90)] w)
def read_m3_x (C : Comb) (s : Nat → Value) (w : World) (N : List Sl → World → Prop) : Prop :=
  C.step (sFieldAddr 33 (s 3) 0) w fun v43_1 w =>
  C.step (sLoad 24 v43_1) w fun v44_1 w =>
  C.step (sBin .eql 24 (.tmp 44) (.const (.int .i64 8)) v44_1 (.int .i64 8)) w fun v45_1 w =>
  C.bool v45_1
  (C.calls 54 #[(s 0)] w fun v47_1 w =>
  C.loop [(.int .u8 0)] w fun dv_2 vs_2 w again_2 =>
  C.step (sBin .lss 5 (.tmp 48) (.tmp 47) (vs_2.getD 0 undef) v47_1) w fun v49_1 w =>
  C.bool v49_1
  (C.draw w fun S_8 w =>
  C.stepS S_8 (sFieldAddr 33 (s 3) 7) fun v50_1 =>
  C.stepS S_8 (sLoad 30 v50_1) fun v51_1 =>
  C.calls 56 #[(s 0)] w fun v53_1 w =>
  C.keepS S_8 w fun S_9 =>
  C.stepS S_9 (sConv 89 3 v53_1) fun v54_1 =>
  C.calls 54 #[(s 0)] w fun v56_1 w =>
  C.keepS S_9 w fun S_10 =>
  C.stepS S_10 (sConv 5 49 v56_1) fun v57_1 =>
  C.calls 55 #[(s 0)] w fun v59_1 w =>
  C.keepS S_10 w fun S_11 =>
  C.step (sBuild 51 [(0, v54_1), (1, v57_1), (2, v59_1)]) w fun v60_1 w =>
  C.keepS S_11 w fun S_12 =>
  C.step (sBuildSlice 30 1 [(0, v60_1)]) w fun v61_1 w =>
  C.keepS S_12 w fun S_13 =>
  C.step (sBuiltin .append #[30, 30] 30 [false, false] [v51_1, v61_1]) w fun v62_1 w =>
  C.keepT w fun S_14 =>
  C.stepS S_14 (sFieldAddr 33 (s 3) 7) fun v63_1 =>
  C.step (sStore 30 v63_1 v62_1) w fun vx_2 w =>
  C.keepT w fun S_15 =>
  C.step (sBin .add 5 (.tmp 48) (.const (.int .u8 1)) (vs_2.getD 0 undef) (.int .u8 1)) w fun v64_1 w =>
  again_2 [v64_1] w)
  (read_m3_k1 C s v43_1 v44_1 v45_1 (s 0) v47_1 v49_1 (dv_2 50) (dv_2 51) (dv_2 52) (dv_2 53) (dv_2 54) (dv_2 55) (dv_2 56) (dv_2 57) (dv_2 58) (dv_2 59) (dv_2 60) (dv_2 61) (dv_2 62) (dv_2 63) (dv_2 64) (vs_2.getD 0 undef) w N))
  (N [.val (s 0), .val (s 1), .val (s 2), .val (s 3), .val (s 4), .val (s 5), .val (s 6), .val (s 7), .val (s 8), .val (s 9), .val (s 10), .val (s 11), .val (s 12), .val (s 13), .val (s 14), .val (s 15), .val (s 16), .val (s 17), .val (s 18), .val (s 19), .val (s 20), .val (s 21), .val (s 22), .val (s 23), .val (s 24), .val (s 25), .val (s 26), .val (s 27), .val (s 28), .val (s 29), .val (s 30), .val (s 31), .val (s 32), .val (s 33), .val (s 34), .val (s 35), .val (s 36), .val (s 37), .val (s 38), .val (s 39), .val (s 40), .val (s 41), .val (s 42), .val v43_1, .val v44_1, .val v45_1, .val (s 46), .val (s 47), .val (s 48), .val (s 49), .val (s 50), .val (s 51), .val (s 52), .val (s 53), .val (s 54), .val (s 55), .val (s 56), .val (s 57), .val (s 58), .val (s 59), .val (s 60), .val (s 61), .val (s 62), .val (s 63), .val (s 64), .val (s 65), .val (s 66), .val (s 67), .val (s 68), .val (s 69), .val (s 70), .val (s 71), .val (s 72), .val (s 73), .val (s 74), .val (s 75), .val (s 76), .val (s 77), .val (s 78), .val (s 79), .val (s 80), .val (s 81), .val (s 82), .val (s 83), .val (s 84), .val (s 85), .val (s 86), .val (s 87), .val (s 88), .val (s 89), .val (s 90)] w)
theorem read_m3_eq (C : Comb) (s : Nat → Value) (w : World) (N : List Sl → World → Prop) : read_m3_x C s w N = Y Try.prog C 2 [] (sel [1, 1, 1, 1, 1, 0] (Try.f24.body.getD .skip)) (onN N) ((List.range 91).map fun i => .val (s i)) w := by kernel_rfl
def catch_b_x (C : Comb) (s : Nat → Value) (w : World) (N : List Sl → World → Prop) : Prop :=
  C.draw w fun S_1 w =>
  C.stepS S_1 (sFieldAddr 57 (s 2) 0) fun v11_1 =>
  C.stepS S_1 (sLoad 34 v11_1) fun v12_1 =>
  C.step (sBuild 33 []) w fun v10_1 w =>
  C.keepS S_1 w fun S_2 =>
  C.step (sStore 33 (s 0) v10_1) w fun vx_1 w =>
  C.keepS S_2 w fun S_3 =>
  C.step (sStore 34 (s 1) v12_1) w fun vx_2 w =>
  C.keepT w fun S_4 =>
  N [.val (s 0), .val (s 1), .val (s 2), .val (s 3), .val (s 4), .val (s 5), .val (s 6), .val (s 7), .val (s 8), .val (s 9), .val v10_1, .val v11_1, .val v12_1] w
theorem catch_b_eq (C : Comb) (s : Nat → Value) (w : World) (N : List Sl → World → Prop) : catch_b_x C s w N = Y Try.prog C 4 [] (sel [1, 1, 2] (Try.f23.body.getD .skip)) (onN N) ((List.range 13).map fun i => .val (s i)) w := by kernel_rfl
end Go.Proofs.Ytconmaojfkmlnaa.Rec
