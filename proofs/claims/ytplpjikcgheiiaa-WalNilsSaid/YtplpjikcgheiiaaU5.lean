/- Texts of this work, put together: RecP, RecL, RecN, RecO, RecQ, RecR, RecS, RecT, RecU, RecX, RecY, RecZ, RecAA, StbM, StbS, StbS2, Zf, E, StbT, StbS3, StbS4, StbS5, WalA, WalB, WalC, WalD, WalE. -/
import Derived.Test.YtplpjikcgheiiaaU4
import Derived.Test.YtplpjikcgheiiaaProg
import Derived.KernelRfl
import Derived.Laws.OwnMore
import Derived.OrdersIn
import Derived.TacticsIn
import Derived.ControlIn
import Derived.RangeFuncRecord
import Derived.RangeFuncLeaves
/- Pieces of a function. Written by a program of this work. -/
namespace Go.Proofs.Ytplpjikcgheiiaa.Rec
open Go Go.Proofs.Ytplpjikcgheiiaa Xf
set_option maxRecDepth 100000
set_option linter.unusedVariables false

def sel : List Nat → Code → Code
  | [], c => c
  | 0 :: p, .seq a _ => sel p a
  | 1 :: p, .seq _ b => sel p b
  | 2 :: p, .cond _ a _ => sel p a
  | _, _ => .goto 0
def onN (N : List Sl → World → Prop) (e : Exit) (fr : List Sl) (w : World) : Prop := match e with | .normal => N fr w | _ => False
def read_p0_x (C : Comb) (s : Nat → Value) (w : World) (N : List Sl → World → Prop) : Prop :=
  C.step (sAlloc 41) w fun v2_1 w =>
  N [.val (s 0), .val (s 1), .val v2_1, .val (s 3), .val (s 4), .val (s 5), .val (s 6), .val (s 7), .val (s 8), .val (s 9), .val (s 10), .val (s 11), .val (s 12), .val (s 13), .val (s 14), .val (s 15), .val (s 16), .val (s 17), .val (s 18), .val (s 19), .val (s 20), .val (s 21), .val (s 22), .val (s 23), .val (s 24), .val (s 25), .val (s 26), .val (s 27), .val (s 28), .val (s 29), .val (s 30), .val (s 31), .val (s 32), .val (s 33), .val (s 34), .val (s 35), .val (s 36), .val (s 37), .val (s 38), .val (s 39), .val (s 40), .val (s 41), .val (s 42), .val (s 43), .val (s 44), .val (s 45), .val (s 46), .val (s 47), .val (s 48), .val (s 49), .val (s 50), .val (s 51), .val (s 52), .val (s 53), .val (s 54), .val (s 55), .val (s 56), .val (s 57), .val (s 58), .val (s 59), .val (s 60), .val (s 61), .val (s 62), .val (s 63), .val (s 64), .val (s 65), .val (s 66), .val (s 67), .val (s 68), .val (s 69), .val (s 70), .val (s 71), .val (s 72), .val (s 73), .val (s 74), .val (s 75), .val (s 76), .val (s 77), .val (s 78), .val (s 79), .val (s 80), .val (s 81), .val (s 82), .val (s 83), .val (s 84), .val (s 85), .val (s 86), .val (s 87), .val (s 88), .val (s 89), .val (s 90)] w
theorem read_p0_eq (C : Comb) (s : Nat → Value) (w : World) (N : List Sl → World → Prop) : read_p0_x C s w N = Y Try.prog C 2 [] (sel [0] (Try.f92.body.getD .skip)) (onN N) ((List.range 91).map fun i => .val (s i)) w := by kernel_rfl
def read_p1_x (C : Comb) (s : Nat → Value) (w : World) (N : List Sl → World → Prop) : Prop :=
  C.calls 102 #[(s 0)] w fun v5_1 w =>
  C.step (sConv 5 33 v5_1) w fun v6_1 w =>
  C.calls 103 #[(s 0)] w fun v8_1 w =>
  C.calls 78 #[(s 0)] w fun v10_1 w =>
  C.step (sConv 104 3 v10_1) w fun v11_1 w =>
  C.calls 103 #[(s 0)] w fun v13_1 w =>
  C.step (sBuild 41 [(0, v6_1), (1, v8_1), (2, v11_1), (3, v13_1)]) w fun v14_1 w =>
  C.step (sAlloc 41) w fun v3_1 w =>
  C.step (sStore 41 v3_1 v14_1) w fun vx_1 w =>
  N [.val (s 0), .val (s 1), .val (s 2), .val v3_1, .val (s 0), .val v5_1, .val v6_1, .val (s 0), .val v8_1, .val (s 0), .val v10_1, .val v11_1, .val (s 0), .val v13_1, .val v14_1, .val (s 15), .val (s 16), .val (s 17), .val (s 18), .val (s 19), .val (s 20), .val (s 21), .val (s 22), .val (s 23), .val (s 24), .val (s 25), .val (s 26), .val (s 27), .val (s 28), .val (s 29), .val (s 30), .val (s 31), .val (s 32), .val (s 33), .val (s 34), .val (s 35), .val (s 36), .val (s 37), .val (s 38), .val (s 39), .val (s 40), .val (s 41), .val (s 42), .val (s 43), .val (s 44), .val (s 45), .val (s 46), .val (s 47), .val (s 48), .val (s 49), .val (s 50), .val (s 51), .val (s 52), .val (s 53), .val (s 54), .val (s 55), .val (s 56), .val (s 57), .val (s 58), .val (s 59), .val (s 60), .val (s 61), .val (s 62), .val (s 63), .val (s 64), .val (s 65), .val (s 66), .val (s 67), .val (s 68), .val (s 69), .val (s 70), .val (s 71), .val (s 72), .val (s 73), .val (s 74), .val (s 75), .val (s 76), .val (s 77), .val (s 78), .val (s 79), .val (s 80), .val (s 81), .val (s 82), .val (s 83), .val (s 84), .val (s 85), .val (s 86), .val (s 87), .val (s 88), .val (s 89), .val (s 90)] w
theorem read_p1_eq (C : Comb) (s : Nat → Value) (w : World) (N : List Sl → World → Prop) : read_p1_x C s w N = Y Try.prog C 2 [] (sel [1, 0] (Try.f92.body.getD .skip)) (onN N) ((List.range 91).map fun i => .val (s i)) w := by kernel_rfl
def read_m1_x (C : Comb) (s : Nat → Value) (w : World) (N : List Sl → World → Prop) : Prop :=
  C.step (sFieldAddr 41 (s 3) 0) w fun v19_1 w =>
  C.step (sLoad 33 v19_1) w fun v20_1 w =>
  C.calls 96 #[v20_1] w fun v21_1 w =>
  C.bool v21_1
  (C.calls 79 #[(s 0)] w fun v23_1 w =>
  C.step (sConv 149 3 v23_1) w fun v24_1 w =>
  C.step (sFieldAddr 41 (s 3) 5) w fun v25_1 w =>
  C.step (sStore 3 v25_1 v24_1) w fun vx_1 w =>
  C.calls 102 #[(s 0)] w fun v27_1 w =>
  C.step (sConv 5 35 v27_1) w fun v28_1 w =>
  C.calls 105 #[(s 0), (.int .i64 16)] w fun v30_1 w =>
  C.calls 105 #[(s 0), (.int .i64 32)] w fun v32_1 w =>
  C.calls 105 #[(s 0), (.int .i64 32)] w fun v34_1 w =>
  C.step (sBuild 37 [(0, v28_1), (1, v30_1), (2, v32_1), (3, v34_1)]) w fun v35_1 w =>
  C.step (sFieldAddr 41 (s 3) 6) w fun v36_1 w =>
  C.step (sStore 37 v36_1 v35_1) w fun vx_2 w =>
  N [.val (s 0), .val (s 1), .val (s 2), .val (s 3), .val (s 4), .val (s 5), .val (s 6), .val (s 7), .val (s 8), .val (s 9), .val (s 10), .val (s 11), .val (s 12), .val (s 13), .val (s 14), .val (s 15), .val (s 16), .val (s 17), .val (s 18), .val v19_1, .val v20_1, .val v21_1, .val (s 0), .val v23_1, .val v24_1, .val v25_1, .val (s 0), .val v27_1, .val v28_1, .val (s 0), .val v30_1, .val (s 0), .val v32_1, .val (s 0), .val v34_1, .val v35_1, .val v36_1, .val (s 37), .val (s 38), .val (s 39), .val (s 40), .val (s 41), .val (s 42), .val (s 43), .val (s 44), .val (s 45), .val (s 46), .val (s 47), .val (s 48), .val (s 49), .val (s 50), .val (s 51), .val (s 52), .val (s 53), .val (s 54), .val (s 55), .val (s 56), .val (s 57), .val (s 58), .val (s 59), .val (s 60), .val (s 61), .val (s 62), .val (s 63), .val (s 64), .val (s 65), .val (s 66), .val (s 67), .val (s 68), .val (s 69), .val (s 70), .val (s 71), .val (s 72), .val (s 73), .val (s 74), .val (s 75), .val (s 76), .val (s 77), .val (s 78), .val (s 79), .val (s 80), .val (s 81), .val (s 82), .val (s 83), .val (s 84), .val (s 85), .val (s 86), .val (s 87), .val (s 88), .val (s 89), .val (s 90)] w)
  (N [.val (s 0), .val (s 1), .val (s 2), .val (s 3), .val (s 4), .val (s 5), .val (s 6), .val (s 7), .val (s 8), .val (s 9), .val (s 10), .val (s 11), .val (s 12), .val (s 13), .val (s 14), .val (s 15), .val (s 16), .val (s 17), .val (s 18), .val v19_1, .val v20_1, .val v21_1, .val (s 22), .val (s 23), .val (s 24), .val (s 25), .val (s 26), .val (s 27), .val (s 28), .val (s 29), .val (s 30), .val (s 31), .val (s 32), .val (s 33), .val (s 34), .val (s 35), .val (s 36), .val (s 37), .val (s 38), .val (s 39), .val (s 40), .val (s 41), .val (s 42), .val (s 43), .val (s 44), .val (s 45), .val (s 46), .val (s 47), .val (s 48), .val (s 49), .val (s 50), .val (s 51), .val (s 52), .val (s 53), .val (s 54), .val (s 55), .val (s 56), .val (s 57), .val (s 58), .val (s 59), .val (s 60), .val (s 61), .val (s 62), .val (s 63), .val (s 64), .val (s 65), .val (s 66), .val (s 67), .val (s 68), .val (s 69), .val (s 70), .val (s 71), .val (s 72), .val (s 73), .val (s 74), .val (s 75), .val (s 76), .val (s 77), .val (s 78), .val (s 79), .val (s 80), .val (s 81), .val (s 82), .val (s 83), .val (s 84), .val (s 85), .val (s 86), .val (s 87), .val (s 88), .val (s 89), .val (s 90)] w)
theorem read_m1_eq (C : Comb) (s : Nat → Value) (w : World) (N : List Sl → World → Prop) : read_m1_x C s w N = Y Try.prog C 2 [] (sel [1, 1, 1, 0] (Try.f92.body.getD .skip)) (onN N) ((List.range 91).map fun i => .val (s i)) w := by kernel_rfl
def read_m2_x (C : Comb) (s : Nat → Value) (w : World) (N : List Sl → World → Prop) : Prop :=
  C.step (sFieldAddr 41 (s 3) 0) w fun v37_1 w =>
  C.step (sLoad 33 v37_1) w fun v38_1 w =>
  C.step (sBin .eql 33 (.tmp 38) (.const (.int .i64 2)) v38_1 (.int .i64 2)) w fun v39_1 w =>
  C.bool v39_1
  (C.calls 103 #[(s 0)] w fun v41_1 w =>
  C.step (sFieldAddr 41 (s 3) 4) w fun v42_1 w =>
  C.step (sStore 34 v42_1 v41_1) w fun vx_1 w =>
  N [.val (s 0), .val (s 1), .val (s 2), .val (s 3), .val (s 4), .val (s 5), .val (s 6), .val (s 7), .val (s 8), .val (s 9), .val (s 10), .val (s 11), .val (s 12), .val (s 13), .val (s 14), .val (s 15), .val (s 16), .val (s 17), .val (s 18), .val (s 19), .val (s 20), .val (s 21), .val (s 22), .val (s 23), .val (s 24), .val (s 25), .val (s 26), .val (s 27), .val (s 28), .val (s 29), .val (s 30), .val (s 31), .val (s 32), .val (s 33), .val (s 34), .val (s 35), .val (s 36), .val v37_1, .val v38_1, .val v39_1, .val (s 0), .val v41_1, .val v42_1, .val (s 43), .val (s 44), .val (s 45), .val (s 46), .val (s 47), .val (s 48), .val (s 49), .val (s 50), .val (s 51), .val (s 52), .val (s 53), .val (s 54), .val (s 55), .val (s 56), .val (s 57), .val (s 58), .val (s 59), .val (s 60), .val (s 61), .val (s 62), .val (s 63), .val (s 64), .val (s 65), .val (s 66), .val (s 67), .val (s 68), .val (s 69), .val (s 70), .val (s 71), .val (s 72), .val (s 73), .val (s 74), .val (s 75), .val (s 76), .val (s 77), .val (s 78), .val (s 79), .val (s 80), .val (s 81), .val (s 82), .val (s 83), .val (s 84), .val (s 85), .val (s 86), .val (s 87), .val (s 88), .val (s 89), .val (s 90)] w)
  (N [.val (s 0), .val (s 1), .val (s 2), .val (s 3), .val (s 4), .val (s 5), .val (s 6), .val (s 7), .val (s 8), .val (s 9), .val (s 10), .val (s 11), .val (s 12), .val (s 13), .val (s 14), .val (s 15), .val (s 16), .val (s 17), .val (s 18), .val (s 19), .val (s 20), .val (s 21), .val (s 22), .val (s 23), .val (s 24), .val (s 25), .val (s 26), .val (s 27), .val (s 28), .val (s 29), .val (s 30), .val (s 31), .val (s 32), .val (s 33), .val (s 34), .val (s 35), .val (s 36), .val v37_1, .val v38_1, .val v39_1, .val (s 40), .val (s 41), .val (s 42), .val (s 43), .val (s 44), .val (s 45), .val (s 46), .val (s 47), .val (s 48), .val (s 49), .val (s 50), .val (s 51), .val (s 52), .val (s 53), .val (s 54), .val (s 55), .val (s 56), .val (s 57), .val (s 58), .val (s 59), .val (s 60), .val (s 61), .val (s 62), .val (s 63), .val (s 64), .val (s 65), .val (s 66), .val (s 67), .val (s 68), .val (s 69), .val (s 70), .val (s 71), .val (s 72), .val (s 73), .val (s 74), .val (s 75), .val (s 76), .val (s 77), .val (s 78), .val (s 79), .val (s 80), .val (s 81), .val (s 82), .val (s 83), .val (s 84), .val (s 85), .val (s 86), .val (s 87), .val (s 88), .val (s 89), .val (s 90)] w)
theorem read_m2_eq (C : Comb) (s : Nat → Value) (w : World) (N : List Sl → World → Prop) : read_m2_x C s w N = Y Try.prog C 2 [] (sel [1, 1, 1, 1, 0] (Try.f92.body.getD .skip)) (onN N) ((List.range 91).map fun i => .val (s i)) w := by kernel_rfl
def read_m3_k1 (C : Comb) (s : Nat → Value) (v43_1 : Value) (v44_1 : Value) (v45_1 : Value) (u46_1 : Value) (u47_1 : Value) (u49_1 : Value) (u50_1 : Value) (u51_1 : Value) (u52_1 : Value) (u53_1 : Value) (u54_1 : Value) (u55_1 : Value) (u56_1 : Value) (u57_1 : Value) (u58_1 : Value) (u59_1 : Value) (u60_1 : Value) (u61_1 : Value) (u62_1 : Value) (u63_1 : Value) (u64_1 : Value) (u48_1 : Value) (w : World) (N : List Sl → World → Prop) : Prop :=
  C.calls 102 #[(s 0)] w fun v66_1 w =>
  C.loop [(.int .u8 0)] w fun dv_1 vs_1 w again_1 =>
  C.step (sBin .lss 5 (.tmp 67) (.tmp 66) (vs_1.getD 0 undef) v66_1) w fun v68_1 w =>
  C.bool v68_1
  (C.draw w fun S_1 w =>
  C.stepS S_1 (sFieldAddr 41 (s 3) 8) fun v69_1 =>
  C.stepS S_1 (sLoad 39 v69_1) fun v70_1 =>
  C.calls 79 #[(s 0)] w fun v72_1 w =>
  C.keepS S_1 w fun S_2 =>
  C.stepS S_2 (sConv 149 3 v72_1) fun v73_1 =>
  C.calls 103 #[(s 0)] w fun v75_1 w =>
  C.keepS S_2 w fun S_3 =>
  C.step (sBuild 138 [(0, v73_1), (1, v75_1)]) w fun v76_1 w =>
  C.keepS S_3 w fun S_4 =>
  C.step (sBuildSlice 39 1 [(0, v76_1)]) w fun v77_1 w =>
  C.keepS S_4 w fun S_5 =>
  C.step (sBuiltin .append #[39, 39] 39 [false, false] [v70_1, v77_1]) w fun v78_1 w =>
  C.keepT w fun S_6 =>
  C.stepS S_6 (sFieldAddr 41 (s 3) 8) fun v79_1 =>
  C.step (sStore 39 v79_1 v78_1) w fun vx_1 w =>
  C.keepT w fun S_7 =>
  C.step (sBin .add 5 (.tmp 67) (.const (.int .u8 1)) (vs_1.getD 0 undef) (.int .u8 1)) w fun v80_1 w =>
  again_1 [v80_1] w)
  (N [.val (s 0), .val (s 1), .val (s 2), .val (s 3), .val (s 4), .val (s 5), .val (s 6), .val (s 7), .val (s 8), .val (s 9), .val (s 10), .val (s 11), .val (s 12), .val (s 13), .val (s 14), .val (s 15), .val (s 16), .val (s 17), .val (s 18), .val (s 19), .val (s 20), .val (s 21), .val (s 22), .val (s 23), .val (s 24), .val (s 25), .val (s 26), .val (s 27), .val (s 28), .val (s 29), .val (s 30), .val (s 31), .val (s 32), .val (s 33), .val (s 34), .val (s 35), .val (s 36), .val (s 37), .val (s 38), .val (s 39), .val (s 40), .val (s 41), .val (s 42), .val v43_1, .val v44_1, .val v45_1, .val u46_1, .val u47_1, .val u48_1, .val u49_1, .val u50_1, .val u51_1, .val u52_1, .val u53_1, .val u54_1, .val u55_1, .val u56_1, .val u57_1, .val u58_1, .val u59_1, .val u60_1, .val u61_1, .val u62_1, .val u63_1, .val u64_1, .val (s 0), .val v66_1, .val (vs_1.getD 0 undef), .val v68_1, .val (dv_1 69), .val (dv_1 70), .val (dv_1 71), .val (dv_1 72), .val (dv_1 73), .val (dv_1 74), .val (dv_1 75), .val (dv_1 76), .val (dv_1 77), .val (dv_1 78), .val (dv_1 79), .val (dv_1 80), .val (s 81), .val (s 82), .val (s 83), .val (s 84), .val (s 85), .val (s 86), .val (s 87), .val (s 88), .val (s 89), .val (s 90)] w)
def read_m3_x (C : Comb) (s : Nat → Value) (w : World) (N : List Sl → World → Prop) : Prop :=
  C.step (sFieldAddr 41 (s 3) 0) w fun v43_1 w =>
  C.step (sLoad 33 v43_1) w fun v44_1 w =>
  C.step (sBin .eql 33 (.tmp 44) (.const (.int .i64 8)) v44_1 (.int .i64 8)) w fun v45_1 w =>
  C.bool v45_1
  (C.calls 102 #[(s 0)] w fun v47_1 w =>
  C.loop [(.int .u8 0)] w fun dv_2 vs_2 w again_2 =>
  C.step (sBin .lss 5 (.tmp 48) (.tmp 47) (vs_2.getD 0 undef) v47_1) w fun v49_1 w =>
  C.bool v49_1
  (C.draw w fun S_8 w =>
  C.stepS S_8 (sFieldAddr 41 (s 3) 7) fun v50_1 =>
  C.stepS S_8 (sLoad 38 v50_1) fun v51_1 =>
  C.calls 78 #[(s 0)] w fun v53_1 w =>
  C.keepS S_8 w fun S_9 =>
  C.stepS S_9 (sConv 104 3 v53_1) fun v54_1 =>
  C.calls 102 #[(s 0)] w fun v56_1 w =>
  C.keepS S_9 w fun S_10 =>
  C.stepS S_10 (sConv 5 134 v56_1) fun v57_1 =>
  C.calls 103 #[(s 0)] w fun v59_1 w =>
  C.keepS S_10 w fun S_11 =>
  C.step (sBuild 136 [(0, v54_1), (1, v57_1), (2, v59_1)]) w fun v60_1 w =>
  C.keepS S_11 w fun S_12 =>
  C.step (sBuildSlice 38 1 [(0, v60_1)]) w fun v61_1 w =>
  C.keepS S_12 w fun S_13 =>
  C.step (sBuiltin .append #[38, 38] 38 [false, false] [v51_1, v61_1]) w fun v62_1 w =>
  C.keepT w fun S_14 =>
  C.stepS S_14 (sFieldAddr 41 (s 3) 7) fun v63_1 =>
  C.step (sStore 38 v63_1 v62_1) w fun vx_2 w =>
  C.keepT w fun S_15 =>
  C.step (sBin .add 5 (.tmp 48) (.const (.int .u8 1)) (vs_2.getD 0 undef) (.int .u8 1)) w fun v64_1 w =>
  again_2 [v64_1] w)
  (read_m3_k1 C s v43_1 v44_1 v45_1 (s 0) v47_1 v49_1 (dv_2 50) (dv_2 51) (dv_2 52) (dv_2 53) (dv_2 54) (dv_2 55) (dv_2 56) (dv_2 57) (dv_2 58) (dv_2 59) (dv_2 60) (dv_2 61) (dv_2 62) (dv_2 63) (dv_2 64) (vs_2.getD 0 undef) w N))
  (N [.val (s 0), .val (s 1), .val (s 2), .val (s 3), .val (s 4), .val (s 5), .val (s 6), .val (s 7), .val (s 8), .val (s 9), .val (s 10), .val (s 11), .val (s 12), .val (s 13), .val (s 14), .val (s 15), .val (s 16), .val (s 17), .val (s 18), .val (s 19), .val (s 20), .val (s 21), .val (s 22), .val (s 23), .val (s 24), .val (s 25), .val (s 26), .val (s 27), .val (s 28), .val (s 29), .val (s 30), .val (s 31), .val (s 32), .val (s 33), .val (s 34), .val (s 35), .val (s 36), .val (s 37), .val (s 38), .val (s 39), .val (s 40), .val (s 41), .val (s 42), .val v43_1, .val v44_1, .val v45_1, .val (s 46), .val (s 47), .val (s 48), .val (s 49), .val (s 50), .val (s 51), .val (s 52), .val (s 53), .val (s 54), .val (s 55), .val (s 56), .val (s 57), .val (s 58), .val (s 59), .val (s 60), .val (s 61), .val (s 62), .val (s 63), .val (s 64), .val (s 65), .val (s 66), .val (s 67), .val (s 68), .val (s 69), .val (s 70), .val (s 71), .val (s 72), .val (s 73), .val (s 74), .val (s 75), .val (s 76), .val (s 77), .val (s 78), .val (s 79), .val (s 80), .val (s 81), .val (s 82), .val (s 83), .val (s 84), .val (s 85), .val (s 86), .val (s 87), .val (s 88), .val (s 89), .val (s 90)] w)
theorem read_m3_eq (C : Comb) (s : Nat → Value) (w : World) (N : List Sl → World → Prop) : read_m3_x C s w N = Y Try.prog C 2 [] (sel [1, 1, 1, 1, 1, 0] (Try.f92.body.getD .skip)) (onN N) ((List.range 91).map fun i => .val (s i)) w := by kernel_rfl
def catch_b_x (C : Comb) (s : Nat → Value) (w : World) (N : List Sl → World → Prop) : Prop :=
  C.draw w fun S_1 w =>
  C.stepS S_1 (sFieldAddr 166 (s 2) 0) fun v11_1 =>
  C.stepS S_1 (sLoad 24 v11_1) fun v12_1 =>
  C.step (sBuild 41 []) w fun v10_1 w =>
  C.keepS S_1 w fun S_2 =>
  C.step (sStore 41 (s 0) v10_1) w fun vx_1 w =>
  C.keepS S_2 w fun S_3 =>
  C.step (sStore 24 (s 1) v12_1) w fun vx_2 w =>
  C.keepT w fun S_4 =>
  N [.val (s 0), .val (s 1), .val (s 2), .val (s 3), .val (s 4), .val (s 5), .val (s 6), .val (s 7), .val (s 8), .val (s 9), .val v10_1, .val v11_1, .val v12_1] w
theorem catch_b_eq (C : Comb) (s : Nat → Value) (w : World) (N : List Sl → World → Prop) : catch_b_x C s w N = Y Try.prog C 4 [] (sel [1, 1, 2] (Try.f91.body.getD .skip)) (onN N) ((List.range 13).map fun i => .val (s i)) w := by kernel_rfl
end Go.Proofs.Ytplpjikcgheiiaa.Rec

/- A record is read off: the pieces of the walk. -/
namespace Go.Proofs.Ytplpjikcgheiiaa.Rec
open Go Go.Proofs.Ytplpjikcgheiiaa Go.Proofs.Ytplpjikcgheiiaa.Enc Xf Go.RowKit
set_option linter.unusedVariables false
set_option linter.unusedSimpArgs false
set_option maxRecDepth 100000

def isValB : Sl → Bool | .val _ => true | _ => false
theorem toS {l : List Sl} {n : Nat} (hl : l.length = n) (h : l.all isValB = true) : l = (List.range n).map fun i => .val ((l.getD i (.val undef)).v) := by
  apply List.ext_getElem?
  intro i
  by_cases hi : i < n
  · rw [List.getElem?_map, List.getElem?_range hi, List.getElem?_eq_getElem (by omega)]
    simp only [Option.map_some, Option.some.injEq]
    rw [List.getD_eq_getElem?_getD, List.getElem?_eq_getElem (by omega)]
    have := List.all_eq_true.1 h _ (List.getElem_mem (by omega : i < l.length))
    simp only [Option.getD_some]
    cases hx : l[i] with
    | val v => rfl
    | _ => rw [hx] at this; cases this
  · rw [List.getElem?_eq_none (by omega), List.getElem?_eq_none (by simp; omega)]
/-- the slots of a reading's frame -/
def Fr3 (g gA gB : Nat) (s : Nat → Value) : Prop := s 0 = .pointer (some ⟨g, 0, none⟩) ∧ s 2 = .pointer (some ⟨gA, 0, none⟩) ∧ s 3 = .pointer (some ⟨gB, 0, none⟩)
def onF (g gA gB : Nat) (R : World → Prop) (fr : List Sl) (w : World) : Prop := (∃ s, fr = ((List.range 91).map fun i => .val (s i)) ∧ Fr3 g gA gB s) ∧ R w
theorem onF_mk {g gA gB : Nat} {R : World → Prop} {fr : List Sl} {w : World} (hl : fr.length = 91) (h : fr.all isValB = true) (h0 : (fr.getD 0 (.val undef)).v = .pointer (some ⟨g, 0, none⟩)) (h2 : (fr.getD 2 (.val undef)).v = .pointer (some ⟨gA, 0, none⟩)) (h3 : (fr.getD 3 (.val undef)).v = .pointer (some ⟨gB, 0, none⟩)) (hR : R w) : onF g gA gB R fr w :=
  ⟨⟨_, toS hl h, h0, h2, h3⟩, hR⟩

theorem m1_walk {W w : World} {g gA gB : Nat} {hb : List (Nat × Obj)} {r : Re} {s : Rs} {sl : Nat → Value} (hf : Fr3 g gA gB sl) (hR : RS W g gA gB hb r s w) : read_m1_x (std Try.prog) sl w (onF g gA gB (RS W g gA gB hb (gChg r s).1 (gChg r s).2)) := by
  obtain ⟨f0, f2, f3⟩ := hf
  obtain ⟨vt, vd, ht, hd, h1, h2, h3, hA, hB, hI⟩ := hR
  unfold read_m1_x
  obtain ⟨c0, c1, c2, c3, c4, c5, c6, c7, c8, c9, c10, c11⟩ := At.of (RI.blk hI (p := (gB, reO r vt vd)) (by simp))
  simp (disch := first | assumption | omega) only [f0, f2, f3, PX, BX, LX, add_mk, Nat.reduceAdd]
  refine st_call (changes_spec _ _) ?_
  rintro _ w1 ⟨rfl, rfl⟩
  simp only [BX]
  refine ⟨fun hc => ?_, fun hc => onF_mk rfl rfl rfl rfl rfl (by unfold gChg; rw [if_neg hc]; exact ⟨vt, vd, ht, hd, h1, h2, h3, hA, hB, hI⟩)⟩
  refine st_call (gTwo hI) ?_
  rintro _ w2 ⟨rfl, hk, hI⟩
  simp (disch := first | assumption | omega) only [f0, f2, f3, PX, BX, add_mk, Nat.reduceAdd, w64]
  refine st_fld (r' := { r with page := ((tk s 2).1 : Nat) }) hI hB sz3 rfl (by omega) rfl ?_
  intro w3 hI
  refine st_call (gByte hI) ?_
  rintro _ w4 ⟨rfl, hk2, hI⟩
  simp (disch := first | assumption | omega) only [f0, f2, f3, PX, BX, add_mk, Nat.reduceAdd, w64]
  refine st_call (gText 16 hI) ?_
  rintro _ w5 ⟨rfl, hI⟩
  refine st_call (gText 32 hI) ?_
  rintro _ w6 ⟨rfl, hI⟩
  refine st_call (gText 32 hI) ?_
  rintro _ w7 ⟨rfl, hI⟩
  rw [step_run (build_ac4 _ _ _ _ _)]
  obtain ⟨T, hO, hU, hcl⟩ := RI.open_ hI
  refine st_storeN (vs := acV _ _ _ _) (by rw [sz37]; rfl) hU hO 0 rfl (by simp [reV, acV]) (by intro u hu; simp [acV] at hu; rcases hu with rfl | rfl | rfl | rfl <;> rfl) (.inr hB) ?_
  intro w8 hU8 hO8
  have e : (gChg r s) = ({ r with page := ((tk s 2).1 : Nat), ak := ((tk (tk s 2).2 1).1 : Nat), key := (tt (tk (tk s 2).2 1).2 16).1, old := (tt (tt (tk (tk s 2).2 1).2 16).2 32).1, new := (tt (tt (tt (tk (tk s 2).2 1).2 16).2 32).2 32).1 }, (tt (tt (tt (tk (tk s 2).2 1).2 16).2 32).2 32).2) := by
    unfold gChg; rw [if_pos hc]
  rw [e]
  have hI := hcl w8 ((gB, reO { r with page := ((tk s 2).1 : Nat), ak := ((tk (tk s 2).2 1).1 : Nat), key := (tt (tk (tk s 2).2 1).2 16).1, old := (tt (tt (tk (tk s 2).2 1).2 16).2 32).1, new := (tt (tt (tt (tk (tk s 2).2 1).2 16).2 32).2 32).1 } vt vd) :: (gA, reO re0 nilS nilS) :: (ht ++ hd)) hU8 hO8
  refine onF_mk rfl rfl rfl rfl rfl ?_
  exact ⟨vt, vd, ht, hd, h1, h2, h3, hA, hB, hI⟩
theorem m2_walk {W w : World} {g gA gB : Nat} {hb : List (Nat × Obj)} {r : Re} {s : Rs} {sl : Nat → Value} (hf : Fr3 g gA gB sl) (hR : RS W g gA gB hb r s w) : read_m2_x (std Try.prog) sl w (onF g gA gB (RS W g gA gB hb (gUndo r s).1 (gUndo r s).2)) := by
  obtain ⟨f0, f2, f3⟩ := hf
  obtain ⟨vt, vd, ht, hd, h1, h2, h3, hA, hB, hI⟩ := hR
  unfold read_m2_x
  obtain ⟨c0, c1, c2, c3, c4, c5, c6, c7, c8, c9, c10, c11⟩ := At.of (RI.blk hI (p := (gB, reO r vt vd)) (by simp))
  simp (disch := first | assumption | omega) only [f0, f2, f3, PX, BX, LX, add_mk, Nat.reduceAdd]
  refine ⟨fun hc => ?_, fun hc => onF_mk rfl rfl rfl rfl rfl (by unfold gUndo; rw [if_neg hc]; exact ⟨vt, vd, ht, hd, h1, h2, h3, hA, hB, hI⟩)⟩
  refine st_call (gEight hI) ?_
  rintro _ w2 ⟨rfl, hI⟩
  refine st_fld (r' := { r with undo := (tk s 8).1 }) hI hB sz34 rfl (by omega) rfl ?_
  intro w3 hI
  refine onF_mk rfl rfl rfl rfl rfl ?_
  unfold gUndo
  rw [if_pos hc]
  exact ⟨vt, vd, ht, hd, h1, h2, h3, hA, hB, hI⟩
end Go.Proofs.Ytplpjikcgheiiaa.Rec

/- A record is read off: the rows, the head. -/
namespace Go.Proofs.Ytplpjikcgheiiaa.Rec
open Go Go.Proofs.Ytplpjikcgheiiaa Go.Proofs.Ytplpjikcgheiiaa.Enc Xf Go.RowKit
set_option linter.unusedVariables false
set_option linter.unusedSimpArgs false
set_option maxRecDepth 100000

theorem many_succ {α : Type} (f : Rs → α × Rs) (n : Nat) (s : Rs) : many f (n + 1) s = ((many f n s).1 ++ [(f (many f n s).2).1], (f (many f n s).2).2) := rfl
theorem txV_one (t : Tx) : ∀ y ∈ txV t, y.oneCell' = true := by intro y hy; simp [txV] at hy; rcases hy with rfl | rfl | rfl <;> rfl
theorem diV_one (t : Di) : ∀ y ∈ diV t, y.oneCell' = true := by intro y hy; simp [diV] at hy; rcases hy with rfl | rfl <;> rfl
theorem flat_snoc {α : Type} (f : α → List Value) (l : List α) (x : α) : (l ++ [x]).flatMap f = l.flatMap f ++ f x := by simp

theorem rd_rowN {w : World} {g n c sz : Nat} {cs : Array Value} {e : TypeId} {fr : Nat × Nat} {xs : List Value} (h : w.heap[g]? = some (.cells cs e fr)) (hn : xs.length = n * sz) (hc : n ≤ c) (hx : cs.toList.take (n * sz) = xs) : Rd w sz (.slice (some ⟨g, 0, none⟩) n c) n xs := by
  refine ⟨_, _, rfl, hc, by omega, fun j u hu => ⟨_, rfl, ?_⟩⟩
  rw [add_mk, Nat.zero_add, cell_at h]
  rw [← hx, List.getElem?_take] at hu
  split at hu
  · simpa using hu
  · cases hu
theorem m3_walk {W w : World} {g gA gB : Nat} {hb : List (Nat × Obj)} {r : Re} {s : Rs} {sl : Nat → Value} (h0 : r.ts = [] ∧ r.ds = []) (hf : Fr3 g gA gB sl) (hR : RS W g gA gB hb r s w) : read_m3_x (std Try.prog) sl w (onF g gA gB (RS W g gA gB hb (gTab r s).1 (gTab r s).2)) := by
  obtain ⟨f0, f2, f3⟩ := hf
  have hR0 := hR
  obtain ⟨vt, vd, ht, hd, h1, h2, h3, hA, hB, hI⟩ := hR
  unfold read_m3_x
  obtain ⟨c0, c1, c2, c3, c4, c5, c6, c7, c8, c9, c10, c11⟩ := At.of (RI.blk hI (p := (gB, reO r vt vd)) (by simp))
  simp (disch := first | assumption | omega) only [f0, f2, f3, PX, BX, LX, add_mk, Nat.reduceAdd]
  refine ⟨fun hc => ?_, fun hc => onF_mk rfl rfl rfl rfl rfl (by unfold gTab; rw [if_neg hc]; exact hR0)⟩
  refine st_call (gByte hI) ?_
  rintro _ w2 ⟨rfl, hn, hI⟩
  have e : (gTab r s) = ({ r with ts := (many gTx (tk s 1).1 (tk s 1).2).1, ds := (many gDi (tk (many gTx (tk s 1).1 (tk s 1).2).2 1).1 (tk (many gTx (tk s 1).1 (tk s 1).2).2 1).2).1 }, (many gDi (tk (many gTx (tk s 1).1 (tk s 1).2).2 1).1 (tk (many gTx (tk s 1).1 (tk s 1).2).2 1).2).2) := by
    unfold gTab; rw [if_pos hc]
  rw [e]
  clear e c0 c1 c2 c3 c4 c5 c6 c7 c8 c9 c10 c11 hR0
  generalize hN : (tk s 1).1 = n at hn ⊢
  generalize hS1 : (tk s 1).2 = s1 at hI ⊢
  have hts : { r with ts := (many gTx 0 s1).1 } = r := by cases r; simp only at h0; simp [many, h0.1]
  refine st_loop (fun vs w' => ∃ i : Nat, i ≤ n ∧ vs.getD 0 undef = .int .u8 (i : Nat) ∧ RS W g gA gB hb { r with ts := (many gTx i s1).1 } (many gTx i s1).2 w') (fun vs _ => n - (intOf (vs.getD 0 undef)).toNat) ⟨0, by omega, rfl, by rw [hts]; exact ⟨vt, vd, ht, hd, h1, h2, h3, hA, hB, hI⟩⟩ ?_
  clear h1 h2 h3 hI hts
  rintro dv vs w3 - ⟨i, hi, e0, vt, vd, ht, hd, h1, h2, h3, -, -, hI⟩
  simp (disch := omega) only [e0, PX, BX]
  have hml := many_len gTx i s1
  refine ⟨fun hlt => ?_, fun hge => ?_⟩
  · generalize hrc : ({ r with ts := (many gTx i s1).1 } : Re) = rc at hI h1 h2
    generalize hsc : (many gTx i s1).2 = sc at hI
    have hrcl : rc.ts.length = i := by rw [← hrc]; exact hml
    have hIa := RI.ext hI (Upd.drew w3 [])
    have cell : ∀ {w' : World} {F : List (Nat × Obj)} {q : Rs}, RI W ((gB, reO rc vt vd) :: F) g hb q.1 q.2 w' → w'.cell? ⟨gB, 10, none⟩ = some vt := fun h => (At.of (RI.blk h (p := (gB, reO rc vt vd)) (by simp))).c10
    have hne : ∃ w', (fun w' : World => w'.cell? ⟨gB, 10, none⟩ = some vt) w' := ⟨_, cell hIa⟩
    have hS : ∀ w', (fun w' : World => w'.cell? ⟨gB, 10, none⟩ = some vt) w' → w'.cell? ⟨gB, 10, none⟩ = some vt := fun w' h => h
    refine st_draw (fun w' => w'.cell? ⟨gB, 10, none⟩ = some vt) (cell hIa) ?_
    simp (disch := first | assumption | omega) only [SX, SLX, add_mk, Nat.reduceAdd]
    refine st_call (gFour hIa) ?_
    rintro _ w4 ⟨rfl, hk1, hI4⟩
    refine st_same (cell hI4) ?_
    simp (disch := first | assumption | omega) only [SX, SLX, add_mk, Nat.reduceAdd, w64]
    refine st_call (gByte hI4) ?_
    rintro _ w5 ⟨rfl, hk2, hI5⟩
    refine st_same (cell hI5) ?_
    simp (disch := first | assumption | omega) only [SX, SLX, add_mk, Nat.reduceAdd, w64]
    refine st_call (gEight hI5) ?_
    rintro _ w6 ⟨rfl, hI6⟩
    refine st_same (cell hI6) ?_
    rw [step_run (build_tx _ _ _ _)]
    refine st_same (cell hI6) ?_
    generalize htx : (⟨((tk sc 4).1 : Nat), ((tk (tk sc 4).2 1).1 : Nat), (tk (tk (tk sc 4).2 1).2 8).1⟩ : Tx) = tx
    obtain ⟨T, hO, hU, hcl⟩ := RI.open_ hI6
    refine st_newRow (row_tx tx) hU hO ?_
    intro g7 w7 hU7 hO7 hg7
    refine st_same (cell_at (hO7.at_ 1 rfl)) ?_
    obtain ⟨inf, hi1, hz1, hsz, hby⟩ := inf136
    refine st_append (h := ht) (F := (gB, reO rc vt vd) :: (gA, reO re0 nilS nilS) :: (hd ++ ((g7, .cells (txV tx).toArray 136 (0, 0)) :: T))) (ys := txV tx) (m := 1) u38 hi1 hz1 hsz hby rfl (by omega) h1 ?_ hU7 (fun p hp => .inr (h3 p (List.mem_append_left _ hp))) (rd_rowN (n := 1) (c := 1) (xs := txV tx) (hO7.at_ 0 rfl) rfl (by omega) rfl) (txV_one tx) (by rw [hrcl]; unfold maxLen; omega) (by rw [hrcl]; omega) ?_
    · refine hO7.perm ?_
      refine List.Perm.trans ?_ (perm1 (gB, reO rc vt vd) (gA, reO re0 nilS nilS) ht hd _)
      exact (List.perm_middle (l₁ := (gB, reO rc vt vd) :: (gA, reO re0 nilS nilS) :: (ht ++ hd)) (l₂ := T)).symm
    intro v8 w8 h8 hr8 hO8 hU8 hh8
    have hO8 : Owns w8 ((gB, reO rc vt vd) :: (gA, reO re0 nilS nilS) :: (h8 ++ hd) ++ T) := by
      have hO8' : Owns w8 (h8 ++ ((gB, reO rc vt vd) :: (gA, reO re0 nilS nilS) :: (hd ++ T))) := hO8.sub (List.Sublist.append (List.Sublist.refl _) (.cons_cons _ (.cons_cons _ (List.Sublist.append (List.Sublist.refl _) (.cons _ (List.Sublist.refl _))))))
      exact hO8'.perm (perm1 (gB, reO rc vt vd) (gA, reO re0 nilS nilS) h8 hd T).symm
    refine st_keepT (fun _ => True) trivial ?_
    have hne' : ∃ w' : World, (fun _ => True) w' := ⟨w8, trivial⟩
    simp (disch := first | assumption | omega) only [SX, SLX, add_mk, Nat.reduceAdd]
    have hI8 := hcl w8 _ hU8 hO8
    refine st_fld (r := rc) (r' := { rc with ts := rc.ts ++ [tx] }) (vt' := v8) (vd' := vd) hI8 hB sz38 (RowH.one hr8).2 (by omega) rfl ?_
    intro w9 hI9
    refine st_keepT (fun _ => True) trivial ?_
    have hrow8 : RowH 136 3 v8 (rc.ts ++ [tx]).length ((rc.ts ++ [tx]).flatMap txV) h8 := by
      rw [flat_snoc, List.length_append]; exact hr8
    refine ⟨⟨i + 1, by omega, ?_, ?_⟩, ?_⟩
    · rw [show ((i : Nat) : Int) + 1 = ((i + 1 : Nat) : Int) by omega, wrapU8, Nat.mod_eq_of_lt (by omega)]; rfl
    · have e1 : ({ r with ts := (many gTx (i + 1) s1).1 } : Re) = { rc with ts := rc.ts ++ [tx] } := by
        rw [many_succ, ← hrc, hsc, ← htx]; rfl
      have e2 : (many gTx (i + 1) s1).2 = (tk (tk (tk sc 4).2 1).2 8).2 := by rw [many_succ, hsc]; rfl
      rw [e1, e2]
      refine ⟨v8, vd, h8, hd, hrow8, h2, fun p hp => ?_, hA, hB, hI9⟩
      rcases List.mem_append.1 hp with hp | hp
      · exact (hh8 p hp).resolve_left (by simp)
      · exact h3 p (List.mem_append_right _ hp)
    · rw [show ((i : Nat) : Int) + 1 = ((i + 1 : Nat) : Int) by omega, wrapU8, Nat.mod_eq_of_lt (by omega)]
      simp only [List.getD_cons_zero, intOf]; omega
  · obtain rfl : i = n := by omega
    unfold read_m3_k1
    simp only [f0, f2, f3]
    refine st_call (gByte hI) ?_
    rintro _ w4 ⟨rfl, hn2, hI⟩
    generalize hS2 : (many gTx i s1).2 = s2 at hI ⊢
    have hd0 : { r with ts := (many gTx i s1).1, ds := (many gDi 0 (tk s2 1).2).1 } = ({ r with ts := (many gTx i s1).1 } : Re) := by cases r; simp only at h0; simp [many, h0.2]
    rw [hS2] at hn2
    generalize hN2 : (tk s2 1).1 = n2 at hn2 ⊢
    generalize hS3 : (tk s2 1).2 = s3 at hI hd0 ⊢
    clear e0
    refine st_loop (fun vs w' => ∃ j : Nat, j ≤ n2 ∧ vs.getD 0 undef = .int .u8 (j : Nat) ∧ RS W g gA gB hb { r with ts := (many gTx i s1).1, ds := (many gDi j s3).1 } (many gDi j s3).2 w') (fun vs _ => n2 - (intOf (vs.getD 0 undef)).toNat) ⟨0, by omega, rfl, by rw [hd0]; exact ⟨vt, vd, ht, hd, h1, h2, h3, hA, hB, hI⟩⟩ ?_
    clear h1 h2 h3 hI hd0
    rintro dv vs w3 - ⟨j, hj, e0, vt, vd, ht, hd, h1, h2, h3, -, -, hI⟩
    simp (disch := omega) only [e0, PX, BX]
    have hml2 := many_len gDi j s3
    refine ⟨fun hlt => ?_, fun hge => ?_⟩
    · generalize hrc : ({ r with ts := (many gTx i s1).1, ds := (many gDi j s3).1 } : Re) = rc at hI h1 h2
      generalize hsc : (many gDi j s3).2 = sc at hI
      have hrcl : rc.ds.length = j := by rw [← hrc]; exact hml2
      have hIa := RI.ext hI (Upd.drew w3 [])
      have cell : ∀ {w' : World} {F : List (Nat × Obj)} {q : Rs}, RI W ((gB, reO rc vt vd) :: F) g hb q.1 q.2 w' → w'.cell? ⟨gB, 11, none⟩ = some vd := fun h => (At.of (RI.blk h (p := (gB, reO rc vt vd)) (by simp))).c11
      have hne : ∃ w', (fun w' : World => w'.cell? ⟨gB, 11, none⟩ = some vd) w' := ⟨_, cell hIa⟩
      have hS : ∀ w', (fun w' : World => w'.cell? ⟨gB, 11, none⟩ = some vd) w' → w'.cell? ⟨gB, 11, none⟩ = some vd := fun w' h => h
      refine st_draw (fun w' => w'.cell? ⟨gB, 11, none⟩ = some vd) (cell hIa) ?_
      simp (disch := first | assumption | omega) only [SX, SLX, add_mk, Nat.reduceAdd]
      refine st_call (gTwo hIa) ?_
      rintro _ w4 ⟨rfl, hk1, hI4⟩
      refine st_same (cell hI4) ?_
      simp (disch := first | assumption | omega) only [SX, SLX, add_mk, Nat.reduceAdd, w64]
      refine st_call (gEight hI4) ?_
      rintro _ w6 ⟨rfl, hI6⟩
      refine st_same (cell hI6) ?_
      rw [step_run (build_di _ _ _)]
      refine st_same (cell hI6) ?_
      generalize htx : (⟨((tk sc 2).1 : Nat), (tk (tk sc 2).2 8).1⟩ : Di) = di
      obtain ⟨T, hO, hU, hcl⟩ := RI.open_ hI6
      refine st_newRow (row_di di) hU hO ?_
      intro g7 w7 hU7 hO7 hg7
      refine st_same (cell_at (hO7.at_ 1 rfl)) ?_
      obtain ⟨inf, hi1, hz1, hsz, hby⟩ := inf138
      refine st_append (h := hd) (F := (gB, reO rc vt vd) :: (gA, reO re0 nilS nilS) :: (ht ++ ((g7, .cells (diV di).toArray 138 (0, 0)) :: T))) (ys := diV di) (m := 1) u39 hi1 hz1 hsz hby rfl (by omega) h2 ?_ hU7 (fun p hp => .inr (h3 p (List.mem_append_right _ hp))) (rd_rowN (n := 1) (c := 1) (xs := diV di) (hO7.at_ 0 rfl) rfl (by omega) rfl) (diV_one di) (by rw [hrcl]; unfold maxLen; omega) (by rw [hrcl]; omega) ?_
      · refine hO7.perm ?_
        refine List.Perm.trans ?_ (perm2 (gB, reO rc vt vd) (gA, reO re0 nilS nilS) ht hd _)
        exact (List.perm_middle (l₁ := (gB, reO rc vt vd) :: (gA, reO re0 nilS nilS) :: (ht ++ hd)) (l₂ := T)).symm
      intro v8 w8 h8 hr8 hO8 hU8 hh8
      have hO8 : Owns w8 ((gB, reO rc vt vd) :: (gA, reO re0 nilS nilS) :: (ht ++ h8) ++ T) := by
        have hO8' : Owns w8 (h8 ++ ((gB, reO rc vt vd) :: (gA, reO re0 nilS nilS) :: (ht ++ T))) := hO8.sub (List.Sublist.append (List.Sublist.refl _) (.cons_cons _ (.cons_cons _ (List.Sublist.append (List.Sublist.refl _) (.cons _ (List.Sublist.refl _))))))
        exact hO8'.perm (perm2 (gB, reO rc vt vd) (gA, reO re0 nilS nilS) ht h8 T).symm
      refine st_keepT (fun _ => True) trivial ?_
      have hne' : ∃ w' : World, (fun _ => True) w' := ⟨w8, trivial⟩
      simp (disch := first | assumption | omega) only [SX, SLX, add_mk, Nat.reduceAdd]
      have hI8 := hcl w8 _ hU8 hO8
      refine st_fld (r := rc) (r' := { rc with ds := rc.ds ++ [di] }) (vt' := vt) (vd' := v8) hI8 hB sz39 (RowH.one hr8).2 (by omega) rfl ?_
      intro w9 hI9
      refine st_keepT (fun _ => True) trivial ?_
      have hrow8 : RowH 138 2 v8 (rc.ds ++ [di]).length ((rc.ds ++ [di]).flatMap diV) h8 := by
        rw [flat_snoc, List.length_append]; exact hr8
      refine ⟨⟨j + 1, by omega, ?_, ?_⟩, ?_⟩
      · rw [show ((j : Nat) : Int) + 1 = ((j + 1 : Nat) : Int) by omega, wrapU8, Nat.mod_eq_of_lt (by omega)]; rfl
      · have e1 : ({ r with ts := (many gTx i s1).1, ds := (many gDi (j + 1) s3).1 } : Re) = { rc with ds := rc.ds ++ [di] } := by
          rw [many_succ, ← hrc, hsc, ← htx]; rfl
        have e2 : (many gDi (j + 1) s3).2 = (tk (tk sc 2).2 8).2 := by rw [many_succ, hsc]; rfl
        rw [e1, e2]
        refine ⟨vt, v8, ht, h8, h1, hrow8, fun p hp => ?_, hA, hB, hI9⟩
        rcases List.mem_append.1 hp with hp | hp
        · exact h3 p (List.mem_append_left _ hp)
        · exact (hh8 p hp).resolve_left (by simp)
      · rw [show ((j : Nat) : Int) + 1 = ((j + 1 : Nat) : Int) by omega, wrapU8, Nat.mod_eq_of_lt (by omega)]
        simp only [List.getD_cons_zero, intOf]; omega
    · obtain rfl : j = n2 := by omega
      exact onF_mk rfl rfl rfl rfl rfl ⟨vt, vd, ht, hd, h1, h2, h3, hA, hB, hI⟩
end Go.Proofs.Ytplpjikcgheiiaa.Rec

/- read, whole: what it tells, or gives up with. -/
namespace Go.Proofs.Ytplpjikcgheiiaa.Rec
open Go Go.Proofs.Ytplpjikcgheiiaa Go.Proofs.Ytplpjikcgheiiaa.Enc Xf Go.RowKit
set_option linter.unusedVariables false
set_option linter.unusedSimpArgs false
set_option maxRecDepth 100000

abbrev AS (s : Nat → Value) : Act := actOf [] ((List.range 91).map fun i => .val (s i))
def upd (s : Nat → Value) (d : Nat) (v : Value) : Nat → Value := fun i => if i = d then v else s i
theorem AS_put (s : Nat → Value) (d : Nat) (v : Value) : (AS s).put (some d) v = AS (upd s d v) := by
  unfold AS actOf Act.put
  simp only [List.map_map]
  congr 1
  apply Array.ext'
  simp only [Array.toList_setIfInBounds]
  apply List.ext_getElem?
  intro i
  by_cases hi : i < 91
  · by_cases hd : d = i
    · subst hd
      rw [List.getElem?_set_self (by simpa using hi)]
      simp [hi, upd, Sl.v]
    · rw [List.getElem?_set_ne hd]
      have hd' : ¬ i = d := fun h => hd h.symm
      simp [hi, upd, Sl.v, hd']
  · rw [List.getElem?_eq_none (by simpa using hi), List.getElem?_eq_none (by simpa using hi)]
section
variable {ops : Array Oper} {Q : Exit → Act → World → Prop} {i d : Nat} {rest : List Nat} {s : Nat → Value} {w w' : World} {o : Oper}
theorem wpA_val {v : Value} (ho : ops[i]? = some o) (hd : o.dst = some d) (hw : Region.wanted o (yielded ops (AS s).tmps) = true) (hr : (execOp (AS s).eval o).run Try.prog w = .ok (.value v) w') (h : wpOps Try.prog ops Q rest (AS (upd s d v)) w') : wpOps Try.prog ops Q (i :: rest) (AS s) w :=
  wpO_val ho hw hr (by rw [hd, AS_put]; exact h)
theorem wpA_call {f : FuncId} {args : Array Value} {R : Value → World → Prop} (ho : ops[i]? = some o) (hd : o.dst = some d) (hw : Region.wanted o (yielded ops (AS s).tmps) = true) (hr : (execOp (AS s).eval o).run Try.prog w = .ok (.enter f args) w') (hc : CallsR Try.prog f args w' R) (h : ∀ v w'', R v w'' → wpOps Try.prog ops Q rest (AS (upd s d v)) w'') : wpOps Try.prog ops Q (i :: rest) (AS s) w :=
  wpO_call ho hw hr hc fun v w'' hv => by rw [hd, AS_put]; exact h v w'' hv
theorem wpA_not (ho : ops[i]? = some o) (hd : o.dst = some d) (hw : Region.wanted o (yielded ops (AS s).tmps) = false) (h : wpOps Try.prog ops Q rest (AS (upd s d undef)) w) : wpOps Try.prog ops Q (i :: rest) (AS s) w := by
  unfold wpOps
  rw [ho]
  simp only [hw, Bool.false_eq_true, if_false]
  rw [hd, AS_put]; exact h
theorem wpA_skip (ho : ops[i]? = some o) (hd : o.dst = none) (hw : Region.wanted o (yielded ops (AS s).tmps) = true) (hr : (execOp (AS s).eval o).run Try.prog w = .ok .skip w') (h : wpOps Try.prog ops Q rest (AS s) w') : wpOps Try.prog ops Q (i :: rest) (AS s) w :=
  wpO_skip ho hw hr (by rw [hd]; exact h)
end
theorem piece_wp {c : Code} {x : Prop} {s : Nat → Value} {w : World} {N : List Sl → World → Prop} {Q : Exit → Act → World → Prop} (heq : x = Y Try.prog (std Try.prog) 2 [] c (onN N) ((List.range 91).map fun i => .val (s i)) w) (hx : x) (hQ : ∀ fr w', N fr w' → Q .normal (actOf [] fr) w') :
    c.wp Try.prog Q (AS s) w := by
  rw [heq] at hx
  refine Code.wp_mono (fun e a w he => he.1) (X_wp 2 mixed c Q _ w (Y_out (dfs := []) c (onN N) Q _ w ?_ hx))
  intro e fr w' he
  cases e <;> first | exact hQ _ _ he | exact he.elim
/-- a piece that ends in the reading's frame -/
theorem piece_F {c : Code} {x : Prop} {s : Nat → Value} {w : World} {g gA gB : Nat} {R : World → Prop} {Q : Exit → Act → World → Prop} (heq : x = Y Try.prog (std Try.prog) 2 [] c (onN (onF g gA gB R)) ((List.range 91).map fun i => .val (s i)) w) (hx : x) (hQ : ∀ s w', Fr3 g gA gB s → R w' → Q .normal (AS s) w') :
    c.wp Try.prog Q (AS s) w :=
  piece_wp heq hx fun fr w' ⟨⟨s', he, hf⟩, hR⟩ => by subst he; exact hQ s' w' hf hR

theorem p1_walk {W w : World} {g gA : Nat} {hb : List (Nat × Obj)} {l : List UInt8} {sl : Nat → Value} (f0 : sl 0 = .pointer (some ⟨g, 0, none⟩)) (f2 : sl 2 = .pointer (some ⟨gA, 0, none⟩)) (hA : W.heap.size ≤ gA) (hI : RI W [(gA, reO re0 nilS nilS)] g hb l 0 w) :
    read_p1_x (std Try.prog) sl w (fun fr w' => ∃ gB, onF g gA gB (RS W g gA gB hb (gHead (l, 0)).1 (gHead (l, 0)).2) fr w') := by
  unfold read_p1_x
  simp only [f0, f2]
  refine st_call (gByte (s := (l, 0)) hI) ?_
  rintro _ w2 ⟨rfl, hk1, hI⟩
  simp (disch := first | assumption | omega) only [PX, BX, add_mk, Nat.reduceAdd, w64]
  refine st_call (gEight hI) ?_
  rintro _ w3 ⟨rfl, hI⟩
  refine st_call (gFour hI) ?_
  rintro _ w4 ⟨rfl, hk2, hI⟩
  simp (disch := first | assumption | omega) only [PX, BX, add_mk, Nat.reduceAdd, w64]
  refine st_call (gEight hI) ?_
  rintro _ w5 ⟨rfl, hI⟩
  rw [step_run (build_head _ _ _ _ _)]
  obtain ⟨T, hO, hU, hcl⟩ := RI.open_ hI
  refine st_alloc ze_re hU hO ?_
  intro gB w6 hU6 hO6 hB
  have hO6 : Owns w6 ((gB, reO re0 nilS nilS) :: (gA, reO re0 nilS nilS) :: T) := hO6
  refine st_re (r := { re0 with kind := ((tk (l, 0) 1).1 : Nat), lsn := (tk (tk (l, 0) 1).2 8).1, txn := ((tk (tk (tk (l, 0) 1).2 8).2 4).1 : Nat), prev := (tk (tk (tk (tk (l, 0) 1).2 8).2 4).2 8).1 }) hU6 hO6 0 rfl rfl rfl (.inr hB) ?_
  intro w7 hU7 hO7
  have hI7 := hcl w7 [(gB, _), (gA, _)] hU7 hO7
  refine ⟨gB, onF_mk rfl rfl rfl rfl rfl ?_⟩
  exact ⟨nilS, nilS, [], [], RowH.nil_ _ _, RowH.nil_ _ _, (fun p hp => by cases hp), hA, hB, hI7⟩
end Go.Proofs.Ytplpjikcgheiiaa.Rec

/- read, whole. -/
namespace Go.Proofs.Ytplpjikcgheiiaa.Rec
open Go Go.Proofs.Ytplpjikcgheiiaa Go.Proofs.Ytplpjikcgheiiaa.Enc Xf Go.RowKit
set_option linter.unusedVariables false
set_option linter.unusedSimpArgs false
set_option maxRecDepth 100000

abbrev faultC : List PanicEntry := [{ v := faultV, recovered := false }]
def ReadsR (W : World) (l : List UInt8) (e : Ending) (w' : World) : Prop :=
  (isRe l ∧ ∃ vt vd ht hd, e = .returned (.agg (reV (gAll l).1 vt vd).toArray) ∧ RowH 136 3 vt (gAll l).1.ts.length ((gAll l).1.ts.flatMap txV) ht ∧ RowH 138 2 vd (gAll l).1.ds.length ((gAll l).1.ds.flatMap diV) hd ∧ (∀ p ∈ ht ++ hd, W.heap.size ≤ p.1) ∧ Owns w' (ht ++ hd) ∧ Upd W w' []) ∨
  (¬ isRe l ∧ e = .panicked faultC ∧ Upd W w' [])
theorem frozen0 {w : World} {g off : Nat} {cs : Array Value} {e : TypeId} (h : w.heap[g]? = some (.cells cs e (0, 0))) : w.frozen? ⟨g, off, none⟩ = false := frozen_at h (.inr (Nat.zero_le _))

theorem enter_AS (v : Value) : ({ tmps := #[v] ++ Array.replicate (Try.f92.ntmps - (#[v] : Array Value).size) undef, defers := [] } : Act) = AS (fun i => if i = 0 then v else undef) := by
  have hn : Try.f92.ntmps = 91 := by kernel_rfl
  rw [hn]
  unfold AS actOf
  refine congrArg (fun t => ({ tmps := t, defers := [] } : Act)) ?_
  apply Array.ext'
  rw [Array.toList_append, Array.toList_replicate]
  show [v] ++ List.replicate 90 undef = _
  rfl
theorem RdS.ofRow {α : Type} {w : World} {e : TypeId} {f : α → List Value} {k : Nat} {v : Value} {l : List α} {h : List (Nat × Obj)} (hr : RowH e k v l.length (l.flatMap f) h) (hO : Owns w h) : RdS w f k v l := by
  have hrd := hr.rd (F := []) (by rw [List.append_nil]; exact hO)
  obtain ⟨_, ⟨rfl, h0, _⟩ | ⟨g, cap, cs, rfl, _, h1, h2, _⟩⟩ := hr
  · have : l = [] := List.eq_nil_of_length_eq_zero h0
    subst this
    exact ⟨none, 0, rfl, by simp, hrd⟩
  · exact ⟨_, _, rfl, by omega, hrd⟩
theorem read_spec {W w : World} {g : Nat} {hb : List (Nat × Obj)} {l : List UInt8} (hI : RI W [] g hb l 0 w) : Calls Try.prog 92 #[.pointer (some ⟨g, 0, none⟩)] w (ReadsR W l) := by
  refine calls_of_wp Try.func92 rfl ?_
  let s0 : Nat → Value := fun i => if i = 0 then .pointer (some ⟨g, 0, none⟩) else undef
  rw [enter_AS]
  apply wp_seq
  -- the result's variable
  refine piece_wp (read_p0_eq (std Try.prog) s0 w (fun fr w' => ∃ (s : Nat → Value) (gA : Nat), fr = ((List.range 91).map fun i => .val (s i)) ∧ s 0 = .pointer (some ⟨g, 0, none⟩) ∧ s 2 = .pointer (some ⟨gA, 0, none⟩) ∧ W.heap.size ≤ gA ∧ RI W [(gA, reO re0 nilS nilS)] g hb l 0 w')) ?_ ?_
  · unfold read_p0_x
    refine st_alloc ze_re (Upd.refl w []) (Owns.nil w) ?_
    intro gA w1 hU1 hO1 hA
    have hI1 := hI.push (p := (gA, reO re0 nilS nilS)) hU1 (hO1.at_ 0 rfl) hA
    exact ⟨_, gA, toS rfl rfl, rfl, rfl, Nat.le_trans hI.mid.size hA, hI1⟩
  rintro fr w1 ⟨s1, gA, rfl, f0, f2, hA, hI1⟩
  show Code.wp _ _ _ (AS s1) w1
  apply wp_seq
  -- the head
  refine piece_wp (read_p1_eq (std Try.prog) s1 w1 _) (p1_walk f0 f2 hA hI1) ?_
  rintro fr w2 ⟨gB, ⟨s2, rfl, hf2⟩, hR2⟩
  show Code.wp _ _ _ (AS s2) w2
  apply wp_seq
  -- was there a head?
  obtain ⟨vt, vd, ht, hd, r1, r2, r3, hA, hB, hI2⟩ := hR2
  apply wp_region
  refine wpA_val (w' := w2) (v := .pointer (some ⟨g, 0, none⟩)) rfl rfl rfl (by show Sem.run Try.prog (pure (Next.value (s2 0))) w2 = _; rw [hf2.1]; rfl) ?_
  refine wpA_call (f := 80) (args := #[.pointer (some ⟨g, 0, none⟩)]) (w' := w2) rfl rfl rfl (by kernel_rfl) (rErr_spec hI2) ?_
  rintro _ w3 ⟨rfl, rfl⟩
  refine wpA_val (w' := w3) (v := .bool (decide ((((gHead (l, 0)).2.2 : Nat) : Int) = 0))) rfl rfl rfl r_eql ?_
  by_cases h0 : (gHead (l, 0)).2.2 = 0
  case neg =>
    have hb0 : decide ((((gHead (l, 0)).2.2 : Nat) : Int) = 0) = false := by simpa using h0
    rw [hb0]
    refine wpO_dies (f := 104) (args := #[.bool false]) (w' := w3) rfl rfl (by kernel_rfl) (must_bad w3) ?_
    rintro c w4 ⟨rfl, rfl⟩
    exact ⟨rfl, .inr ⟨gHead_bad h0, rfl, hI2.mid⟩⟩
  have hb1 : decide ((((gHead (l, 0)).2.2 : Nat) : Int) = 0) = true := by simpa using h0
  rw [hb1]
  refine wpA_call (f := 104) (args := #[.bool true]) (w' := w3) rfl rfl rfl (by kernel_rfl) (must_ok w3) ?_
  rintro um w4 rfl
  generalize hs3 : upd (upd (upd (upd s2 15 (Value.pointer (some { block := g, off := 0 }))) 16 (.int .i64 ((gHead (l, 0)).2.2 : Nat))) 17 (.bool true)) 18 um = s3
  have hf3 : Fr3 g gA gB s3 := by subst hs3; exact hf2
  show Code.wp _ _ _ (AS s3) w4
  clear hs3 hb1
  -- the pieces
  apply wp_seq
  refine piece_F (read_m1_eq (std Try.prog) s3 w4 _) (m1_walk hf3 ⟨vt, vd, ht, hd, r1, r2, r3, hA, hB, hI2⟩) ?_
  intro s4 w5 hf4 hR
  show Code.wp _ _ _ (AS s4) w5
  apply wp_seq
  refine piece_F (read_m2_eq (std Try.prog) s4 w5 _) (m2_walk hf4 hR) ?_
  intro s5 w6 hf5 hR
  show Code.wp _ _ _ (AS s5) w6
  apply wp_seq
  have hnil : (gUndo (gChg (gHead (l, 0)).1 (gHead (l, 0)).2).1 (gChg (gHead (l, 0)).1 (gHead (l, 0)).2).2).1.ts = [] ∧ (gUndo (gChg (gHead (l, 0)).1 (gHead (l, 0)).2).1 (gChg (gHead (l, 0)).1 (gHead (l, 0)).2).2).1.ds = [] := by
    unfold gUndo gChg
    split <;> split <;> exact ⟨rfl, rfl⟩
  refine piece_F (read_m3_eq (std Try.prog) s5 w6 _) (m3_walk hnil hf5 hR) ?_
  intro s6 w7 hf6 hR
  show Code.wp _ _ _ (AS s6) w7
  obtain ⟨vt, vd, ht, hd, r1, r2, r3, hA, hB, hI⟩ := hR
  have hI : RI W ((gB, reO (gAll l).1 vt vd) :: (gA, reO re0 nilS nilS) :: (ht ++ hd)) g hb (gAll l).2.1 (gAll l).2.2 w7 := hI
  apply wp_seq
  apply wp_region
  refine wpA_val (w' := w7) (v := .pointer (some ⟨g, 0, none⟩)) rfl rfl rfl (by show Sem.run Try.prog (pure (Next.value (s6 0))) w7 = _; rw [hf6.1]; rfl) ?_
  refine wpA_call (f := 106) (args := #[.pointer (some ⟨g, 0, none⟩)]) (w' := w7) rfl rfl rfl (by kernel_rfl) (rEnd_spec hI) ?_
  rintro _ w8 ⟨rfl, rfl⟩
  refine wpA_val (w' := w8) (v := .bool (decide (((endR (gAll l).2.1 (gAll l).2.2 : Nat) : Int) = 0))) rfl rfl rfl r_eql ?_
  have hO := RI.kept hI
  have hOr : Owns w8 (ht ++ hd) := hO.sub (.cons _ (.cons _ (List.Sublist.refl _)))
  by_cases he : endR (gAll l).2.1 (gAll l).2.2 = 0
  case neg =>
    have hb0 : decide (((endR (gAll l).2.1 (gAll l).2.2 : Nat) : Int) = 0) = false := by simpa using he
    rw [hb0]
    refine wpA_val (w' := w8) (v := .bool false) rfl rfl rfl rfl ?_
    refine wpA_not rfl rfl rfl ?_
    refine wpA_not rfl rfl rfl ?_
    refine wpA_not rfl rfl rfl ?_
    refine wpA_val (w' := w8) (v := .bool false) rfl rfl rfl (by kernel_rfl) ?_
    refine wpO_dies (f := 104) (args := #[.bool false]) (w' := w8) rfl rfl (by kernel_rfl) (must_bad w8) ?_
    rintro c w9 ⟨rfl, rfl⟩
    exact ⟨rfl, .inr ⟨fun h => he h.1, rfl, hI.mid⟩⟩
  have hb1 : decide (((endR (gAll l).2.1 (gAll l).2.2 : Nat) : Int) = 0) = true := by simpa using he
  rw [hb1]
  refine wpA_val (w' := w8) (v := .bool true) rfl rfl rfl rfl ?_
  refine wpA_val (w' := w8) (v := .agg (reV (gAll l).1 vt vd).toArray) rfl rfl rfl (by
    show (sLoad 41 (s6 3)).run Try.prog w8 = _
    rw [hf6.2.2]; exact run_re (hO.at_ 0 rfl)) ?_
  have hre : RdRe w8 (.agg (reV (gAll l).1 vt vd).toArray) (gAll l).1 := by
    refine ⟨vt, vd, rfl, ?_, ?_⟩
    · exact RdS.ofRow r1 (hOr.sub (List.sublist_append_left _ _))
    · exact RdS.ofRow r2 (hOr.sub (List.sublist_append_right _ _))
  refine wpA_call (f := 93) (args := #[.agg (reV (gAll l).1 vt vd).toArray]) (w' := w8) rfl rfl rfl (by kernel_rfl) (Check_spec w8 _ _ hre) ?_
  rintro _ w9 ⟨rfl, hU9⟩
  refine wpA_val (w' := w9) (v := .bool (decide (((okN (okP (gAll l).1) : Nat) : Int) = 0))) rfl rfl rfl r_eql ?_
  have hO9 := hO.ext hU9
  have hOr9 := hOr.ext hU9
  have hU9 := hI.mid.trans hU9
  by_cases hk : okP (gAll l).1
  case neg =>
    have hb2 : decide (((okN (okP (gAll l).1) : Nat) : Int) = 0) = false := by unfold okN; rw [if_neg hk]; rfl
    rw [hb2]
    refine wpA_val (w' := w9) (v := .bool false) rfl rfl rfl (by kernel_rfl) ?_
    refine wpO_dies (f := 104) (args := #[.bool false]) (w' := w9) rfl rfl (by kernel_rfl) (must_bad w9) ?_
    rintro c w10 ⟨rfl, rfl⟩
    exact ⟨rfl, .inr ⟨fun h => hk h.2, rfl, hU9⟩⟩
  have hb2 : decide (((okN (okP (gAll l).1) : Nat) : Int) = 0) = true := by unfold okN; rw [if_pos hk]; rfl
  rw [hb2]
  refine wpA_val (w' := w9) (v := .bool true) rfl rfl rfl (by kernel_rfl) ?_
  refine wpA_call (f := 104) (args := #[.bool true]) (w' := w9) rfl rfl rfl (by kernel_rfl) (must_ok w9) ?_
  rintro um w10 rfl
  generalize hs7 : upd _ 89 um = s7
  have hf7 : Fr3 g gA gB s7 := by subst hs7; exact hf6
  show Code.wp _ _ _ (AS s7) w10
  apply wp_seq
  apply wp_region
  refine wpA_val (w' := w10) (v := .agg (reV (gAll l).1 vt vd).toArray) rfl rfl rfl (by
    show (sLoad 41 (s7 3)).run Try.prog w10 = _
    rw [hf7.2.2]; exact run_re (hO9.at_ 0 rfl)) ?_
  have hst := run_storeN (P := Try.prog) (w := w10) (t := 41) (g := gA) (off := 0) (vs := reV (gAll l).1 vt vd) (by rw [sz41]; rfl) (hO9.at_ 1 rfl) (by simp [reV]) (reV_one _ (RowH.one r1).1 (RowH.one r2).1)
  refine wpA_skip rfl rfl rfl (by
    show (sStore 41 (s7 2) (.agg (reV (gAll l).1 vt vd).toArray)).run Try.prog w10 = _
    rw [hf7.2.1]; exact hst) ?_
  have hU10 := hU9.then_ (Upd.setRow w10 gA (List.take 0 (reV re0 nilS nilS).toArray.toList ++ reV (gAll l).1 vt vd ++ List.drop (0 + (reV (gAll l).1 vt vd).length) (reV re0 nilS nilS).toArray.toList).toArray) fun x hx => by simp at hx; subst hx; exact .inr hA
  have hO10 := hO9.setRow 1 (g := gA) rfl (List.take 0 (reV re0 nilS nilS).toArray.toList ++ reV (gAll l).1 vt vd ++ List.drop (0 + (reV (gAll l).1 vt vd).length) (reV re0 nilS nilS).toArray.toList).toArray
  have hO10 : Owns _ ((gB, reO (gAll l).1 vt vd) :: (gA, reO (gAll l).1 vt vd) :: (ht ++ hd)) := hO10
  generalize hs8 : upd s7 90 _ = s8
  have hf8 : Fr3 g gA gB s8 := by subst hs8; exact hf7
  apply wp_ret
  refine ⟨rfl, ?_⟩
  obtain ⟨v, hv, hx⟩ := results_of (P := Try.prog) (fn := Try.f92) (Q := fun v w' => v = .agg (reV (gAll l).1 vt vd).toArray) (a := AS s8) (show resV Try.prog (fun v w' => v = .agg (reV (gAll l).1 vt vd).toArray) (AS s8) _ [.cell 2 41] [] from by
    show LoadR Try.prog 41 (s8 2) _ _
    rw [hf8.2.1]
    exact st_loadR (run_loadVarN (cs := reV (gAll l).1 vt vd) ag41 (by rw [sz41]; rfl) (cells_read (hO10.at_ 1 rfl))) rfl)
  refine ⟨v, hv, .inl ⟨⟨he, hk⟩, vt, vd, ht, hd, ?_, r1, r2, r3, hO10.sub (.cons _ (.cons _ (List.Sublist.refl _))), hU10⟩⟩
  rw [hx]
end Go.Proofs.Ytplpjikcgheiiaa.Rec

/- Decode, and the function that it defers. -/
namespace Go.Proofs.Ytplpjikcgheiiaa.Rec
open Go Go.Proofs.Ytplpjikcgheiiaa Go.Proofs.Ytplpjikcgheiiaa.Enc Xf Go.RowKit
set_option linter.unusedVariables false
set_option linter.unusedSimpArgs false
set_option maxRecDepth 100000

section
variable {P : Program} {ops : Array Oper} {Q : Exit → Act → List Frame → World → Prop} {i : Nat} {rest : List Nat} {a : Act} {cs cs' : List Frame} {w w' : World} {o : Oper}
theorem wpSO_val {v : Value} (ho : ops[i]? = some o) (hw : Region.wanted o (yielded ops a.tmps) = true) (hr : (execOp a.eval o).run P w = .ok (.value v) w') (h : wpOpsS P ops Q rest (a.put o.dst v) cs w') : wpOpsS P ops Q (i :: rest) a cs w := by
  unfold wpOpsS
  rw [ho]
  simp only [hw, if_true]
  rw [hr]
  exact h
theorem wpSO_skip (ho : ops[i]? = some o) (hw : Region.wanted o (yielded ops a.tmps) = true) (hr : (execOp a.eval o).run P w = .ok .skip w') (h : wpOpsS P ops Q rest (a.put o.dst undef) cs w') : wpOpsS P ops Q (i :: rest) a cs w := by
  unfold wpOpsS
  rw [ho]
  simp only [hw, if_true]
  rw [hr]
  exact h
theorem wpSO_rec {v : Value} (ho : ops[i]? = some o) (hw : Region.wanted o (yielded ops a.tmps) = true) (hr : (execOp a.eval o).run P w = .ok .recover w') (hc : recoverD cs = some (v, cs')) (h : wpOpsS P ops Q rest (a.put o.dst v) cs' w') : wpOpsS P ops Q (i :: rest) a cs w := by
  unfold wpOpsS
  rw [ho]
  simp only [hw, if_true]
  rw [hr]
  simp only [hc]
  exact h
theorem wpSO_idle (ho : ops[i]? = some o) (hw : Region.wanted o (yielded ops a.tmps) = true) (hr : (execOp a.eval o).run P w = .ok .recover w') (hc : recoverD cs = none) (h : wpOpsS P ops Q rest (a.put o.dst .nilIface) cs w') : wpOpsS P ops Q (i :: rest) a cs w := by
  unfold wpOpsS
  rw [ho]
  simp only [hw, if_true]
  rw [hr]
  simp only [hc]
  exact h
theorem wpSO_nil (h : Q .normal a cs w) : wpOpsS P ops Q [] a cs w := h
end
attribute [local irreducible] Go.wpOpsS
abbrev AT (n : Nat) (ds : List Deferred) (s : Nat → Value) : Act := actOf ds ((List.range n).map fun i => .val (s i))
theorem AT_put (n : Nat) (ds : List Deferred) (s : Nat → Value) (d : Nat) (v : Value) : (AT n ds s).put (some d) v = AT n ds (upd s d v) := by
  unfold AT actOf Act.put
  simp only [List.map_map]
  refine congrArg (fun t => ({ tmps := t, defers := ds } : Act)) ?_
  apply Array.ext'
  simp only [Array.toList_setIfInBounds]
  apply List.ext_getElem?
  intro i
  by_cases hi : i < n
  · by_cases hd : d = i
    · subst hd
      rw [List.getElem?_set_self (by simpa using hi)]
      simp [hi, upd, Sl.v]
    · rw [List.getElem?_set_ne hd]
      have hd' : ¬ i = d := fun h => hd h.symm
      simp [hi, upd, Sl.v, hd']
  · rw [List.getElem?_eq_none (by simpa using hi), List.getElem?_eq_none (by simpa using hi)]
/-- the frame at a function's start -/
theorem enter_AT (args : List Value) (n : Nat) : ({ tmps := args.toArray ++ Array.replicate (n - args.toArray.size) undef, defers := [] } : Act) = AT (args.length + (n - args.length)) [] (fun i => args.getD i undef) := by
  unfold AT actOf
  refine congrArg (fun t => ({ tmps := t, defers := [] } : Act)) ?_
  apply Array.ext'
  rw [Array.toList_append, Array.toList_replicate]
  apply List.ext_getElem?
  intro i
  simp only [List.map_map, List.size_toArray]
  by_cases hi : i < args.length
  · rw [List.getElem?_append_left hi, List.getElem?_map, List.getElem?_range (by omega)]
    simp [Sl.v, hi]
  · rw [List.getElem?_append_right (by omega)]
    by_cases h2 : i < args.length + (n - args.length)
    · rw [List.getElem?_map, List.getElem?_range h2, List.getElem?_replicate, if_pos (by omega)]
      simp [Sl.v, hi]
    · rw [List.getElem?_eq_none (by simp; omega), List.getElem?_eq_none (by simp; omega)]
section
variable {ops : Array Oper} {Q : Exit → Act → List Frame → World → Prop} {i d n : Nat} {ds : List Deferred} {rest : List Nat} {s : Nat → Value} {cs cs' : List Frame} {w w' : World} {o : Oper}
theorem wpT_val {v : Value} (ho : ops[i]? = some o) (hd : o.dst = some d) (hw : Region.wanted o (yielded ops (AT n ds s).tmps) = true) (hr : (execOp (AT n ds s).eval o).run Try.prog w = .ok (.value v) w') (h : wpOpsS Try.prog ops Q rest (AT n ds (upd s d v)) cs w') : wpOpsS Try.prog ops Q (i :: rest) (AT n ds s) cs w :=
  wpSO_val ho hw hr (by rw [hd, AT_put]; exact h)
theorem wpT_skip (ho : ops[i]? = some o) (hd : o.dst = none) (hw : Region.wanted o (yielded ops (AT n ds s).tmps) = true) (hr : (execOp (AT n ds s).eval o).run Try.prog w = .ok .skip w') (h : wpOpsS Try.prog ops Q rest (AT n ds s) cs w') : wpOpsS Try.prog ops Q (i :: rest) (AT n ds s) cs w :=
  wpSO_skip ho hw hr (by rw [hd]; exact h)
theorem wpT_rec {v : Value} (ho : ops[i]? = some o) (hd : o.dst = some d) (hw : Region.wanted o (yielded ops (AT n ds s).tmps) = true) (hr : (execOp (AT n ds s).eval o).run Try.prog w = .ok .recover w') (hc : recoverD cs = some (v, cs')) (h : wpOpsS Try.prog ops Q rest (AT n ds (upd s d v)) cs' w') : wpOpsS Try.prog ops Q (i :: rest) (AT n ds s) cs w :=
  wpSO_rec ho hw hr hc (by rw [hd, AT_put]; exact h)
theorem wpT_idle (ho : ops[i]? = some o) (hd : o.dst = some d) (hw : Region.wanted o (yielded ops (AT n ds s).tmps) = true) (hr : (execOp (AT n ds s).eval o).run Try.prog w = .ok .recover w') (hc : recoverD cs = none) (h : wpOpsS Try.prog ops Q rest (AT n ds (upd s d .nilIface)) cs w') : wpOpsS Try.prog ops Q (i :: rest) (AT n ds s) cs w :=
  wpSO_idle ho hw hr hc (by rw [hd, AT_put]; exact h)
end
abbrev reBlk (g : Nat) (r : Re) : Nat × Obj := (g, reO r nilS nilS)
abbrev errBlk (g : Nat) (e : Nat) : Nat × Obj := (g, .cells #[.int .i64 (e : Nat)] 24 (0, 0))

theorem sz_fault : (Try.prog.info? 166).map (·.size) = some 1 := by kernel_rfl
theorem ze_fault : (Try.prog.info? 166).bind (·.zero) = some (.agg #[.int .i64 0]) := by kernel_rfl
/-- nothing is wrong: nothing is done -/
theorem catch_idle (gR gE : Nat) (w : World) : CallsD Try.prog 91 #[.pointer (some ⟨gR, 0, none⟩), .pointer (some ⟨gE, 0, none⟩)] .returning w fun e u' w' => (∃ v, e = .returned v) ∧ u' = .returning ∧ Upd w w' [] := by
  refine callsD_of_wpS Try.func91 rfl fun c₀ cs hu => ?_
  rw [show Try.f91.ntmps = 13 by kernel_rfl, show (#[.pointer (some ⟨gR, 0, none⟩), .pointer (some ⟨gE, 0, none⟩)] : Array Value) = [Value.pointer (some ⟨gR, 0, none⟩), .pointer (some ⟨gE, 0, none⟩)].toArray from rfl, enter_AT]
  show Code.wpS _ _ _ (AT 13 [] _) _ _
  apply wpS_seq
  apply wpS_region
  show wpOpsS _ _ _ [0, 1, 2, 3, 4, 5, 6, 7] _ _ _
  refine wpT_idle (w' := w) rfl rfl rfl (by kernel_rfl) (by simp [recoverD, hu]) ?_
  refine wpT_val (w' := w) (v := .tuple #[.agg #[.int .i64 0], .bool false]) rfl rfl rfl (by kernel_rfl) ?_
  refine wpT_val (w' := w) (v := .tuple #[.agg #[.int .i64 0], .bool false]) rfl rfl rfl (by kernel_rfl) ?_
  refine wpT_val (w' := w) (v := .agg #[.int .i64 0]) rfl rfl rfl (by kernel_rfl) ?_
  refine wpT_val (w' := w) (v := .bool false) rfl rfl rfl (by kernel_rfl) ?_
  refine wpT_val (w' := w.alloc (.cells #[.int .i64 0] 166)) (v := .pointer (some ⟨w.heap.size, 0, none⟩)) rfl rfl rfl (run_sAlloc ze_fault) ?_
  have hO := (Owns.nil w).alloc (.cells #[.int .i64 0] 166)
  have hst := run_storeN (P := Try.prog) (w := w.alloc (.cells #[.int .i64 0] 166)) (t := 166) (g := w.heap.size) (off := 0) (vs := [.int .i64 0]) (by rw [sz_fault]; rfl) (hO.at_ 0 rfl) (by simp) (by intro u hu; simp at hu; subst hu; rfl)
  refine wpT_skip rfl rfl rfl hst ?_
  refine wpT_val (w' := (w.alloc (.cells #[.int .i64 0] 166)).setRow w.heap.size _) (v := .bool false) rfl rfl rfl rfl ?_
  have hU : Upd w ((w.alloc (.cells #[.int .i64 0] 166)).setRow w.heap.size (List.take 0 #[Value.int .i64 0].toList ++ [Value.int .i64 0] ++ List.drop (0 + [Value.int .i64 0].length) #[Value.int .i64 0].toList).toArray) [] := (Upd.alloc w _ []).then_ (Upd.setRow _ _ _) fun x hx => by simp at hx; subst hx; exact .inr (Nat.le_refl _)
  apply wpSO_nil
  apply wpS_seq
  apply wpS_region
  show wpOpsS _ _ _ [0] _ _ _
  refine wpT_val (v := .bool false) rfl rfl rfl rfl ?_
  apply wpSO_nil
  refine wpS_cond (t := false) rfl ?_
  refine wpS_of_wp (wp_skip ?_)
  refine ⟨rfl, .returning, ?_, .tuple #[], by kernel_rfl, ⟨_, rfl⟩, rfl, hU⟩
  cases c₀
  simp only at hu
  subst hu
  rfl

abbrev faultD : List PanicEntry := [{ v := faultV, recovered := true }]
theorem u_fault : Try.prog.underlying 166 = some (.struct (Try.prog.fieldsOf 166)) := by kernel_rfl
/-- a fault is caught: no record, and its reason -/
theorem catch_fault {W : World} (gR gE : Nat) (e0 : Nat) (r0 : Re) (ks : List Nat) (w : World) (hO : Owns w [reBlk gR r0, errBlk gE e0]) (hU : Upd W w ks) (hR : gR ∈ ks ∨ W.heap.size ≤ gR) (hE : gE ∈ ks ∨ W.heap.size ≤ gE) :
    CallsD Try.prog 91 #[.pointer (some ⟨gR, 0, none⟩), .pointer (some ⟨gE, 0, none⟩)] (.panicking faultC) w fun e u' w' => (∃ v, e = .returned v) ∧ u' = .panicking faultD ∧ Upd W w' ks ∧ Owns w' [reBlk gR re0, errBlk gE 5] := by
  refine callsD_of_wpS Try.func91 rfl fun c₀ cs hu => ?_
  rw [show Try.f91.ntmps = 13 by kernel_rfl, show (#[.pointer (some ⟨gR, 0, none⟩), .pointer (some ⟨gE, 0, none⟩)] : Array Value) = [Value.pointer (some ⟨gR, 0, none⟩), .pointer (some ⟨gE, 0, none⟩)].toArray from rfl, enter_AT]
  show Code.wpS _ _ _ (AT 13 [] _) _ _
  apply wpS_seq
  apply wpS_region
  show wpOpsS _ _ _ [0, 1, 2, 3, 4, 5, 6, 7] _ _ _
  refine wpT_rec (v := faultV) (w' := w) (cs' := { c₀ with mode := .panicking faultD } :: cs) rfl rfl rfl (by kernel_rfl) (by simp [recoverD, hu]) ?_
  refine wpT_val (w' := w) (v := .tuple #[.agg #[.int .i64 5], .bool true]) rfl rfl rfl (by kernel_rfl) ?_
  refine wpT_val (w' := w) (v := .tuple #[.agg #[.int .i64 5], .bool true]) rfl rfl rfl (by kernel_rfl) ?_
  refine wpT_val (w' := w) (v := .agg #[.int .i64 5]) rfl rfl rfl (by kernel_rfl) ?_
  refine wpT_val (w' := w) (v := .bool true) rfl rfl rfl (by kernel_rfl) ?_
  refine wpT_val (w' := w.alloc (.cells #[.int .i64 0] 166)) (v := .pointer (some ⟨w.heap.size, 0, none⟩)) rfl rfl rfl (run_sAlloc ze_fault) ?_
  have hO1 := hO.alloc (.cells #[.int .i64 0] 166)
  have hst := run_storeN (P := Try.prog) (w := w.alloc (.cells #[.int .i64 0] 166)) (t := 166) (g := w.heap.size) (off := 0) (vs := [.int .i64 5]) (by rw [sz_fault]; rfl) (hO1.at_ 0 rfl) (by simp) (by intro u hu; simp at hu; subst hu; rfl)
  refine wpT_skip rfl rfl rfl hst ?_
  refine wpT_val (w' := (w.alloc (.cells #[.int .i64 0] 166)).setRow w.heap.size _) (v := .bool true) rfl rfl rfl rfl ?_
  have hU2 : Upd W ((w.alloc (.cells #[.int .i64 0] 166)).setRow w.heap.size (List.take 0 #[Value.int .i64 0].toList ++ [Value.int .i64 5] ++ List.drop (0 + [Value.int .i64 5].length) #[Value.int .i64 0].toList).toArray) ks := (hU.then_ (Upd.alloc w _ []) fun x hx => by cases hx).then_ (Upd.setRow _ _ _) fun x hx => by simp at hx; subst hx; exact .inr hU.size
  have hO2 := hO1.setRow 0 rfl (List.take 0 #[Value.int .i64 0].toList ++ [Value.int .i64 5] ++ List.drop (0 + [Value.int .i64 5].length) #[Value.int .i64 0].toList).toArray
  generalize (w.alloc (.cells #[.int .i64 0] 166)).setRow w.heap.size _ = w2 at hU2 hO2 ⊢
  have hO2 : Owns w2 ((w.heap.size, .cells #[.int .i64 5] 166 (0, 0)) :: [reBlk gR r0, errBlk gE e0]) := hO2
  generalize hg : w.heap.size = gF at hO2
  apply wpSO_nil
  apply wpS_seq
  apply wpS_region
  show wpOpsS _ _ _ [0] _ _ _
  refine wpT_val (v := .bool true) rfl rfl rfl rfl ?_
  apply wpSO_nil
  refine wpS_cond (t := true) rfl ?_
  refine wpS_of_wp ?_
  simp only [if_true]
  generalize hs : upd _ 9 (Value.bool true) = s
  have s0 : s 0 = .pointer (some ⟨gR, 0, none⟩) := by subst hs; rfl
  have s1 : s 1 = .pointer (some ⟨gE, 0, none⟩) := by subst hs; rfl
  have s2 : s 2 = .pointer (some ⟨gF, 0, none⟩) := by subst hs; subst hg; rfl
  clear hs
  have hpiece : catch_b_x (std Try.prog) s w2 (fun fr w' => Upd W w' ks ∧ Owns w' [reBlk gR re0, errBlk gE 5]) := by
    unfold catch_b_x
    simp only [s0, s1, s2]
    have hO3 := hO2.ext (Upd.drew w2 [])
    have hU3 : Upd W w2.drew ks := hU2.then_ (Upd.drew w2 []) fun x hx => by cases hx
    have hne : ∃ w', (fun w' : World => w'.cell? ⟨gF, 0, none⟩ = some (.int .i64 5)) w' := ⟨_, cell_at (hO3.at_ 0 rfl)⟩
    refine st_draw (fun w' => w'.cell? ⟨gF, 0, none⟩ = some (.int .i64 5)) (cell_at (hO3.at_ 0 rfl)) ?_
    have hc : ∀ w', (fun w' : World => w'.cell? ⟨gF, 0, none⟩ = some (.int .i64 5)) w' → w'.cell? ⟨gF, 0, none⟩ = some (.int .i64 5) := fun w' h => h
    simp (disch := first | assumption | omega) only [SX, SLX, add_mk, Nat.reduceAdd]
    rw [step_run (show (sBuild 41 []).run Try.prog _ = .ok (.value (.agg (reV re0 nilS nilS).toArray)) _ by kernel_rfl)]
    refine st_same (cell_at (hO3.at_ 0 rfl)) ?_
    refine st_re (r := re0) hU3 hO3 1 rfl rfl rfl hR ?_
    intro w4 hU4 hO4
    refine st_same (cell_at (hO4.at_ 0 rfl)) ?_
    refine st_storeB sz24 rfl hU4 hO4 2 rfl (by simp) (.inr (Nat.zero_le _)) hE ?_
    intro w5 hU5 hO5
    refine st_keepT (fun _ => True) trivial ?_
    exact ⟨hU5, hO5.sub (.cons _ (List.Sublist.refl _))⟩
  rw [catch_b_eq] at hpiece
  refine Code.wp_mono (fun e a w he => he.1) (X_wp 4 mixed _ _ _ w2 (Y_out (dfs := []) _ (onN (fun fr w' => Upd W w' ks ∧ Owns w' [reBlk gR re0, errBlk gE 5])) _ _ w2 ?_ hpiece))
  intro e fr w' he
  cases e with
  | normal =>
    obtain ⟨h1, h2⟩ := he
    refine ⟨rfl, .panicking faultD, rfl, .tuple #[], by kernel_rfl, ⟨_, rfl⟩, rfl, h1, h2⟩
  | _ => exact he.elim
end Go.Proofs.Ytplpjikcgheiiaa.Rec

/- Decode. -/
namespace Go.Proofs.Ytplpjikcgheiiaa.Rec
open Go Go.Proofs.Ytplpjikcgheiiaa Go.Proofs.Ytplpjikcgheiiaa.Enc Xf Go.RowKit
set_option linter.unusedVariables false
set_option linter.unusedSimpArgs false
set_option maxRecDepth 100000

/-- a record in new memory -/
def NewRe (W w' : World) (v : Value) (r : Re) : Prop := ∃ vt vd ht hd, v = .agg (reV r vt vd).toArray ∧ RowH 136 3 vt r.ts.length (r.ts.flatMap txV) ht ∧ RowH 138 2 vd r.ds.length (r.ds.flatMap diV) hd ∧ (∀ p ∈ ht ++ hd, W.heap.size ≤ p.1) ∧ Owns w' (ht ++ hd) ∧ Upd W w' []
theorem NewRe.rd {W w' : World} {v : Value} {r : Re} (h : NewRe W w' v r) : RdRe w' v r := by
  obtain ⟨vt, vd, ht, hd, rfl, h1, h2, h3, h4, h5⟩ := h
  exact ⟨vt, vd, rfl, RdS.ofRow h1 (h4.sub (List.sublist_append_left _ _)), RdS.ofRow h2 (h4.sub (List.sublist_append_right _ _))⟩
theorem NewRe.upd {W w' : World} {v : Value} {r : Re} (h : NewRe W w' v r) : Upd W w' [] := by obtain ⟨_, _, _, _, _, _, _, _, _, h⟩ := h; exact h
theorem NewRe.base {W w1 w' : World} {v : Value} {r : Re} (h : NewRe w1 w' v r) (hU : Upd W w1 []) : NewRe W w' v r := by
  obtain ⟨vt, vd, ht, hd, h0, h1, h2, h3, h4, h5⟩ := h
  exact ⟨vt, vd, ht, hd, h0, h1, h2, fun p hp => Nat.le_trans hU.size (h3 p hp), h4, hU.trans h5⟩
theorem NewRe.ext {W w1 w' : World} {v : Value} {r : Re} (h : NewRe W w1 v r) (hU : Upd w1 w' []) : NewRe W w' v r := by
  obtain ⟨vt, vd, ht, hd, h0, h1, h2, h3, h4, h5⟩ := h
  exact ⟨vt, vd, ht, hd, h0, h1, h2, h3, h4.ext hU, h5.trans hU⟩
theorem NewRe.zero {W w' : World} (hU : Upd W w' []) : NewRe W w' (.agg (reV re0 nilS nilS).toArray) re0 := ⟨nilS, nilS, [], [], rfl, RowH.nil_ _ _, RowH.nil_ _ _, (fun p hp => by cases hp), Owns.nil _, hU⟩

theorem Owns.apart {w w' : World} {h : List (Nat × Obj)} {ks : List Nat} (hO : Owns w h) (hU : Upd w w' ks) (hn : ∀ p ∈ h, p.1 ∉ ks) : Owns w' h :=
  ⟨hO.1, fun p hp => by rw [hU.keep p.1 (hO.lt hp) (hn p hp)]; exact hO.2 p hp⟩
attribute [local irreducible] Go.wpOps
section
variable {ops : Array Oper} {Q : Exit → Act → World → Prop} {i d n : Nat} {ds : List Deferred} {rest : List Nat} {s : Nat → Value} {w w' : World} {o : Oper}
theorem wpB_val {v : Value} (ho : ops[i]? = some o) (hd : o.dst = some d) (hw : Region.wanted o (yielded ops (AT n ds s).tmps) = true) (hr : (execOp (AT n ds s).eval o).run Try.prog w = .ok (.value v) w') (h : wpOps Try.prog ops Q rest (AT n ds (upd s d v)) w') : wpOps Try.prog ops Q (i :: rest) (AT n ds s) w :=
  wpO_val ho hw hr (by rw [hd, AT_put]; exact h)
theorem wpB_skip (ho : ops[i]? = some o) (hd : o.dst = none) (hw : Region.wanted o (yielded ops (AT n ds s).tmps) = true) (hr : (execOp (AT n ds s).eval o).run Try.prog w = .ok .skip w') (h : wpOps Try.prog ops Q rest (AT n ds s) w') : wpOps Try.prog ops Q (i :: rest) (AT n ds s) w :=
  wpO_skip ho hw hr (by rw [hd]; exact h)
theorem wpB_call {f : FuncId} {args : Array Value} {R : Value → World → Prop} (ho : ops[i]? = some o) (hd : o.dst = some d) (hw : Region.wanted o (yielded ops (AT n ds s).tmps) = true) (hr : (execOp (AT n ds s).eval o).run Try.prog w = .ok (.enter f args) w') (hc : CallsR Try.prog f args w' R) (h : ∀ v w'', R v w'' → wpOps Try.prog ops Q rest (AT n ds (upd s d v)) w'') : wpOps Try.prog ops Q (i :: rest) (AT n ds s) w :=
  wpO_call ho hw hr hc fun v w'' hv => by rw [hd, AT_put]; exact h v w'' hv
theorem wpB_defer {df : Deferred} (ho : ops[i]? = some o) (hd : o.dst = none) (hw : Region.wanted o (yielded ops (AT n ds s).tmps) = true) (hr : (execOp (AT n ds s).eval o).run Try.prog w = .ok (.defer df) w') (h : wpOps Try.prog ops Q rest (AT n (df :: ds) s) w') : wpOps Try.prog ops Q (i :: rest) (AT n ds s) w :=
  wpO_defer ho hw hr (by rw [hd]; exact h)
/-- a call that returns or panics -/
theorem wpB_both {f : FuncId} {args : Array Value} {R : Ending → World → Prop} (ho : ops[i]? = some o) (hd : o.dst = some d) (hw : Region.wanted o (yielded ops (AT n ds s).tmps) = true) (hr : (execOp (AT n ds s).eval o).run Try.prog w = .ok (.enter f args) w') (hc : Calls Try.prog f args w' R) (hR : ∀ w'', ¬ R .outgrown w'') (h : ∀ v w'', R (.returned v) w'' → wpOps Try.prog ops Q rest (AT n ds (upd s d v)) w'') (hp : ∀ c w'', R (.panicked c) w'' → Q (.panic c) (AT n ds s) w'') : wpOps Try.prog ops Q (i :: rest) (AT n ds s) w := by
  refine wpO ho hw ?_
  rw [hr]
  refine Calls.mono hc fun e w'' he => ?_
  cases e with
  | returned v => show wpOps Try.prog ops Q rest ((AT n ds s).put o.dst v) w''; rw [hd, AT_put]; exact h v w'' he
  | panicked c => exact hp c w'' he
  | outgrown => exact absurd he (hR w'')
end
theorem wpO_nil {ops : Array Oper} {Q : Exit → Act → World → Prop} {a : Act} {w : World} (h : Q .normal a w) : wpOps Try.prog ops Q [] a w := by unfold wpOps; exact h

def DecR (W : World) (l : List UInt8) (e : Ending) (w' : World) : Prop := ∃ v x, e = .returned v ∧ v = .tuple #[x, .int .i64 ((decR l).2 : Nat)] ∧ NewRe W w' x (decR l).1

/-- the results are read behind the deferred function -/
theorem leave_dec {s : Nat → Value} {w : World} {gR gE e : Nat} {r : Re} {vt vd : Value} (s2 : s 2 = .pointer (some ⟨gR, 0, none⟩)) (s3 : s 3 = .pointer (some ⟨gE, 0, none⟩)) (hR : w.heap[gR]? = some (reO r vt vd)) (hE : w.heap[gE]? = some (.cells #[.int .i64 (e : Nat)] 24 (0, 0))) :
    (results Try.f81 (AT 8 [] s).tmps).run Try.prog w = .ok (.tuple #[.agg (reV r vt vd).toArray, .int .i64 (e : Nat)]) w := by
  obtain ⟨v, hv, hx⟩ := results_of (P := Try.prog) (fn := Try.f81) (Q := fun v w' => v = .tuple #[.agg (reV r vt vd).toArray, .int .i64 (e : Nat)]) (a := AT 8 [] s) (w := w) (show resV Try.prog (fun v w' => v = .tuple #[.agg (reV r vt vd).toArray, .int .i64 (e : Nat)]) (AT 8 [] s) w [.cell 2 41, .cell 3 24] [] from by
    show LoadR Try.prog 41 (s 2) _ _
    rw [s2]
    refine st_loadR (run_loadVarN (cs := reV r vt vd) ag41 (by rw [sz41]; rfl) (cells_read hR)) ?_
    show LoadR Try.prog 24 (s 3) _ _
    rw [s3]
    exact st_loadR (run_loadVar1 ag24 (cell_at hE)) rfl)
  rw [hv, hx]

theorem Decode_calls (W : World) (v : Value) (l : List UInt8) (hl : l.length ≤ 140737488355000) (hr : Rd W 1 v l.length (bytesV l)) : Calls Try.prog 81 #[v] W (DecR W l) := by
  refine calls_of_wp_defers Try.func81 rfl ?_
  rw [show Try.f81.ntmps = 8 by kernel_rfl, show (#[v] : Array Value) = [v].toArray from rfl, enter_AT]
  show Code.wp _ _ _ (AT 8 [] _) _
  apply wp_seq
  apply wp_region
  show wpOps _ _ _ [0, 1] _ _
  refine wpB_val (w' := W.alloc (.cells (reV re0 nilS nilS).toArray 41)) (v := .pointer (some ⟨W.heap.size, 0, none⟩)) rfl rfl rfl (run_sAlloc ze_re) ?_
  refine wpB_val (w' := (W.alloc (.cells (reV re0 nilS nilS).toArray 41)).alloc (.cells #[.int .i64 0] 24)) (v := .pointer (some ⟨(W.alloc (.cells (reV re0 nilS nilS).toArray 41)).heap.size, 0, none⟩)) rfl rfl rfl (run_sAlloc ze24) ?_
  have hO1 := ((Owns.nil W).alloc (.cells (reV re0 nilS nilS).toArray 41)).alloc (.cells #[.int .i64 0] 24)
  have hU1 : Upd W ((W.alloc (.cells (reV re0 nilS nilS).toArray 41)).alloc (.cells #[.int .i64 0] 24)) [] := (Upd.alloc W _ []).then_ (Upd.alloc _ _ []) fun x hx => by cases hx
  have hgE : W.heap.size ≤ (W.alloc (.cells (reV re0 nilS nilS).toArray 41)).heap.size := (Upd.alloc W _ []).size
  generalize hw1 : (W.alloc (.cells (reV re0 nilS nilS).toArray 41)).alloc (.cells #[.int .i64 0] 24) = w1 at hO1 hU1 ⊢
  generalize hE : (W.alloc (.cells (reV re0 nilS nilS).toArray 41)).heap.size = gE at hO1 hgE ⊢
  have hgR : W.heap.size ≤ W.heap.size := Nat.le_refl _
  generalize hR : W.heap.size = gR at hO1 hgR ⊢
  have hR : W.heap.size ≤ gR := by omega
  have hE : W.heap.size ≤ gE := by omega
  have hO1 : Owns w1 [errBlk gE 0, reBlk gR re0] := hO1
  apply wpO_nil
  generalize hs : upd _ 3 (Value.pointer (some ⟨gE, 0, none⟩)) = s1
  have f0 : s1 0 = v := by subst hs; rfl
  have f2 : s1 2 = .pointer (some ⟨gR, 0, none⟩) := by subst hs; rfl
  have f3 : s1 3 = .pointer (some ⟨gE, 0, none⟩) := by subst hs; rfl
  clear hs
  show Code.wp _ _ _ (AT 8 [] s1) w1
  apply wp_seq
  apply wp_region
  show wpOps _ _ _ [0, 1] _ _
  refine wpB_val (w' := w1) (v := .func (.func 91) #[] #[.pointer (some ⟨gR, 0, none⟩), .pointer (some ⟨gE, 0, none⟩)]) rfl rfl rfl (by rw [← semX_eq]; show (sMakeFunc (.func 91) [] [s1 2, s1 3]).run Try.prog w1 = _; rw [f2, f3]; rfl) ?_
  refine wpB_defer (w' := w1) (df := { target := .fn (.func 91) #[.pointer (some ⟨gR, 0, none⟩), .pointer (some ⟨gE, 0, none⟩)], args := #[] }) rfl rfl rfl (by kernel_rfl) ?_
  apply wpO_nil
  generalize hs : upd s1 4 _ = s2
  have f0 : s2 0 = v := by subst hs; exact f0
  have f2 : s2 2 = .pointer (some ⟨gR, 0, none⟩) := by subst hs; exact f2
  have f3 : s2 3 = .pointer (some ⟨gE, 0, none⟩) := by subst hs; exact f3
  clear hs
  show Code.wp _ _ _ (AT 8 _ s2) w1
  apply wp_seq
  apply wp_region
  show wpOps _ _ _ [0, 1, 2, 3, 4] _ _
  refine wpB_val (w' := w1) (v := v) rfl rfl rfl (by show Sem.run Try.prog (pure (Next.value (s2 0))) w1 = _; rw [f0]; rfl) ?_
  refine wpB_call (f := 77) (args := #[v]) (w' := w1) rfl rfl rfl (by kernel_rfl) (Read_spec w1 v l hl (hr.mono hU1)) ?_
  rintro _ w2 ⟨g, hb, rfl, hI, -⟩
  have hO2 := hO1.ext hI.mid
  refine wpB_both (f := 92) (args := #[.pointer (some ⟨g, 0, none⟩)]) (w' := w2) rfl rfl rfl (by kernel_rfl) (read_spec hI) ?_ ?_ ?_
  · rintro w'' (⟨_, _, _, _, _, h, _⟩ | ⟨_, h, _⟩) <;> cases h
  · -- a record
    rintro u w3 (⟨hre, vt, vd, ht, hd, he, r1, r2, r3, r4, r5⟩ | ⟨_, h, _⟩)
    · injection he with he
      subst he
      have hU3 := hU1.trans r5
      have hO3 : Owns w3 [errBlk gE 0, reBlk gR re0] := hO1.ext r5
      have hsz : ∀ p ∈ ht ++ hd, gE < p.1 ∧ gR < p.1 := fun p hp => by
        have := r3 p hp
        have h1 := hO1.lt (p := errBlk gE 0) (by simp)
        have h2 := hO1.lt (p := reBlk gR re0) (by simp)
        exact ⟨by simp only [errBlk] at h1; omega, by simp only [reBlk] at h2; omega⟩
      have hst := run_storeN (P := Try.prog) (w := w3) (t := 41) (g := gR) (off := 0) (vs := reV (gAll l).1 vt vd) (by rw [sz41]; rfl) (hO3.at_ 1 rfl) (by simp [reV]) (reV_one _ (RowH.one r1).1 (RowH.one r2).1)
      refine wpB_skip rfl rfl rfl (by
        show (sStore 41 (upd (upd (upd s2 5 v) 6 (.pointer (some ⟨g, 0, none⟩))) 7 (.agg (reV (gAll l).1 vt vd).toArray) 2) (.agg (reV (gAll l).1 vt vd).toArray)).run Try.prog w3 = _
        rw [show upd (upd (upd s2 5 v) 6 (.pointer (some ⟨g, 0, none⟩))) 7 (.agg (reV (gAll l).1 vt vd).toArray) 2 = s2 2 from rfl, f2]; exact hst) ?_
      have hU4 := hU3.then_ (Upd.setRow w3 gR (List.take 0 (reV re0 nilS nilS).toArray.toList ++ reV (gAll l).1 vt vd ++ List.drop (0 + (reV (gAll l).1 vt vd).length) (reV re0 nilS nilS).toArray.toList).toArray) fun x hx => by simp at hx; subst hx; exact .inr hR
      have hO4 := hO3.setRow 1 (g := gR) rfl (List.take 0 (reV re0 nilS nilS).toArray.toList ++ reV (gAll l).1 vt vd ++ List.drop (0 + (reV (gAll l).1 vt vd).length) (reV re0 nilS nilS).toArray.toList).toArray
      have hO4 : Owns _ [errBlk gE 0, (gR, reO (gAll l).1 vt vd)] := hO4
      generalize hw4 : w3.setRow gR _ = w4 at hU4 hO4 ⊢
      have hU34 : Upd w3 w4 [gR] := by subst hw4; exact Upd.setRow _ _ _
      have hst2 := run_sStore1 (P := Try.prog) (w := w4) (t := 24) (a := ⟨gE, 0, none⟩) (v := .int .i64 0) sz24 rfl (cell_at (hO4.at_ 0 rfl)) (frozen_at (hO4.at_ 0 rfl) (.inr (Nat.zero_le _)))
      refine wpB_skip rfl rfl rfl (by
        show (sStore 24 (upd (upd (upd s2 5 v) 6 (.pointer (some ⟨g, 0, none⟩))) 7 (.agg (reV (gAll l).1 vt vd).toArray) 3) (.int .i64 0)).run Try.prog w4 = _
        rw [show upd (upd (upd s2 5 v) 6 (.pointer (some ⟨g, 0, none⟩))) 7 (.agg (reV (gAll l).1 vt vd).toArray) 3 = s2 3 from rfl, f3]; exact hst2) ?_
      have hO5 := hO4.setCell 0 (g := gE) (off := 0) rfl (.int .i64 0)
      have hU45 : Upd w4 (w4.setCell ⟨gE, 0, none⟩ (.int .i64 0)) [gE] := Upd.setCell _ _ _
      generalize w4.setCell ⟨gE, 0, none⟩ (.int .i64 0) = w5 at hO5 hU45 ⊢
      have hO5 : Owns w5 [errBlk gE 0, (gR, reO (gAll l).1 vt vd)] := hO5
      have hU5 : Upd W w5 [] := hU4.then_ hU45 fun x hx => by simp at hx; subst hx; exact .inr hE
      have hrows : Owns w5 (ht ++ hd) := by
        have h4 := Owns.apart r4 hU34 fun p hp => by have := (hsz p hp).2; simp; omega
        exact Owns.apart h4 hU45 fun p hp => by have := (hsz p hp).1; simp; omega
      apply wpO_nil
      apply wp_ret
      generalize hs : upd (upd (upd s2 5 v) 6 (.pointer (some ⟨g, 0, none⟩))) 7 (.agg (reV (gAll l).1 vt vd).toArray) = s3
      have f2 : s3 2 = .pointer (some ⟨gR, 0, none⟩) := by subst hs; exact f2
      have f3 : s3 3 = .pointer (some ⟨gE, 0, none⟩) := by subst hs; exact f3
      show Leaves Try.prog Try.f81 (AT 8 [] s3).tmps (DecR W l) [{ target := .fn (.func 91) #[.pointer (some ⟨gR, 0, none⟩), .pointer (some ⟨gE, 0, none⟩)], args := #[] }] .returning w5
      refine leaves_cons (f := 91) (args := #[.pointer (some ⟨gR, 0, none⟩), .pointer (some ⟨gE, 0, none⟩)]) (by simp) (by kernel_rfl) ?_
      refine (catch_idle gR gE w5).mono ?_
      rintro e u' w6 ⟨⟨x, rfl⟩, rfl, hU6⟩
      have hO6 := hO5.ext hU6
      have hd2 : decR l = ((gAll l).1, 0) := by unfold decR; rw [if_pos hre]
      refine ⟨_, leave_dec f2 f3 (hO6.at_ 1 rfl) (hO6.at_ 0 rfl), _, _, rfl, by rw [hd2], ?_⟩
      rw [hd2]
      exact ⟨vt, vd, ht, hd, rfl, r1, r2, fun p hp => Nat.le_trans hU1.size (r3 p hp), hrows.ext hU6, hU5.trans hU6⟩
    · cases h
  · -- none
    rintro c w3 (⟨_, _, _, _, _, h, _⟩ | ⟨hre, he, r5⟩)
    · cases h
    injection he with he
    subst he
    have hU3 := hU1.trans r5
    have hO3 : Owns w3 [reBlk gR re0, errBlk gE 0] := (hO1.ext r5).perm (List.Perm.swap _ _ _)
    generalize hs : upd (upd s2 5 v) 6 (.pointer (some ⟨g, 0, none⟩)) = s3
    have f2 : s3 2 = .pointer (some ⟨gR, 0, none⟩) := by subst hs; exact f2
    have f3 : s3 3 = .pointer (some ⟨gE, 0, none⟩) := by subst hs; exact f3
    show Leaves Try.prog Try.f81 (AT 8 [] s3).tmps (DecR W l) [{ target := .fn (.func 91) #[.pointer (some ⟨gR, 0, none⟩), .pointer (some ⟨gE, 0, none⟩)], args := #[] }] (.panicking faultC) w3
    refine leaves_cons (f := 91) (args := #[.pointer (some ⟨gR, 0, none⟩), .pointer (some ⟨gE, 0, none⟩)]) (by simp) (by kernel_rfl) ?_
    refine (catch_fault (W := W) gR gE 0 re0 [] w3 hO3 hU3 (.inr hR) (.inr hE)).mono ?_
    rintro e u' w6 ⟨⟨x, rfl⟩, rfl, hU6, hO6⟩
    have hd2 : decR l = (re0, 5) := by unfold decR; rw [if_neg hre]
    show Leaves Try.prog Try.f81 (AT 8 [] s3).tmps (DecR W l) [] .returning w6
    refine ⟨_, leave_dec f2 f3 (hO6.at_ 0 rfl) (hO6.at_ 1 rfl), _, _, rfl, by rw [hd2], ?_⟩
    rw [hd2]
    exact NewRe.zero hU6
theorem Decode_spec (W : World) (v : Value) (l : List UInt8) (hl : l.length ≤ 140737488355000) (hr : Rd W 1 v l.length (bytesV l)) : CallsR Try.prog 81 #[v] W fun u w' => ∃ x, u = .tuple #[x, .int .i64 ((decR l).2 : Nat)] ∧ NewRe W w' x (decR l).1 :=
  Calls.mono (Decode_calls W v l hl hr) fun e w' ⟨u, x, h1, h2, h3⟩ => ⟨u, h1, x, h2, h3⟩
end Go.Proofs.Ytplpjikcgheiiaa.Rec

/- Unframe. -/
namespace Go.Proofs.Ytplpjikcgheiiaa.Rec
open Go Go.Proofs.Ytplpjikcgheiiaa Go.Proofs.Ytplpjikcgheiiaa.Enc Xf Go.RowKit
set_option linter.unusedVariables false
set_option linter.unusedSimpArgs false
set_option maxRecDepth 100000

/-- what bytes are as a frame: the record, how many bytes it has, the error -/
noncomputable def unfR (l : List UInt8) : Re × Nat × Nat :=
  if l.length < 2 then (re0, 0, 4) else if l.length < leVal (l.take 2) + 6 then (re0, 0, 4) else
  if (Crc.openL (l.take (leVal (l.take 2) + 6))).2 ≠ 0 then (re0, 0, 6) else
  if (decR ((Crc.openL (l.take (leVal (l.take 2) + 6))).1.drop 2)).2 ≠ 0 then (re0, 0, 5) else
  ((decR ((Crc.openL (l.take (leVal (l.take 2) + 6))).1.drop 2)).1, leVal (l.take 2) + 6, 0)
theorem build_re0 (w : World) : (sBuild 41 []).run Try.prog w = .ok (.value (.agg (reV re0 nilS nilS).toArray)) w := by kernel_rfl
theorem decR_err (l : List UInt8) : (decR l).2 = 0 ∨ decR l = (re0, 5) := by unfold decR; split <;> simp
theorem NewRe.cells {W w : World} {v : Value} {r : Re} (h : NewRe W w v r) : ∃ vt vd, v = .agg (reV r vt vd).toArray ∧ vt.oneCell' = true ∧ vd.oneCell' = true := by
  obtain ⟨vt, vd, _, _, h0, h1, h2, _⟩ := h
  exact ⟨vt, vd, h0, (RowH.one h1).1, (RowH.one h2).1⟩
/-- an answer that is no record -/
theorem none_tail {W w : World} {g : Nat} {h : List (Nat × Obj)} (hU : Upd W w []) (hO : Owns w (reBlk g re0 :: h)) (hg : W.heap.size ≤ g) {Q : Value → World → Prop} {k : Value → Value} (hQ : ∀ w', Upd W w' [] → Q (k (.agg (reV re0 nilS nilS).toArray)) w') :
    (std Try.prog).step (sBuild 41 []) w fun v w => (std Try.prog).step (sStore 41 (.pointer (some ⟨g, 0, none⟩)) v) w fun _ w => (std Try.prog).loadR 41 (.pointer (some ⟨g, 0, none⟩)) w fun r => Q (k r) w := by
  rw [step_run (build_re0 w)]
  refine st_re hU hO 0 rfl rfl rfl (.inr hg) ?_
  intro w' hU' hO'
  exact st_loadR (run_loadVarN (cs := reV re0 nilS nilS) ag41 (by rw [sz41]; rfl) (cells_read (hO'.at_ 0 rfl))) (hQ w' hU')

theorem Unframe_spec (W : World) (v : Value) (l : List UInt8) (hl : l.length ≤ 140737488300000) (hr : Rd W 1 v l.length (bytesV l)) : CallsR Try.prog 66 #[v] W fun u w' => ∃ x, u = .tuple #[x, .int .i64 ((unfR l).2.1 : Nat), .int .i64 ((unfR l).2.2 : Nat)] ∧ NewRe W w' x (unfR l).1 := by
  apply rec_Unframe_sound
  unfold rec_Unframe_x
  refine st_alloc ze_re (Upd.refl W []) (Owns.nil W) ?_
  intro g w1 hU1 hO1 hg
  have hO1 : Owns w1 [reBlk g re0] := hO1
  refine st_call (Read_spec w1 v l (by omega) (hr.mono hU1)) ?_
  rintro _ w2 ⟨gd, hb, rfl, hI, -⟩
  refine st_call (gTwo (s := (l, 0)) hI) ?_
  rintro _ w3 ⟨rfl, hk, hI⟩
  simp (disch := omega) only [PX, w64]
  refine st_call (rErr_spec hI) ?_
  rintro _ w4 ⟨rfl, rfl⟩
  have hU4 := hU1.trans hI.mid
  have hO4 := hO1.ext hI.mid
  have endT : unfR l = (re0, 0, 4) → ∀ w', Upd W w' [] → ∃ x, Value.tuple #[.agg (reV re0 nilS nilS).toArray, .int .i64 0, .int .i64 4] = .tuple #[x, .int .i64 ((unfR l).2.1 : Nat), .int .i64 ((unfR l).2.2 : Nat)] ∧ NewRe W w' x (unfR l).1 := fun h w' hU => by rw [h]; exact ⟨_, rfl, NewRe.zero hU⟩
  simp (disch := omega) only [PX, BX]
  by_cases h2 : l.length < 2
  · have hu : unfR l = (re0, 0, 4) := by unfold unfR; rw [if_pos h2]
    have ht : (tk (l, 0) 2).2.2 = 4 := by unfold tk takeR; rw [if_neg (by simp), if_pos h2]
    rw [ht]
    exact ⟨fun _ => none_tail (k := fun r => .tuple #[r, .int .i64 0, .int .i64 4]) (Q := fun u w' => ∃ x, u = .tuple #[x, .int .i64 ((unfR l).2.1 : Nat), .int .i64 ((unfR l).2.2 : Nat)] ∧ NewRe W w' x (unfR l).1) hU4 hO4 hg fun w' hU => endT hu w' hU, fun h => absurd (by decide) h⟩
  have ht : tk (l, 0) 2 = (leVal (l.take 2), (l.drop 2, 0)) := by unfold tk takeR; rw [if_neg (by simp), if_neg h2]
  rw [ht] at hk ⊢
  simp only at hk ⊢
  refine ⟨fun h => absurd rfl h, fun _ => ?_⟩
  obtain ⟨A, c, rfl, hc⟩ := hr
  have hr : Rd W 1 (.slice A l.length c) l.length (bytesV l) := ⟨A, c, rfl, hc⟩
  simp (disch := omega) only [PX, BX]
  generalize hn : leVal (l.take 2) = n at hk ⊢
  refine ⟨fun hlt => ?_, fun hge => ?_⟩
  · exact none_tail (k := fun r => .tuple #[r, .int .i64 0, .int .i64 4]) (Q := fun u w' => ∃ x, u = .tuple #[x, .int .i64 ((unfR l).2.1 : Nat), .int .i64 ((unfR l).2.2 : Nat)] ∧ NewRe W w' x (unfR l).1) hU4 hO4 hg fun w' hU => endT (by unfold unfR; rw [if_neg h2, hn, if_pos (by omega)]) w' hU
  have hlt : ¬ l.length < n + 6 := by omega
  have hk6 : ((n : Int) + 6).toNat = n + 6 := by omega
  rw [step_run (run_sliceTo u51 sz5 (by omega) (by omega)), hk6]
  have hrt := (hr.mono hU4).take (i := n + 6) (by omega)
  rw [Nat.mul_one, show (bytesV l).take (n + 6) = bytesV (l.take (n + 6)) by simp [bytesV, List.map_take]] at hrt
  have hlen : (l.take (n + 6)).length = n + 6 := by rw [List.length_take]; omega
  refine st_call (Crc.Open_spec w4 _ (l.take (n + 6)) (by omega) (by rw [hlen]; exact hrt)) ?_
  rintro _ w5 ⟨u, rfl, hN⟩
  have hN : NewB w4 w5 u (Crc.openL (l.take (n + 6))).1 := hN
  have hU5 := hU4.trans (NewB.upd hN)
  have hO5 := hO4.ext (NewB.upd hN)
  have hop : Crc.openL (l.take (n + 6)) = ([], 6) ∨ ((Crc.openL (l.take (n + 6))).2 = 0 ∧ (Crc.openL (l.take (n + 6))).1.length = n + 2) := by
    unfold Crc.openL
    rw [if_neg (by omega)]
    split
    · right; refine ⟨rfl, ?_⟩; simp only; rw [List.length_take]; omega
    · left; rfl
  simp only [PX, BX]
  generalize hX : Crc.openL (l.take (n + 6)) = X at hN hop ⊢
  have hunf : unfR l = if X.2 ≠ 0 then (re0, 0, 6) else if (decR (X.1.drop 2)).2 ≠ 0 then (re0, 0, 5) else ((decR (X.1.drop 2)).1, n + 6, 0) := by
    unfold unfR
    rw [if_neg h2, hn, if_neg hlt, hX]
  refine ⟨fun hne => ?_, fun heq => ?_⟩
  · have h6 : X = ([], 6) := hop.resolve_right fun h => hne (by rw [h.1]; rfl)
    subst h6
    refine none_tail (k := fun r => .tuple #[r, .int .i64 0, .int .i64 ((6 : Nat) : Int)]) (Q := fun u w' => ∃ x, u = .tuple #[x, .int .i64 ((unfR l).2.1 : Nat), .int .i64 ((unfR l).2.2 : Nat)] ∧ NewRe W w' x (unfR l).1) hU5 hO5 hg fun w' hU => ?_
    rw [hunf, if_pos (by simp)]
    exact ⟨_, rfl, NewRe.zero hU⟩
  have hX0 : X.2 = 0 := by
    rcases hop with h | h
    · rw [h] at heq; exact absurd (by decide) heq
    · exact h.1
  have hXl : X.1.length = n + 2 := by
    rcases hop with h | h
    · rw [h] at hX0; cases hX0
    · exact h.2
  rw [if_neg (by rw [hX0]; simp)] at hunf
  have hxr := NewB.rd hN
  obtain ⟨Ax, cx, rfl, hcx, _⟩ := hxr
  have hxr := NewB.rd hN
  rw [step_run (run_sliceFrom (i := (2 : Int)) u51 sz5 (by omega) (by omega) hcx)]
  have hxd := hxr.drop (i := 2) (by omega)
  rw [Nat.mul_one, show (bytesV X.1).drop 2 = bytesV (X.1.drop 2) by simp [bytesV, List.map_drop]] at hxd
  refine st_call (Decode_spec w5 _ (X.1.drop 2) (by rw [List.length_drop]; omega) (by rw [List.length_drop]; exact hxd)) ?_
  rintro _ w6 ⟨x, rfl, hNr⟩
  have hU6 := hU5.trans (NewRe.upd hNr)
  have hO6 := hO5.ext (NewRe.upd hNr)
  simp only [PX, BX]
  obtain ⟨xt, xd, rfl, ht1, hd1⟩ := NewRe.cells hNr
  refine st_alloc ze_re (Upd.refl w6 []) (Owns.nil w6) ?_
  intro g9 w7 hU7 hO7 hg9
  have hO7 : Owns w7 [reBlk g9 re0] := hO7
  refine st_re hU7 hO7 0 rfl ht1 hd1 (.inr hg9) ?_
  intro w8 hU8 hO8
  have hU68 := hU6.trans hU8
  have hO68 := hO6.ext hU8
  have hO8 : Owns w8 [(g9, reO (decR (X.1.drop 2)).1 xt xd)] := hO8
  refine ⟨fun hne => ?_, fun heq2 => ?_⟩
  · have h5 : decR (X.1.drop 2) = (re0, 5) := (decR_err _).resolve_left fun h => hne (by rw [h]; rfl)
    rw [h5] at hunf ⊢
    refine none_tail (k := fun r => .tuple #[r, .int .i64 0, .int .i64 ((5 : Nat) : Int)]) (Q := fun u w' => ∃ x, u = .tuple #[x, .int .i64 ((unfR l).2.1 : Nat), .int .i64 ((unfR l).2.2 : Nat)] ∧ NewRe W w' x (unfR l).1) hU68 hO68 hg fun w' hU => ?_
    rw [hunf, if_pos (by simp)]
    exact ⟨_, rfl, NewRe.zero hU⟩
  have h0 : (decR (X.1.drop 2)).2 = 0 := by
    rcases decR_err (X.1.drop 2) with h | h
    · exact h
    · rw [h] at heq2; exact absurd (by decide) heq2
  rw [if_neg (by rw [h0]; simp)] at hunf
  rw [step_run (run_re (hO8.at_ 0 rfl))]
  obtain ⟨yt, yd, ht, hd, he, r1, r2, r3, r4, r5⟩ := hNr
  have hyt : yt = xt ∧ yd = xd := by
    injection he with he
    have he := congrArg Array.toList he
    simp only [List.toList_toArray, reV, List.cons.injEq, and_true, true_and] at he
    exact ⟨he.1.symm, he.2.symm⟩
  obtain ⟨rfl, rfl⟩ := hyt
  have hgl : g < w5.heap.size := hO5.lt (p := reBlk g re0) (by simp)
  refine st_re (W := w8) (ks := [g]) (Upd.refl w8 [g]) hO68 0 rfl ht1 hd1 (.inl (by simp)) ?_
  intro w9 hU9 hO9
  have hU89 : Upd W w9 [] := hU68.then_ hU9 fun x hx => by simp at hx; subst hx; exact .inr hg
  refine st_loadR (run_loadVarN (cs := reV (decR (X.1.drop 2)).1 yt yd) ag41 (by rw [sz41]; rfl) (cells_read (hO9.at_ 0 rfl))) ?_
  rw [hunf]
  refine ⟨_, by rw [show ((n + 6 : Nat) : Int) = (n : Int) + 6 by omega]; rfl, yt, yd, ht, hd, rfl, r1, r2, fun p hp => ?_, ?_, hU89⟩
  · exact Nat.le_trans hU5.size (r3 p hp)
  · refine Owns.apart (r4.ext hU8) hU9 fun p hp => ?_
    have := r3 p hp
    simp; omega
end Go.Proofs.Ytplpjikcgheiiaa.Rec

/- What is framed is unframed; the example. -/
namespace Go.Proofs.Ytplpjikcgheiiaa.Rec
open Go Go.Proofs.Ytplpjikcgheiiaa Go.Proofs.Ytplpjikcgheiiaa.Enc Xf Go.RowKit
set_option linter.unusedVariables false
set_option linter.unusedSimpArgs false
set_option maxRecDepth 100000

theorem openL_seal (x : List UInt8) : Crc.openL (sealB x) = (x, 0) := by
  have hl : (sealB x).length - 4 = x.length := by rw [sealB_len]; omega
  unfold Crc.openL
  rw [if_neg (by rw [sealB_len]; omega), hl]
  have h1 : (sealB x).take x.length = x := List.take_left' rfl
  have h2 : (sealB x).drop x.length = Crc.le4 (Crc.more 0 x) := List.drop_left' rfl
  rw [h1, h2, if_pos rfl]
theorem frB_head {r : Re} (h : okP r) (rest : List UInt8) : (frB r ++ rest).take 2 = leB (reB r).length 2 := by
  unfold frB sealB
  rw [List.append_assoc, List.append_assoc]
  exact List.take_left' (leB_len _ _)
theorem unfR_back {r : Re} (h : okP r) (rest : List UInt8) : unfR (frB r ++ rest) = (r, (frB r).length, 0) := by
  have hl := reB_len h
  have hv : leVal ((frB r ++ rest).take 2) = (reB r).length := by rw [frB_head h]; rw [leVal_leB]; exact Nat.mod_eq_of_lt (by omega)
  have hn : (reB r).length + 6 = (frB r).length := (frB_len r).symm
  unfold unfR
  rw [hv, hn, if_neg (by rw [List.length_append, frB_len]; omega), if_neg (by rw [List.length_append]; omega)]
  have ht : (frB r ++ rest).take (frB r).length = frB r := List.take_left' rfl
  have ho : Crc.openL (frB r) = (leB (reB r).length 2 ++ reB r, 0) := openL_seal _
  rw [ht, ho]
  have hd : (leB (reB r).length 2 ++ reB r).drop 2 = reB r := List.drop_left' (leB_len _ _)
  rw [if_neg (by simp), hd, (decR_back h).2, if_neg (by simp)]
theorem unfR_cut {r : Re} (h : okP r) (k : Nat) (hk : k < (frB r).length) : unfR ((frB r).take k) = (re0, 0, 4) := by
  have hl := reB_len h
  have hf := frB_len r
  have hlen : ((frB r).take k).length = k := by rw [List.length_take]; omega
  unfold unfR
  by_cases h2 : k < 2
  · rw [if_pos (by omega)]
  rw [if_neg (by omega)]
  have hv : ((frB r).take k).take 2 = leB (reB r).length 2 := by
    have := frB_head h []
    rw [List.append_nil] at this
    rw [List.take_take, Nat.min_eq_left (by omega)]; exact this
  rw [hv, leVal_leB, Nat.mod_eq_of_lt (show (reB r).length < 256 ^ 2 by omega), if_pos (by omega)]

def exR : Re := { re0 with kind := 3, lsn := 33, txn := 7, prev := 17 }
theorem exR_ok : okP exR := by
  refine ⟨by decide, by decide, by decide, by decide, by decide, ?_, ?_, ?_, ?_, ?_⟩
  · rw [if_neg (by decide)]; exact ⟨rfl, rfl, rfl, rfl, rfl⟩
  · rw [if_neg (by decide)]; decide
  · intro _; exact ⟨rfl, rfl⟩
  · intro _; rfl
  · exact ⟨by decide, by decide, fun i hi => by exact absurd hi (by simp [exR, re0]), fun i hi => by exact absurd hi (by simp [exR, re0])⟩
theorem exR_B : reB exR = [3, 33, 0, 0, 0, 0, 0, 0, 0, 7, 0, 0, 0, 17, 0, 0, 0, 0, 0, 0, 0] := by decide

theorem st_cast {w : World} {l : List UInt8} {K : Value → World → Prop} (hk : ∀ v w', Upd w w' [] → Rd w' 1 v l.length (bytesV l) → K v w') : (std Try.prog).step (sConv 9 51 (.string ⟨l.toArray⟩)) w K := by
  refine st_bytes u9 u51 u5 (Upd.refl w []) (Owns.nil w) ?_
  intro g cap cs m w' hU hO hg _ hcap htake hsz
  rw [size_mk] at hcap htake hsz ⊢
  exact hk _ w' hU (rd_row (hO.at_ 0 rfl) (bytesV_len l) hcap htake)
end Go.Proofs.Ytplpjikcgheiiaa.Rec

/- The document's reading of a record. -/
namespace Go.Proofs.Ytplpjikcgheiiaa.Rec
open Go Go.Proofs.Ytplpjikcgheiiaa Go.Proofs.Ytplpjikcgheiiaa.Enc Xf Go.RowKit
set_option linter.unusedVariables false
set_option linter.unusedSimpArgs false
set_option maxRecDepth 100000

def Qs (B : List UInt8) (s : Rs) (a e : Nat) : Prop := a ≤ B.length ∧ s = (B.drop a, e)
section
variable {B : List UInt8} {s : Rs} {a e : Nat} {w W : World} {h : List (Nat × Obj)} {K : Value → World → Prop}
/-- a number is taken off -/
theorem q_step (hB : B.length ≤ 140737488355328) (hs : Qs B s a e) (n : Nat) (hn : n ≤ 8) (hU : Upd W w []) (hO : Owns w h) (i : Nat) {g : Nat} (hi : h[i]? = some (g, qO B a e)) (hg : W.heap.size ≤ g)
    (hk : ∀ w' a' e', Qs B (tk s n).2 a' e' → Upd W w' [] → Owns w' (h.set i (g, qO B a' e')) → K (.int .u64 ((tk s n).1 : Nat)) w') :
    (std Try.prog).step (sLoad 155 (.pointer (some ⟨g, 0, none⟩))) w fun v w => (std Try.prog).calls 85 #[v, .int .i64 (n : Nat)] w fun u w => (std Try.prog).step (sExtract u 0) w fun x w => (std Try.prog).step (sExtract u 1) w fun y w => (std Try.prog).step (sStore 155 (.pointer (some ⟨g, 0, none⟩)) x) w fun _ w => K y w := by
  obtain ⟨ha, rfl⟩ := hs
  rw [ld155 (hO.at_ i hi)]
  refine st_call (refTake_spec w B a e n ha hB hn) ?_
  rintro _ w2 ⟨rfl, hU2⟩
  rw [px_ext20, px_ext21]
  refine st_q (hU.trans hU2) (hO.ext hU2) i hi hg ?_
  intro w3 hU3 hO3 _
  exact hk w3 _ _ ⟨takeQ_le ha, by show (takeR (B.drop a) e n).2 = _; exact takeQ_eq B a e n⟩ hU3 hO3
/-- a text is taken off -/
theorem q_text (hB : B.length ≤ 140737488355328) (hs : Qs B s a e) (m : Int) (hU : Upd W w []) (hO : Owns w h) (i : Nat) {g : Nat} (hi : h[i]? = some (g, qO B a e)) (hg : W.heap.size ≤ g)
    (hk : ∀ w' a' e', Qs B (tt s m).2 a' e' → Upd W w' [] → Owns w' (h.set i (g, qO B a' e')) → K (.string ⟨(tt s m).1.toArray⟩) w') :
    (std Try.prog).step (sLoad 155 (.pointer (some ⟨g, 0, none⟩))) w fun v w => (std Try.prog).calls 100 #[v, .int .i64 m] w fun u w => (std Try.prog).step (sExtract u 0) w fun x w => (std Try.prog).step (sExtract u 1) w fun y w => (std Try.prog).step (sStore 155 (.pointer (some ⟨g, 0, none⟩)) x) w fun _ w => K y w := by
  obtain ⟨ha, rfl⟩ := hs
  rw [ld155 (hO.at_ i hi)]
  refine st_call (refTakeText_spec w B a e m ha hB) ?_
  rintro _ w2 ⟨rfl, hU2⟩
  rw [px_ext20, px_ext21]
  refine st_q (hU.trans hU2) (hO.ext hU2) i hi hg ?_
  intro w3 hU3 hO3 _
  exact hk w3 _ _ ⟨textQ_le ha, by show (textR (B.drop a) e m).2 = _; exact textQ_eq B a e m⟩ hU3 hO3
end
theorem ze_q : (Try.prog.info? 155).bind (·.zero) = some (.agg #[.string ⟨#[]⟩, .int .i64 0, .int .i64 0]) := ze155
theorem q0_eq : (qO [] 0 0) = .cells #[.string ⟨#[]⟩, .int .i64 0, .int .i64 0] 155 (0, 0) := rfl

/-- the end of a function that answers a reader and a record -/
theorem q_tail {W w : World} {B : List UInt8} {a e g2 g3 g4 g5 : Nat} {r : Re} {vt vd : Value} {F : List (Nat × Obj)} {Q : Value → World → Prop} (hU : Upd W w []) (hO : Owns w ((g5, reO re0 nilS nilS) :: (g4, qO [] 0 0) :: (g3, reO r vt vd) :: (g2, qO B a e) :: F)) (ht : vt.oneCell' = true) (hd : vd.oneCell' = true) (h4 : W.heap.size ≤ g4) (h5 : W.heap.size ≤ g5)
    (hQ : ∀ w', Upd W w' [] → Owns w' F → Q (.tuple #[qV B a e, .agg (reV r vt vd).toArray]) w') :
    (std Try.prog).draw w fun S_1 w => (std Try.prog).stepS S_1 (sLoad 155 (.pointer (some ⟨g2, 0, none⟩))) fun v45 => (std Try.prog).stepS S_1 (sLoad 41 (.pointer (some ⟨g3, 0, none⟩))) fun v46 => (std Try.prog).step (sStore 155 (.pointer (some ⟨g4, 0, none⟩)) v45) w fun _ w => (std Try.prog).keepS S_1 w fun S_2 => (std Try.prog).step (sStore 41 (.pointer (some ⟨g5, 0, none⟩)) v46) w fun _ w => (std Try.prog).keepT w fun S_3 => (std Try.prog).loadR 155 (.pointer (some ⟨g4, 0, none⟩)) w fun r_1 => (std Try.prog).loadR 41 (.pointer (some ⟨g5, 0, none⟩)) w fun r_2 => Q (.tuple #[r_1, r_2]) w := by
  have hO1 := hO.ext (Upd.drew w [])
  let S : World → Prop := fun w' => w'.heap[g2]? = some (qO B a e) ∧ w'.heap[g3]? = some (reO r vt vd)
  have hS : S w.drew := ⟨hO1.at_ 3 rfl, hO1.at_ 2 rfl⟩
  have hne : ∃ w', S w' := ⟨_, hS⟩
  refine st_draw S hS ?_
  rw [stepS_run hne fun w' h => run_sLoad (run_loadVarN (cs := [.string ⟨B.toArray⟩, .int .i64 (a : Nat), .int .i64 (e : Nat)]) ag155 (by rw [sz155]; rfl) (cells_read h.1)), stepS_run hne fun w' h => run_re h.2]
  refine st_q (hU.trans (Upd.drew w [])) hO1 1 rfl h4 ?_
  intro w2 hU2 hO2 _
  refine st_same ⟨hO2.at_ 3 rfl, hO2.at_ 2 rfl⟩ ?_
  refine st_re (r0 := re0) (vt0 := nilS) (vd0 := nilS) hU2 hO2 0 rfl ht hd (.inr h5) ?_
  intro w3 hU3 hO3
  refine st_keepT (fun _ => True) trivial ?_
  refine ldr155 (B := B) (a := a) (e := e) (hO3.at_ 1 rfl) ?_
  refine st_loadR (run_loadVarN (cs := reV r vt vd) ag41 (by rw [sz41]; rfl) (cells_read (hO3.at_ 0 rfl))) ?_
  exact hQ w3 hU3 (hO3.sub (.cons _ (.cons _ (.cons _ (.cons _ (List.Sublist.refl _))))))

theorem change_spec (w : World) (B : List UInt8) (a e : Nat) (s : Rs) (r : Re) (hB : B.length ≤ 140737488355328) (hs : Qs B s a e) (hc : chgP r.kind) : CallsR Try.prog 86 #[qV B a e, .agg (reV r nilS nilS).toArray] w fun u w' => ∃ a' e', Qs B (gChg r s).2 a' e' ∧ u = .tuple #[qV B a' e', .agg (reV (gChg r s).1 nilS nilS).toArray] ∧ Upd w w' [] := by
  have e0 : (gChg r s) = ({ r with page := ((tk s 2).1 : Nat), ak := ((tk (tk s 2).2 1).1 : Nat), key := (tt (tk (tk s 2).2 1).2 16).1, old := (tt (tt (tk (tk s 2).2 1).2 16).2 32).1, new := (tt (tt (tt (tk (tk s 2).2 1).2 16).2 32).2 32).1 }, (tt (tt (tt (tk (tk s 2).2 1).2 16).2 32).2 32).2) := by
    unfold gChg; rw [if_pos hc]
  rw [e0]
  apply flotillaref05_change_sound
  unfold flotillaref05_change_x
  refine st_box (Upd.refl w []) (Owns.nil w) ?_
  intro g2 w1 hU1 hO1 hg2
  refine st_box hU1 hO1 ?_
  intro g3 w2 hU2 hO2 hg3
  refine st_alloc ze_q hU2 hO2 ?_
  intro g4 w3 hU3 hO3 hg4
  refine st_alloc ze_re hU3 hO3 ?_
  intro g5 w4 hU4 hO4 hg5
  have hO4 : Owns w4 [(g5, reO re0 nilS nilS), (g4, qO [] 0 0), (g3, reO r nilS nilS), (g2, qO B a e)] := hO4
  refine q_step hB hs 2 (by omega) hU4 hO4 3 rfl hg2 ?_
  intro w5 a5 e5 hs5 hU5 hO5
  have t1 := tk_lt s 2
  simp (disch := omega) only [PX, add_mk, Nat.reduceAdd, w64]
  refine st_storeB sz3 rfl hU5 hO5 2 rfl (by simp [reV]) (.inr (Nat.zero_le _)) (.inr hg3) ?_
  intro w6 hU6 hO6
  have hO6 : Owns w6 [(g5, reO re0 nilS nilS), (g4, qO [] 0 0), (g3, reO { r with page := ((tk s 2).1 : Nat) } nilS nilS), (g2, qO B a5 e5)] := hO6
  refine q_step hB hs5 1 (by omega) hU6 hO6 3 rfl hg2 ?_
  intro w7 a7 e7 hs7 hU7 hO7
  have t2 := tk_lt (tk s 2).2 1
  simp (disch := omega) only [PX, add_mk, Nat.reduceAdd, w64]
  refine st_storeB sz35 rfl hU7 hO7 2 rfl (by simp [reV]) (.inr (Nat.zero_le _)) (.inr hg3) ?_
  intro w8 hU8 hO8
  have hO8 : Owns w8 [(g5, reO re0 nilS nilS), (g4, qO [] 0 0), (g3, reO { r with page := ((tk s 2).1 : Nat), ak := ((tk (tk s 2).2 1).1 : Nat) } nilS nilS), (g2, qO B a7 e7)] := hO8
  refine q_text hB hs7 16 hU8 hO8 3 rfl hg2 ?_
  intro w9 a9 e9 hs9 hU9 hO9
  refine st_storeB sz9 rfl hU9 hO9 2 rfl (by simp [reV]) (.inr (Nat.zero_le _)) (.inr hg3) ?_
  intro w10 hU10 hO10
  have hO10 : Owns w10 [(g5, reO re0 nilS nilS), (g4, qO [] 0 0), (g3, reO { r with page := ((tk s 2).1 : Nat), ak := ((tk (tk s 2).2 1).1 : Nat), key := (tt (tk (tk s 2).2 1).2 16).1 } nilS nilS), (g2, qO B a9 e9)] := hO10
  refine q_text hB hs9 32 hU10 hO10 3 rfl hg2 ?_
  intro w11 a11 e11 hs11 hU11 hO11
  refine st_storeB sz9 rfl hU11 hO11 2 rfl (by simp [reV]) (.inr (Nat.zero_le _)) (.inr hg3) ?_
  intro w12 hU12 hO12
  have hO12 : Owns w12 [(g5, reO re0 nilS nilS), (g4, qO [] 0 0), (g3, reO { r with page := ((tk s 2).1 : Nat), ak := ((tk (tk s 2).2 1).1 : Nat), key := (tt (tk (tk s 2).2 1).2 16).1, old := (tt (tt (tk (tk s 2).2 1).2 16).2 32).1 } nilS nilS), (g2, qO B a11 e11)] := hO12
  refine q_text hB hs11 32 hU12 hO12 3 rfl hg2 ?_
  intro w13 a13 e13 hs13 hU13 hO13
  refine st_storeB sz9 rfl hU13 hO13 2 rfl (by simp [reV]) (.inr (Nat.zero_le _)) (.inr hg3) ?_
  intro w14 hU14 hO14
  have hO14 : Owns w14 ((g5, reO re0 nilS nilS) :: (g4, qO [] 0 0) :: (g3, reO { r with page := ((tk s 2).1 : Nat), ak := ((tk (tk s 2).2 1).1 : Nat), key := (tt (tk (tk s 2).2 1).2 16).1, old := (tt (tt (tk (tk s 2).2 1).2 16).2 32).1, new := (tt (tt (tt (tk (tk s 2).2 1).2 16).2 32).2 32).1 } nilS nilS) :: (g2, qO B a13 e13) :: []) := hO14
  refine q_tail (Q := fun u w' => ∃ a' e', Qs B _ a' e' ∧ u = .tuple #[qV B a' e', .agg (reV _ nilS nilS).toArray] ∧ Upd w w' []) hU14 hO14 rfl rfl hg4 hg5 ?_
  intro w' hU' _
  exact ⟨a13, e13, hs13, rfl, hU'⟩
end Go.Proofs.Ytplpjikcgheiiaa.Rec

/- The document's reading of a record: the rows, the whole. -/
namespace Go.Proofs.Ytplpjikcgheiiaa.Rec
open Go Go.Proofs.Ytplpjikcgheiiaa Go.Proofs.Ytplpjikcgheiiaa.Enc Xf Go.RowKit
set_option linter.unusedVariables false
set_option linter.unusedSimpArgs false
set_option maxRecDepth 100000

theorem perm_t {α : Type} (p q r s x : α) (A B : List α) : List.Perm (x :: p :: q :: r :: s :: (A ++ B)) (A ++ (p :: q :: r :: s :: x :: B)) := by
  classical
  refine List.perm_iff_count.2 fun y => ?_
  simp only [List.count_cons, List.count_append, List.count_nil]
  omega
theorem perm_d {α : Type} (p q r s x : α) (A B : List α) : List.Perm (x :: p :: q :: r :: s :: (A ++ B)) (B ++ (p :: q :: r :: s :: x :: A)) := by
  classical
  refine List.perm_iff_count.2 fun y => ?_
  simp only [List.count_cons, List.count_append, List.count_nil]
  omega
theorem perm_t' {α : Type} (p q r s x : α) (A B : List α) : List.Perm (A ++ (p :: q :: r :: s :: x :: B)) (p :: q :: r :: s :: x :: (A ++ B)) := by
  classical
  refine List.perm_iff_count.2 fun y => ?_
  simp only [List.count_cons, List.count_append, List.count_nil]
  omega
theorem perm_d' {α : Type} (p q r s x : α) (A B : List α) : List.Perm (B ++ (p :: q :: r :: s :: x :: A)) (p :: q :: r :: s :: x :: (A ++ B)) := by
  classical
  refine List.perm_iff_count.2 fun y => ?_
  simp only [List.count_cons, List.count_append, List.count_nil]
  omega

/-- rows that are being read -/
def TS (W : World) (B : List UInt8) (g2 g3 g4 g5 : Nat) (r : Re) (s : Rs) (w : World) : Prop :=
  ∃ a e vt vd ht hd, Qs B s a e ∧ RowH 136 3 vt r.ts.length (r.ts.flatMap txV) ht ∧ RowH 138 2 vd r.ds.length (r.ds.flatMap diV) hd ∧ (∀ p ∈ ht ++ hd, W.heap.size ≤ p.1) ∧ Upd W w [] ∧
    Owns w ((g5, reO re0 nilS nilS) :: (g4, qO [] 0 0) :: (g3, reO r vt vd) :: (g2, qO B a e) :: (ht ++ hd))

theorem tables_spec' (W : World) (B : List UInt8) (a e : Nat) (s : Rs) (r : Re) (hB : B.length ≤ 140737488355328) (hs : Qs B s a e) (hc : r.kind = 8) (h0 : r.ts = [] ∧ r.ds = []) : CallsR Try.prog 87 #[qV B a e, .agg (reV r nilS nilS).toArray] W fun u w' => ∃ a' e' x, Qs B (gTab r s).2 a' e' ∧ u = .tuple #[qV B a' e', x] ∧ NewRe W w' x (gTab r s).1 := by
  have e0 : (gTab r s) = ({ r with ts := (many gTx (tk s 1).1 (tk s 1).2).1, ds := (many gDi (tk (many gTx (tk s 1).1 (tk s 1).2).2 1).1 (tk (many gTx (tk s 1).1 (tk s 1).2).2 1).2).1 }, (many gDi (tk (many gTx (tk s 1).1 (tk s 1).2).2 1).1 (tk (many gTx (tk s 1).1 (tk s 1).2).2 1).2).2) := by
    unfold gTab; rw [if_pos hc]
  rw [e0]
  clear e0
  apply flotillaref05_tables_sound
  unfold flotillaref05_tables_x
  refine st_box (Upd.refl W []) (Owns.nil W) ?_
  intro g2 w1 hU1 hO1 hg2
  refine st_box hU1 hO1 ?_
  intro g3 w2 hU2 hO2 hg3
  refine st_alloc ze_q hU2 hO2 ?_
  intro g4 w3 hU3 hO3 hg4
  refine st_alloc ze_re hU3 hO3 ?_
  intro g5 w4 hU4 hO4 hg5
  have hO4 : Owns w4 [(g5, reO re0 nilS nilS), (g4, qO [] 0 0), (g3, reO r nilS nilS), (g2, qO B a e)] := hO4
  refine q_step hB hs 1 (by omega) hU4 hO4 3 rfl hg2 ?_
  intro w5 a5 e5 hs5 hU5 hO5
  have hn := tk_lt s 1
  generalize hN : (tk s 1).1 = n at hn ⊢
  generalize hS1 : (tk s 1).2 = s1 at hs5 ⊢
  have hts : { r with ts := (many gTx 0 s1).1 } = r := by cases r; simp only at h0; simp [many, h0.1]
  refine st_loop (fun vs w' => ∃ i : Nat, i ≤ n ∧ vs.getD 0 undef = .int .u64 (i : Nat) ∧ TS W B g2 g3 g4 g5 { r with ts := (many gTx i s1).1 } (many gTx i s1).2 w') (fun vs _ => n - (intOf (vs.getD 0 undef)).toNat) ⟨0, by omega, rfl, by rw [hts]; exact ⟨a5, e5, nilS, nilS, [], [], hs5, by rw [h0.1]; exact RowH.nil_ _ _, by rw [h0.2]; exact RowH.nil_ _ _, (fun p hp => by cases hp), hU5, hO5⟩⟩ ?_
  clear hts hU5 hO5 hs5
  rintro dv vs w6 - ⟨i, hi, e0, a6, e6, vt, vd, ht, hd, hs6, h1, h2, h3, hU6, hO6⟩
  simp (disch := omega) only [e0, PX, BX]
  have hml := many_len gTx i s1
  refine ⟨fun hlt => ?_, fun hge => ?_⟩
  · generalize hrc : ({ r with ts := (many gTx i s1).1 } : Re) = rc at hO6 h1 h2
    generalize hsc : (many gTx i s1).2 = sc at hs6
    have hrcl : rc.ts.length = i := by rw [← hrc]; exact hml
    refine q_step hB hs6 4 (by omega) hU6 hO6 3 rfl hg2 ?_
    intro w7 a7 e7 hs7 hU7 hO7
    refine q_step hB hs7 1 (by omega) hU7 hO7 3 rfl hg2 ?_
    intro w8 a8 e8 hs8 hU8 hO8
    refine q_step hB hs8 8 (by omega) hU8 hO8 3 rfl hg2 ?_
    intro w9 a9 e9 hs9 hU9 hO9
    have hO9 : Owns w9 ((g5, reO re0 nilS nilS) :: (g4, qO [] 0 0) :: (g3, reO rc vt vd) :: (g2, qO B a9 e9) :: (ht ++ hd)) := hO9
    have t1 := tk_lt sc 4
    have t2 := tk_lt (tk sc 4).2 1
    have c10 : w9.cell? ⟨g3, 10, none⟩ = some vt := (At.of (hO9.at_ 2 rfl)).c10
    simp (disch := first | assumption | omega) only [PX, LX, add_mk, Nat.reduceAdd, w64]
    rw [step_run (build_tx _ _ _ _)]
    generalize htx : (⟨((tk sc 4).1 : Nat), ((tk (tk sc 4).2 1).1 : Nat), (tk (tk (tk sc 4).2 1).2 8).1⟩ : Tx) = tx
    refine st_newRow (row_tx tx) hU9 hO9 ?_
    intro g7 w10 hU10 hO10 hg7
    obtain ⟨inf, hi1, hz1, hsz, hby⟩ := inf136
    refine st_append (h := ht) (ys := txV tx) (m := 1) u38 hi1 hz1 hsz hby rfl (by omega) h1 (hO10.perm (perm_t _ _ _ _ _ ht hd)) hU10 (fun p hp => .inr (h3 p (List.mem_append_left _ hp))) (rd_rowN (n := 1) (c := 1) (xs := txV tx) (hO10.at_ 0 rfl) rfl (by omega) rfl) (txV_one tx) (by rw [hrcl]; unfold maxLen; omega) (by rw [hrcl]; omega) ?_
    intro v11 w11 h11 hr11 hO11 hU11 hh11
    have hO11 := hO11.perm (perm_t' _ _ _ _ _ h11 hd)
    refine st_storeB sz38 (RowH.one hr11).2 hU11 hO11 2 rfl (by simp [reV]) (.inr (Nat.zero_le _)) (.inr hg3) ?_
    intro w12 hU12 hO12
    have hO12 : Owns w12 ((g5, reO re0 nilS nilS) :: (g4, qO [] 0 0) :: (g3, reO { rc with ts := rc.ts ++ [tx] } v11 vd) :: (g2, qO B a9 e9) :: (g7, .cells (txV tx).toArray 136 (0, 0)) :: (h11 ++ hd)) := hO12
    have hrow : RowH 136 3 v11 (rc.ts ++ [tx]).length ((rc.ts ++ [tx]).flatMap txV) h11 := by
      rw [flat_snoc, List.length_append]; exact hr11
    refine ⟨⟨i + 1, by omega, ?_, ?_⟩, ?_⟩
    · rw [show ((i : Nat) : Int) + 1 = ((i + 1 : Nat) : Int) by omega, wrapU64, Nat.mod_eq_of_lt (by omega)]; rfl
    · have e1 : ({ r with ts := (many gTx (i + 1) s1).1 } : Re) = { rc with ts := rc.ts ++ [tx] } := by
        rw [many_succ, ← hrc, hsc, ← htx]; rfl
      have e2 : (many gTx (i + 1) s1).2 = (tk (tk (tk sc 4).2 1).2 8).2 := by rw [many_succ, hsc]; rfl
      rw [e1, e2]
      refine ⟨a9, e9, v11, vd, h11, hd, hs9, hrow, h2, fun p hp => ?_, hU12, hO12.sub (.cons_cons _ (.cons_cons _ (.cons_cons _ (.cons_cons _ (.cons _ (List.Sublist.refl _))))))⟩
      rcases List.mem_append.1 hp with hp | hp
      · exact (hh11 p hp).resolve_left (by simp)
      · exact h3 p (List.mem_append_right _ hp)
    · rw [show ((i : Nat) : Int) + 1 = ((i + 1 : Nat) : Int) by omega, wrapU64, Nat.mod_eq_of_lt (by omega)]
      simp only [List.getD_cons_zero, intOf]; omega
  · obtain rfl : i = n := by omega
    unfold flotillaref05_tables_k1
    refine q_step hB hs6 1 (by omega) hU6 hO6 3 rfl hg2 ?_
    intro w7 a7 e7 hs7 hU7 hO7
    have hO7 : Owns w7 ((g5, reO re0 nilS nilS) :: (g4, qO [] 0 0) :: (g3, reO { r with ts := (many gTx i s1).1 } vt vd) :: (g2, qO B a7 e7) :: (ht ++ hd)) := hO7
    generalize hS2 : (many gTx i s1).2 = s2 at hs7 ⊢
    have hn2 := tk_lt s2 1
    have hd0 : { r with ts := (many gTx i s1).1, ds := (many gDi 0 (tk s2 1).2).1 } = ({ r with ts := (many gTx i s1).1 } : Re) := by cases r; simp only at h0; simp [many, h0.2]
    generalize hN2 : (tk s2 1).1 = n2 at hn2 ⊢
    generalize hS3 : (tk s2 1).2 = s3 at hs7 hd0 ⊢
    clear e0
    refine st_loop (fun vs w' => ∃ j : Nat, j ≤ n2 ∧ vs.getD 0 undef = .int .u64 (j : Nat) ∧ TS W B g2 g3 g4 g5 { r with ts := (many gTx i s1).1, ds := (many gDi j s3).1 } (many gDi j s3).2 w') (fun vs _ => n2 - (intOf (vs.getD 0 undef)).toNat) ⟨0, by omega, rfl, by rw [hd0]; exact ⟨a7, e7, vt, vd, ht, hd, hs7, h1, h2, h3, hU7, hO7⟩⟩ ?_
    clear h1 h2 h3 hd0 hO7 hs7 hU7
    rintro dv vs w8 - ⟨j, hj, e0, a8, e8, vt, vd, ht, hd, hs8, h1, h2, h3, hU8, hO8⟩
    simp (disch := omega) only [e0, PX, BX]
    have hml2 := many_len gDi j s3
    refine ⟨fun hlt => ?_, fun hge => ?_⟩
    · generalize hrc : ({ r with ts := (many gTx i s1).1, ds := (many gDi j s3).1 } : Re) = rc at hO8 h1 h2
      generalize hsc : (many gDi j s3).2 = sc at hs8
      have hrcl : rc.ds.length = j := by rw [← hrc]; exact hml2
      refine q_step hB hs8 2 (by omega) hU8 hO8 3 rfl hg2 ?_
      intro w9 a9 e9 hs9 hU9 hO9
      refine q_step hB hs9 8 (by omega) hU9 hO9 3 rfl hg2 ?_
      intro w10 a10 e10 hs10 hU10 hO10
      have hO10 : Owns w10 ((g5, reO re0 nilS nilS) :: (g4, qO [] 0 0) :: (g3, reO rc vt vd) :: (g2, qO B a10 e10) :: (ht ++ hd)) := hO10
      have t1 := tk_lt sc 2
      have c11 : w10.cell? ⟨g3, 11, none⟩ = some vd := (At.of (hO10.at_ 2 rfl)).c11
      simp (disch := first | assumption | omega) only [PX, LX, add_mk, Nat.reduceAdd, w64]
      rw [step_run (build_di _ _ _)]
      generalize htx : (⟨((tk sc 2).1 : Nat), (tk (tk sc 2).2 8).1⟩ : Di) = di
      refine st_newRow (row_di di) hU10 hO10 ?_
      intro g7 w11 hU11 hO11 hg7
      obtain ⟨inf, hi1, hz1, hsz, hby⟩ := inf138
      refine st_append (h := hd) (ys := diV di) (m := 1) u39 hi1 hz1 hsz hby rfl (by omega) h2 (hO11.perm (perm_d _ _ _ _ _ ht hd)) hU11 (fun p hp => .inr (h3 p (List.mem_append_right _ hp))) (rd_rowN (n := 1) (c := 1) (xs := diV di) (hO11.at_ 0 rfl) rfl (by omega) rfl) (diV_one di) (by rw [hrcl]; unfold maxLen; omega) (by rw [hrcl]; omega) ?_
      intro v12 w12 h12 hr12 hO12 hU12 hh12
      have hO12 := hO12.perm (perm_d' _ _ _ _ _ ht h12)
      refine st_storeB sz39 (RowH.one hr12).2 hU12 hO12 2 rfl (by simp [reV]) (.inr (Nat.zero_le _)) (.inr hg3) ?_
      intro w13 hU13 hO13
      have hO13 : Owns w13 ((g5, reO re0 nilS nilS) :: (g4, qO [] 0 0) :: (g3, reO { rc with ds := rc.ds ++ [di] } vt v12) :: (g2, qO B a10 e10) :: (g7, .cells (diV di).toArray 138 (0, 0)) :: (ht ++ h12)) := hO13
      have hrow : RowH 138 2 v12 (rc.ds ++ [di]).length ((rc.ds ++ [di]).flatMap diV) h12 := by
        rw [flat_snoc, List.length_append]; exact hr12
      refine ⟨⟨j + 1, by omega, ?_, ?_⟩, ?_⟩
      · rw [show ((j : Nat) : Int) + 1 = ((j + 1 : Nat) : Int) by omega, wrapU64, Nat.mod_eq_of_lt (by omega)]; rfl
      · have e1 : ({ r with ts := (many gTx i s1).1, ds := (many gDi (j + 1) s3).1 } : Re) = { rc with ds := rc.ds ++ [di] } := by
          rw [many_succ, ← hrc, hsc, ← htx]; rfl
        have e2 : (many gDi (j + 1) s3).2 = (tk (tk sc 2).2 8).2 := by rw [many_succ, hsc]; rfl
        rw [e1, e2]
        refine ⟨a10, e10, vt, v12, ht, h12, hs10, h1, hrow, fun p hp => ?_, hU13, hO13.sub (.cons_cons _ (.cons_cons _ (.cons_cons _ (.cons_cons _ (.cons _ (List.Sublist.refl _))))))⟩
        rcases List.mem_append.1 hp with hp | hp
        · exact h3 p (List.mem_append_left _ hp)
        · exact (hh12 p hp).resolve_left (by simp)
      · rw [show ((j : Nat) : Int) + 1 = ((j + 1 : Nat) : Int) by omega, wrapU64, Nat.mod_eq_of_lt (by omega)]
        simp only [List.getD_cons_zero, intOf]; omega
    · obtain rfl : j = n2 := by omega
      unfold flotillaref05_tables_k2
      refine q_tail (Q := fun u w' => ∃ a' e' x, Qs B _ a' e' ∧ u = .tuple #[qV B a' e', x] ∧ NewRe W w' x _) hU8 hO8 (RowH.one h1).1 (RowH.one h2).1 hg4 hg5 ?_
      intro w' hU' hO'
      exact ⟨a8, e8, _, hs8, rfl, vt, vd, ht, hd, rfl, h1, h2, h3, hO', hU'⟩
end Go.Proofs.Ytplpjikcgheiiaa.Rec

/- The document's Decode. -/
namespace Go.Proofs.Ytplpjikcgheiiaa.Rec
open Go Go.Proofs.Ytplpjikcgheiiaa Go.Proofs.Ytplpjikcgheiiaa.Enc Xf Go.RowKit
set_option linter.unusedVariables false
set_option linter.unusedSimpArgs false
set_option maxRecDepth 100000

/-- the document's reading: before the rows -/
def DS (W : World) (B : List UInt8) (gA gB gQ : Nat) (r : Re) (s : Rs) (w : World) : Prop :=
  ∃ a e, Qs B s a e ∧ Upd W w [] ∧ Owns w [(gQ, qO B a e), (gB, reO r nilS nilS), (gA, reO re0 nilS nilS)]
/-- and behind them -/
def DT (W : World) (B : List UInt8) (gA gB gQ : Nat) (r : Re) (s : Rs) (w : World) : Prop :=
  ∃ a e vt vd ht hd, Qs B s a e ∧ RowH 136 3 vt r.ts.length (r.ts.flatMap txV) ht ∧ RowH 138 2 vd r.ds.length (r.ds.flatMap diV) hd ∧ (∀ p ∈ ht ++ hd, W.heap.size ≤ p.1) ∧ Upd W w [] ∧ Owns w ((gQ, qO B a e) :: (gB, reO r vt vd) :: (gA, reO re0 nilS nilS) :: (ht ++ hd))
theorem build_q (B : List UInt8) (w : World) : (sBuild 155 [(0, .string ⟨B.toArray⟩)]).run Try.prog w = .ok (.value (qV B 0 0)) w := by kernel_rfl

theorem rDecode_spec (W : World) (B : List UInt8) (hB : B.length ≤ 140737488355328) : CallsR Try.prog 72 #[.string ⟨B.toArray⟩] W fun u w' => ∃ x, u = .tuple #[x, .int .i64 ((decR B).2 : Nat)] ∧ NewRe W w' x (decR B).1 := by
  apply flotillaref05_Decode_sound
  unfold flotillaref05_Decode_x
  refine st_alloc ze_re (Upd.refl W []) (Owns.nil W) ?_
  intro gA w1 hU1 hO1 hgA
  rw [step_run (build_re0 w1)]
  refine st_alloc ze_re hU1 hO1 ?_
  intro gB w2 hU2 hO2 hgB
  refine st_re (r0 := re0) (vt0 := nilS) (vd0 := nilS) hU2 hO2 0 rfl rfl rfl (.inr hgB) ?_
  intro w3 hU3 hO3
  rw [step_run (build_q B w3)]
  refine st_alloc ze_q hU3 hO3 ?_
  intro gQ w4 hU4 hO4 hgQ
  refine st_q hU4 hO4 0 rfl hgQ ?_
  intro w5 hU5 hO5 _
  have hO5 : Owns w5 [(gQ, qO B 0 0), (gB, reO re0 nilS nilS), (gA, reO re0 nilS nilS)] := hO5
  have hs : Qs B (B, 0) 0 0 := ⟨by omega, by rw [List.drop_zero]⟩
  refine q_step hB hs 1 (by omega) hU5 hO5 0 rfl hgQ ?_
  intro w6 a6 e6 hs6 hU6 hO6
  have t1 := tk_lt (B, 0) 1
  simp (disch := omega) only [PX, add_mk, Nat.reduceAdd, w64]
  refine st_storeB sz33 rfl hU6 hO6 1 rfl (by simp [reV]) (.inr (Nat.zero_le _)) (.inr hgB) ?_
  intro w7 hU7 hO7
  refine q_step hB hs6 8 (by omega) hU7 hO7 0 rfl hgQ ?_
  intro w8 a8 e8 hs8 hU8 hO8
  refine st_storeB sz34 rfl hU8 hO8 1 rfl (by simp [reV]) (.inr (Nat.zero_le _)) (.inr hgB) ?_
  intro w9 hU9 hO9
  refine q_step hB hs8 4 (by omega) hU9 hO9 0 rfl hgQ ?_
  intro w10 a10 e10 hs10 hU10 hO10
  have t2 := tk_lt (tk (tk (B, 0) 1).2 8).2 4
  simp (disch := omega) only [PX, add_mk, Nat.reduceAdd, w64]
  refine st_storeB sz3 rfl hU10 hO10 1 rfl (by simp [reV]) (.inr (Nat.zero_le _)) (.inr hgB) ?_
  intro w11 hU11 hO11
  refine q_step hB hs10 8 (by omega) hU11 hO11 0 rfl hgQ ?_
  intro w12 a12 e12 hs12 hU12 hO12
  refine st_storeB sz34 rfl hU12 hO12 1 rfl (by simp [reV]) (.inr (Nat.zero_le _)) (.inr hgB) ?_
  intro w13 hU13 hO13
  have hD : DS W B gA gB gQ (gHead (B, 0)).1 (gHead (B, 0)).2 w13 := ⟨a12, e12, hs12, hU13, hO13⟩
  clear hU1 hO1 hU2 hO2 hU3 hO3 hU4 hO4 hU5 hO5 hU6 hO6 hU7 hO7 hU8 hO8 hU9 hO9 hU10 hO10 hU11 hO11 hU12 hO12 hU13 hO13 t1 t2
  generalize hq : gHead (B, 0) = q at hD
  have hqt : q.1.ts = [] ∧ q.1.ds = [] := by subst hq; exact ⟨rfl, rfl⟩
  -- a change
  refine st_join (fun _ w' => DS W B gA gB gQ (gChg q.1 q.2).1 (gChg q.1 q.2).2 w') ?_ ?_
  · intro j hj
    have hD0 := hD
    obtain ⟨a, e, hs, hU, hO⟩ := hD
    have c0 := (At.of (hO.at_ 1 rfl)).c0
    simp (disch := first | assumption | omega) only [PX, LX, add_mk, Nat.reduceAdd]
    refine st_call (Changes_spec _ _) ?_
    rintro _ v1 ⟨rfl, rfl⟩
    simp only [BX]
    refine ⟨fun hc => ?_, fun hc => hj _ _ (by unfold gChg; rw [if_neg hc]; exact hD0)⟩
    rw [ld155 (hO.at_ 0 rfl), step_run (run_re (hO.at_ 1 rfl))]
    refine st_call (change_spec _ B a e q.2 q.1 hB hs hc) ?_
    rintro _ v2 ⟨a', e', hs', rfl, hU2⟩
    simp only [PX]
    refine st_q (hU.trans hU2) (hO.ext hU2) 0 rfl hgQ ?_
    intro v3 hU3 hO3 _
    refine st_re hU3 hO3 1 rfl rfl rfl (.inr hgB) ?_
    intro v4 hU4 hO4
    exact hj _ _ ⟨a', e', hs', hU4, hO4⟩
  clear hD
  intro dv vs v1 hD
  unfold flotillaref05_Decode_j3
  have hct : (gChg q.1 q.2).1.ts = [] ∧ (gChg q.1 q.2).1.ds = [] := by unfold gChg; split <;> exact hqt
  generalize hq2 : gChg q.1 q.2 = q2 at hD hct
  -- what is undone
  refine st_join (fun _ w' => DS W B gA gB gQ (gUndo q2.1 q2.2).1 (gUndo q2.1 q2.2).2 w') ?_ ?_
  · intro j hj
    have hD0 := hD
    obtain ⟨a, e, hs, hU, hO⟩ := hD
    have c0 := (At.of (hO.at_ 1 rfl)).c0
    simp (disch := first | assumption | omega) only [PX, BX, LX, add_mk, Nat.reduceAdd]
    refine ⟨fun hc => ?_, fun hc => hj _ _ (by unfold gUndo; rw [if_neg hc]; exact hD0)⟩
    refine q_step hB hs 8 (by omega) hU hO 0 rfl hgQ ?_
    intro v2 a' e' hs' hU2 hO2
    refine st_storeB sz34 rfl hU2 hO2 1 rfl (by simp [reV]) (.inr (Nat.zero_le _)) (.inr hgB) ?_
    intro v3 hU3 hO3
    refine hj _ _ ?_
    unfold gUndo
    rw [if_pos hc]
    exact ⟨a', e', hs', hU3, hO3⟩
  clear hD
  intro dv vs v2 hD
  unfold flotillaref05_Decode_j2
  have hut : (gUndo q2.1 q2.2).1.ts = [] ∧ (gUndo q2.1 q2.2).1.ds = [] := by unfold gUndo; split <;> exact hct
  generalize hq3 : gUndo q2.1 q2.2 = q3 at hD hut
  have hall : gAll B = gTab q3.1 q3.2 := by unfold gAll; simp only; rw [hq, hq2, hq3]
  have hlen : (gTab q3.1 q3.2).1.ts.length ≤ 1000 ∧ (gTab q3.1 q3.2).1.ds.length ≤ 1000 := by
    unfold gTab
    split
    · simp only
      rw [many_len, many_len]
      have h1 := tk_lt q3.2 1
      have h2 := tk_lt (many gTx (tk q3.2 1).1 (tk q3.2 1).2).2 1
      omega
    · rw [hut.1, hut.2]; simp
  -- the rows
  refine st_join (fun _ w' => DT W B gA gB gQ (gAll B).1 (gAll B).2 w') ?_ ?_
  · intro j hj
    rw [hall] at hj
    obtain ⟨a, e, hs, hU, hO⟩ := hD
    have c0 := (At.of (hO.at_ 1 rfl)).c0
    simp (disch := first | assumption | omega) only [PX, BX, LX, add_mk, Nat.reduceAdd]
    refine ⟨fun hc => ?_, fun hc => hj [] _ (by unfold gTab; rw [if_neg hc]; exact ⟨a, e, nilS, nilS, [], [], hs, by rw [hut.1]; exact RowH.nil_ _ _, by rw [hut.2]; exact RowH.nil_ _ _, (fun p hp => by cases hp), hU, hO⟩)⟩
    rw [ld155 (hO.at_ 0 rfl), step_run (run_re (hO.at_ 1 rfl))]
    refine st_call (tables_spec' _ B a e q3.2 q3.1 hB hs hc hut) ?_
    rintro _ v3 ⟨a', e', x, hs', rfl, vt, vd, ht, hd, rfl, r1, r2, r3, r4, r5⟩
    simp only [PX]
    have hO3 : Owns v3 ((gQ, qO B a e) :: (gB, reO q3.1 nilS nilS) :: (gA, reO re0 nilS nilS) :: (ht ++ hd)) := (owns_app hO r5 r4 r3).perm List.perm_append_comm
    refine st_q (hU.trans r5) hO3 0 rfl hgQ ?_
    intro v4 hU4 hO4 _
    refine st_re hU4 hO4 1 rfl (RowH.one r1).1 (RowH.one r2).1 (.inr hgB) ?_
    intro v5 hU5 hO5
    exact hj [] _ ⟨a', e', vt, vd, ht, hd, hs', r1, r2, fun p hp => Nat.le_trans hU.size (r3 p hp), hU5, hO5⟩
  clear hD
  rintro dv vs v3 ⟨a, e, vt, vd, ht, hd, ⟨ha, hs⟩, r1, r2, r3, hU, hO⟩
  rw [← hall] at hlen
  unfold flotillaref05_Decode_j1
  rw [ld155 (hO.at_ 0 rfl)]
  refine st_call (refEnd_spec v3 B a e ha (by unfold maxLen; omega)) ?_
  rintro _ v4 ⟨rfl, hU4⟩
  have hO4 := hO.ext hU4
  have hU4 := hU.trans hU4
  have he1 : B.drop a = (gAll B).2.1 := by rw [hs]
  have he2 : e = (gAll B).2.2 := by rw [hs]
  rw [he1, he2]
  -- no record
  have none_ : ∀ v, Upd W v [] → Owns v ((gQ, qO B a e) :: (gB, reO (gAll B).1 vt vd) :: (gA, reO re0 nilS nilS) :: (ht ++ hd)) → ¬ isRe B → (std Try.prog).step (sBuild 41 []) v fun u w => (std Try.prog).step (sStore 41 (.pointer (some ⟨gA, 0, none⟩)) u) w fun _ w => (std Try.prog).loadR 41 (.pointer (some ⟨gA, 0, none⟩)) w fun r => ∃ x, Value.tuple #[r, .int .i64 5] = .tuple #[x, .int .i64 ((decR B).2 : Nat)] ∧ NewRe W w x (decR B).1 := by
    intro v hUv hOv hn
    have hd2 : decR B = (re0, 5) := by unfold decR; rw [if_neg hn]
    rw [step_run (build_re0 v)]
    refine st_re (r := re0) hUv hOv 2 rfl rfl rfl (.inr hgA) ?_
    intro v' hU' hO'
    refine st_loadR (run_loadVarN (cs := reV re0 nilS nilS) ag41 (by rw [sz41]; rfl) (cells_read (hO'.at_ 2 rfl))) ?_
    rw [hd2]
    exact ⟨_, rfl, NewRe.zero hU'⟩
  simp only [PX, BX]
  refine ⟨fun hne => none_ v4 hU4 hO4 fun h => hne (by rw [h.1]; rfl), fun heq => ?_⟩
  have hend : endR (gAll B).2.1 (gAll B).2.2 = 0 := by omega
  rw [step_run (run_re (hO4.at_ 1 rfl))]
  have hrows : Owns v4 (ht ++ hd) := hO4.sub (.cons _ (.cons _ (.cons _ (List.Sublist.refl _))))
  have hre : RdRe v4 (.agg (reV (gAll B).1 vt vd).toArray) (gAll B).1 := ⟨vt, vd, rfl, RdS.ofRow r1 (hrows.sub (List.sublist_append_left _ _)), RdS.ofRow r2 (hrows.sub (List.sublist_append_right _ _))⟩
  refine st_call (May_spec v4 _ _ hlen hre) ?_
  rintro _ v5 ⟨rfl, hU5⟩
  have hO5 := hO4.ext hU5
  have hU5 := hU4.trans hU5
  simp only [PX, BX]
  refine ⟨fun hok => ?_, fun hno => none_ v5 hU5 hO5 fun h => hno h.2⟩
  have hd2 : decR B = ((gAll B).1, 0) := by unfold decR; rw [if_pos ⟨hend, hok⟩]
  rw [step_run (run_re (hO5.at_ 1 rfl))]
  refine st_re hU5 hO5 2 rfl (RowH.one r1).1 (RowH.one r2).1 (.inr hgA) ?_
  intro v6 hU6 hO6
  refine st_loadR (run_loadVarN (cs := reV (gAll B).1 vt vd) ag41 (by rw [sz41]; rfl) (cells_read (hO6.at_ 2 rfl))) ?_
  rw [hd2]
  exact ⟨_, rfl, vt, vd, ht, hd, rfl, r1, r2, r3, hO6.sub (.cons _ (.cons _ (.cons _ (List.Sublist.refl _)))), hU6⟩
end Go.Proofs.Ytplpjikcgheiiaa.Rec

/- The document's Unframe. -/
namespace Go.Proofs.Ytplpjikcgheiiaa.Rec
open Go Go.Proofs.Ytplpjikcgheiiaa Go.Proofs.Ytplpjikcgheiiaa.Enc Xf Go.RowKit
set_option linter.unusedVariables false
set_option linter.unusedSimpArgs false
set_option maxRecDepth 100000

theorem rUnframe_spec (W : World) (l : List UInt8) (hl : l.length ≤ 140737488300000) : CallsR Try.prog 53 #[.string ⟨l.toArray⟩] W fun u w' => ∃ x, u = .tuple #[x, .int .i64 ((unfR l).2.1 : Nat), .int .i64 ((unfR l).2.2 : Nat)] ∧ NewRe W w' x (unfR l).1 := by
  apply flotillaref05_Unframe_sound
  unfold flotillaref05_Unframe_x
  refine st_alloc ze_re (Upd.refl W []) (Owns.nil W) ?_
  intro g w1 hU1 hO1 hg
  have hO1 : Owns w1 [reBlk g re0] := hO1
  have endT : ∀ (e : Nat), unfR l = (re0, 0, e) → ∀ w', Upd W w' [] → ∃ x, Value.tuple #[.agg (reV re0 nilS nilS).toArray, .int .i64 0, .int .i64 (e : Nat)] = .tuple #[x, .int .i64 ((unfR l).2.1 : Nat), .int .i64 ((unfR l).2.2 : Nat)] ∧ NewRe W w' x (unfR l).1 := fun e h w' hU => by rw [h]; exact ⟨_, rfl, NewRe.zero hU⟩
  simp only [PX, BX, size_mk]
  refine ⟨fun h2 => ?_, fun h2 => ?_⟩
  · exact none_tail (k := fun r => .tuple #[r, .int .i64 0, .int .i64 ((4 : Nat) : Int)]) (Q := fun u w' => ∃ x, u = .tuple #[x, .int .i64 ((unfR l).2.1 : Nat), .int .i64 ((unfR l).2.2 : Nat)] ∧ NewRe W w' x (unfR l).1) hU1 hO1 hg fun w' hU => endT 4 (by unfold unfR; rw [if_pos (by omega)]) w' hU
  have h2' : ¬ l.length < 2 := by omega
  obtain ⟨b0, b1, rest, rfl⟩ : ∃ b0 b1 rest, l = b0 :: b1 :: rest := by
    match l, h2' with
    | b0 :: b1 :: rest, _ => exact ⟨b0, b1, rest, rfl⟩
    | [_], h => exact absurd (by simp) h
    | [], h => exact absurd (by simp) h
  have hn : leVal ((b0 :: b1 :: rest).take 2) = b0.toNat + 256 * b1.toNat := by simp [leVal]
  have x0 := UInt8.toNat_lt b0
  have x1 := UInt8.toNat_lt b1
  generalize hL : b0 :: b1 :: rest = l at *
  have hU2 := hU1.trans (Upd.drew w1 [])
  have hO2 := hO1.ext (Upd.drew w1 [])
  have hne : ∃ w' : World, (fun _ => True) w' := ⟨w1, trivial⟩
  refine st_draw (fun _ => True) trivial ?_
  have i0 : ∀ w : World, (sIndex 9 (.string ⟨l.toArray⟩) (.int .i64 0)).run Try.prog w = .ok (.value (.int .u8 (b0.toNat : Nat))) w := fun w => run_idxStr (i := 0) (l := l) u9 (by omega) (by rw [← hL]; rfl)
  have i1 : ∀ w : World, (sIndex 9 (.string ⟨l.toArray⟩) (.int .i64 1)).run Try.prog w = .ok (.value (.int .u8 (b1.toNat : Nat))) w := fun w => run_idxStr (i := 1) (l := l) u9 (by omega) (by rw [← hL]; rfl)
  rw [stepS_run hne fun w _ => i0 w]
  simp (disch := first | assumption | omega) only [SX, w64]
  rw [stepS_run hne fun w _ => i1 w]
  simp (disch := first | assumption | omega) only [SX, PX, BX, w64, size_mk]
  generalize hk : b0.toNat + 256 * b1.toNat = n at hn
  have hkn : ((b0.toNat : Nat) : Int) + 256 * ((b1.toNat : Nat) : Int) = (n : Int) := by omega
  rw [hkn]
  have hk6 : ((n : Int) + 6).toNat = n + 6 := by omega
  refine ⟨fun hlt => ?_, fun hge => ?_⟩
  · exact none_tail (k := fun r => .tuple #[r, .int .i64 0, .int .i64 ((4 : Nat) : Int)]) (Q := fun u w' => ∃ x, u = .tuple #[x, .int .i64 ((unfR l).2.1 : Nat), .int .i64 ((unfR l).2.2 : Nat)] ∧ NewRe W w' x (unfR l).1) hU2 hO2 hg fun w' hU => endT 4 (by unfold unfR; rw [if_neg h2', hn, if_pos (by omega)]) w' hU
  have hlt : ¬ l.length < n + 6 := by omega
  rw [step_run (run_strTo (i := (n : Int) + 6) u9 (by omega) (by omega)), hk6]
  have hlen : (l.take (n + 6)).length = n + 6 := by rw [List.length_take]; omega
  refine st_call (Crc.rOpen_spec _ (l.take (n + 6)) (by omega)) ?_
  rintro _ w5 ⟨rfl, hU5⟩
  have hO5 := hO2.ext hU5
  have hU5 := hU2.trans hU5
  have hop : Crc.openL (l.take (n + 6)) = ([], 6) ∨ ((Crc.openL (l.take (n + 6))).2 = 0 ∧ (Crc.openL (l.take (n + 6))).1.length = n + 2) := by
    unfold Crc.openL
    rw [if_neg (by omega)]
    split
    · right; refine ⟨rfl, ?_⟩; simp only; rw [List.length_take]; omega
    · left; rfl
  generalize hX : Crc.openL (l.take (n + 6)) = X at hop ⊢
  have hunf : unfR l = if X.2 ≠ 0 then (re0, 0, 6) else if (decR (X.1.drop 2)).2 ≠ 0 then (re0, 0, 5) else ((decR (X.1.drop 2)).1, n + 6, 0) := by
    unfold unfR
    rw [if_neg h2', hn, if_neg hlt, hX]
  simp only [PX, BX]
  refine ⟨fun hne => ?_, fun heq => ?_⟩
  · have h6 : X = ([], 6) := hop.resolve_right fun h => hne (by rw [h.1]; rfl)
    exact none_tail (k := fun r => .tuple #[r, .int .i64 0, .int .i64 ((6 : Nat) : Int)]) (Q := fun u w' => ∃ x, u = .tuple #[x, .int .i64 ((unfR l).2.1 : Nat), .int .i64 ((unfR l).2.2 : Nat)] ∧ NewRe W w' x (unfR l).1) hU5 hO5 hg fun w' hU => endT 6 (by rw [hunf, h6, if_pos (by simp)]) w' hU
  have hX0 : X.2 = 0 := by
    rcases hop with h | h
    · rw [h] at heq; exact absurd (by decide) heq
    · exact h.1
  have hXl : X.1.length = n + 2 := by
    rcases hop with h | h
    · rw [h] at hX0; cases hX0
    · exact h.2
  rw [if_neg (by rw [hX0]; simp)] at hunf
  rw [step_run (run_strFrom (i := (2 : Int)) u9 (by omega) (by omega)), show (2 : Int).toNat = 2 from rfl]
  refine st_call (rDecode_spec w5 (X.1.drop 2) (by rw [List.length_drop]; omega)) ?_
  rintro _ w6 ⟨x, rfl, hNr⟩
  have hU6 := hU5.trans (NewRe.upd hNr)
  have hO6 := hO5.ext (NewRe.upd hNr)
  simp only [PX, BX]
  obtain ⟨xt, xd, rfl, ht1, hd1⟩ := NewRe.cells hNr
  refine st_alloc ze_re (Upd.refl w6 []) (Owns.nil w6) ?_
  intro g9 w7 hU7 hO7 hg9
  have hO7 : Owns w7 [reBlk g9 re0] := hO7
  refine st_re hU7 hO7 0 rfl ht1 hd1 (.inr hg9) ?_
  intro w8 hU8 hO8
  have hU68 := hU6.trans hU8
  have hO68 := hO6.ext hU8
  have hO8 : Owns w8 [(g9, reO (decR (X.1.drop 2)).1 xt xd)] := hO8
  refine ⟨fun hne => ?_, fun heq2 => ?_⟩
  · have h5 : decR (X.1.drop 2) = (re0, 5) := (decR_err _).resolve_left fun h => hne (by rw [h]; rfl)
    rw [h5] at hunf ⊢
    exact none_tail (k := fun r => .tuple #[r, .int .i64 0, .int .i64 ((5 : Nat) : Int)]) (Q := fun u w' => ∃ x, u = .tuple #[x, .int .i64 ((unfR l).2.1 : Nat), .int .i64 ((unfR l).2.2 : Nat)] ∧ NewRe W w' x (unfR l).1) hU68 hO68 hg fun w' hU => endT 5 (by rw [hunf, if_pos (by simp)]) w' hU
  have h0 : (decR (X.1.drop 2)).2 = 0 := by
    rcases decR_err (X.1.drop 2) with h | h
    · exact h
    · rw [h] at heq2; exact absurd (by decide) heq2
  rw [if_neg (by rw [h0]; simp)] at hunf
  rw [step_run (run_re (hO8.at_ 0 rfl))]
  obtain ⟨yt, yd, ht, hd, he, r1, r2, r3, r4, r5⟩ := hNr
  have hyt : yt = xt ∧ yd = xd := by
    injection he with he
    have he := congrArg Array.toList he
    simp only [List.toList_toArray, reV, List.cons.injEq, and_true, true_and] at he
    exact ⟨he.1.symm, he.2.symm⟩
  obtain ⟨rfl, rfl⟩ := hyt
  have hgl : g < w5.heap.size := hO5.lt (p := reBlk g re0) (by simp)
  refine st_re (W := w8) (ks := [g]) (Upd.refl w8 [g]) hO68 0 rfl ht1 hd1 (.inl (by simp)) ?_
  intro w9 hU9 hO9
  have hU89 : Upd W w9 [] := hU68.then_ hU9 fun x hx => by simp at hx; subst hx; exact .inr hg
  refine st_loadR (run_loadVarN (cs := reV (decR (X.1.drop 2)).1 yt yd) ag41 (by rw [sz41]; rfl) (cells_read (hO9.at_ 0 rfl))) ?_
  rw [hunf]
  refine ⟨_, by rw [show ((n + 6 : Nat) : Int) = (n : Int) + 6 by omega]; rfl, yt, yd, ht, hd, rfl, r1, r2, fun p hp => ?_, ?_, hU89⟩
  · exact Nat.le_trans hU5.size (r3 p hp)
  · refine Owns.apart (r4.ext hU8) hU9 fun p hp => ?_
    have := r3 p hp
    simp; omega
end Go.Proofs.Ytplpjikcgheiiaa.Rec

/- Devices: what they hold, and how they lie in memory. -/
namespace Go.Proofs.Ytplpjikcgheiiaa
open Go Xf Go.RowKit
set_option linter.unusedVariables false
set_option linter.unusedSimpArgs false
set_option maxRecDepth 100000

theorem w64 {a : Int} (h0 : -9223372036854775808 ≤ a) (h1 : a < 9223372036854775808) : IntKind.wrap .i64 a = a := by
  rw [IntKind.wrap_i64]; omega

abbrev Wr := Option (Nat × List UInt8)
/-- a device: its bytes, and what each hand has under way -/
structure Dv where
  B : List UInt8
  up : List Wr
structure DvOk (d : Dv) : Prop where
  m64 : d.B.length % 64 = 0
  most : d.B.length ≤ 65536
  eight : d.up.length = 8
  fits : ∀ (i : Nat) (a : Nat) (b : List UInt8), d.up[i]? = some (some (a, b)) → a % 64 = 0 ∧ b.length % 64 = 0 ∧ 0 < b.length ∧ a + b.length ≤ d.B.length
def newD (n : Nat) : Dv := ⟨List.replicate n 0, List.replicate 8 none⟩
def hands (hand : Int) : Prop := 0 ≤ hand ∧ hand < 8
instance (hand : Int) : Decidable (hands hand) := by unfold hands; infer_instance
def argD (hand at_ : Int) (b : List UInt8) : Prop := ¬ hands hand ∨ at_.tmod 64 ≠ 0 ∨ b.length % 64 ≠ 0 ∨ b.length = 0
instance (hand at_ : Int) (b : List UInt8) : Decidable (argD hand at_ b) := by unfold argD; infer_instance
def startD (d : Dv) (hand at_ : Int) (b : List UInt8) : Dv × Int :=
  if argD hand at_ b then (d, 1)
  else if at_ < 0 ∨ (d.B.length : Int) < at_ + b.length then (d, 2)
  else if d.up.getD hand.toNat none = none then (⟨d.B, d.up.set hand.toNat (some (at_.toNat, b))⟩, 0) else (d, 10)
/-- a write's bytes, the first k of them, on a device -/
def putB (B : List UInt8) (a : Nat) (b : List UInt8) (k : Nat) : List UInt8 := B.take a ++ b.take k ++ B.drop (a + k)
def cutL (n : Nat) (most : Int) : Nat := if most < 0 then n else min n (64 * most.toNat)
def endD (d : Dv) (hand most : Int) : Dv × Int :=
  if hands hand then
    match d.up.getD hand.toNat none with
    | some (a, b) => (⟨putB d.B a b (cutL b.length most), d.up.set hand.toNat none⟩, 0)
    | none => (d, 8)
  else (d, 1)
def up64 (n : Nat) : Nat := (n + 63) / 64 * 64
def trimD (d : Dv) (at_ : Int) : Dv × Int :=
  if at_ < 0 ∨ (d.B.length : Int) < at_ then (d, 2) else (⟨d.B.take (up64 at_.toNat) ++ List.replicate (d.B.length - up64 at_.toNat) 0, d.up⟩, 0)
def readOut (d : Dv) (at_ n : Int) : Prop := at_ < 0 ∨ n < 0 ∨ (d.B.length : Int) < at_ + n
instance (d : Dv) (at_ n : Int) : Decidable (readOut d at_ n) := by unfold readOut; infer_instance
def flyD (d : Dv) (hand : Int) : Int × Int × Bool :=
  if hands hand then
    match d.up.getD hand.toNat none with
    | some (a, b) => (a, b.length, true)
    | none => (0, 0, false)
  else (0, 0, false)

theorem putB_len {B : List UInt8} {a : Nat} {b : List UInt8} {k : Nat} (h : a + b.length ≤ B.length) (hk : k ≤ b.length) : (putB B a b k).length = B.length := by
  simp only [putB, List.length_append, List.length_take, List.length_drop]; omega
theorem cutL_le (n : Nat) (m : Int) : cutL n m ≤ n := by unfold cutL; split <;> omega
theorem DvOk.new {n : Nat} (h : n % 64 = 0) (h2 : n ≤ 65536) : DvOk (newD n) := by
  refine ⟨by simp [newD, h], by simp [newD, h2], rfl, fun i a b hi => ?_⟩
  simp only [newD, List.getElem?_replicate] at hi
  split at hi <;> cases hi
theorem getD_some {α : Type} {l : List (Option α)} {i : Nat} {x : α} (h : l.getD i none = some x) : l[i]? = some (some x) := by
  rw [List.getD_eq_getElem?_getD] at h
  cases hl : l[i]? with
  | none => rw [hl] at h; cases h
  | some y => rw [hl] at h; simp at h; rw [h]
theorem DvOk.start {d : Dv} (h : DvOk d) (hand at_ : Int) (b : List UInt8) : DvOk (startD d hand at_ b).1 := by
  unfold startD
  split
  · exact h
  · rename_i h1
    split
    · exact h
    · rename_i h2
      split
      · refine ⟨h.m64, h.most, by simp [h.eight], fun i a c hi => ?_⟩
        simp only [argD, not_or, not_and, ne_eq, Decidable.not_not] at h1
        by_cases he : hand.toNat = i
        · subst he
          simp only [List.getElem?_set] at hi
          simp at hi
          obtain ⟨_, rfl, rfl⟩ := hi
          obtain ⟨h3, h4, h5, h6⟩ := h1
          obtain ⟨k, rfl⟩ : ∃ k : Nat, at_ = k := ⟨at_.toNat, by omega⟩
          have h4' : k % 64 = 0 := by have : Int.tmod (k : Int) (64 : Nat) = ((k % 64 : Nat) : Int) := tmod_nat k 64; rw [show ((64 : Nat) : Int) = 64 from rfl, h4] at this; omega
          show Int.toNat (k : Int) % 64 = 0 ∧ _ ∧ _ ∧ Int.toNat (k : Int) + _ ≤ d.B.length
          rw [Int.toNat_natCast]
          exact ⟨h4', h5, by omega, by omega⟩
        · rw [List.getElem?_set_ne he] at hi
          exact h.fits i a c hi
      · exact h
theorem DvOk.end_ {d : Dv} (h : DvOk d) (hand most : Int) : DvOk (endD d hand most).1 := by
  unfold endD
  split
  · split
    · rename_i a b he
      obtain ⟨f1, f2, f3, f4⟩ := h.fits _ a b (getD_some he)
      have hl := putB_len (k := cutL b.length most) f4 (cutL_le _ _)
      refine ⟨by rw [hl]; exact h.m64, by rw [hl]; exact h.most, by simp [h.eight], fun i a' c hi => ?_⟩
      rw [hl]
      by_cases hj : hand.toNat = i
      · subst hj
        rw [List.getElem?_set] at hi
        simp at hi
      · rw [List.getElem?_set_ne hj] at hi
        exact h.fits i a' c hi
    · exact h
  · exact h
theorem trim_len {d : Dv} (h : DvOk d) {a : Nat} (ha : a ≤ d.B.length) : up64 a ≤ d.B.length := by
  have := h.m64
  unfold up64; omega
theorem DvOk.trim {d : Dv} (h : DvOk d) (at_ : Int) : DvOk (trimD d at_).1 := by
  unfold trimD
  split
  · exact h
  · rename_i hn
    have hle := trim_len h (a := at_.toNat) (by omega)
    have hl : (d.B.take (up64 at_.toNat) ++ List.replicate (d.B.length - up64 at_.toNat) (0 : UInt8)).length = d.B.length := by
      simp only [List.length_append, List.length_take, List.length_replicate]; omega
    exact ⟨by rw [hl]; exact h.m64, by rw [hl]; exact h.most, h.eight, fun i a c hi => by rw [hl]; exact h.fits i a c hi⟩

/-! in memory -/
/-- what a hand has under way, in the blocks of h -/
def WrIn (h : List (Nat × Obj)) : Wr → Value → Prop
  | none, v => v = .pointer none
  | some (a, b), v => ∃ gw gb cap cs, v = .pointer (some ⟨gw, 0, none⟩) ∧ (gw, .cells #[.int .i64 (a : Nat), .slice (some ⟨gb, 0, none⟩) b.length cap] 111 (0, 0)) ∈ h ∧ (gb, .cells cs 5 (0, 0)) ∈ h ∧ b.length ≤ cap ∧ cs.toList.take b.length = bytesV b
theorem WrIn.mono {h h' : List (Nat × Obj)} {u : Wr} {v : Value} (hw : WrIn h u v) (hs : ∀ p ∈ h, p ∈ h') : WrIn h' u v := by
  cases u with
  | none => exact hw
  | some x =>
    obtain ⟨gw, gb, cap, cs, h1, h2, h3, h4, h5⟩ := hw
    exact ⟨gw, gb, cap, cs, h1, hs _ h2, hs _ h3, h4, h5⟩
theorem WrIn.one {h : List (Nat × Obj)} {u : Wr} {v : Value} (hw : WrIn h u v) : oneB v = true := by
  cases u with
  | none => rw [show v = _ from hw]; rfl
  | some x => obtain ⟨gw, gb, cap, cs, h1, _⟩ := hw; rw [h1]; rfl
/-- the cells of a device's own block -/
def UpIn (h : List (Nat × Obj)) (up : List Wr) (vs : List Value) : Prop := vs.length = 8 ∧ ∀ (i : Nat) (u : Wr), up[i]? = some u → ∃ x, vs[i]? = some x ∧ WrIn h u x
theorem UpIn.mono {h h' : List (Nat × Obj)} {up : List Wr} {vs : List Value} (hu : UpIn h up vs) (hs : ∀ p ∈ h, p ∈ h') : UpIn h' up vs :=
  ⟨hu.1, fun i u hi => by obtain ⟨x, h1, h2⟩ := hu.2 i u hi; exact ⟨x, h1, h2.mono hs⟩⟩
theorem UpIn.set {h : List (Nat × Obj)} {up : List Wr} {vs : List Value} (hu : UpIn h up vs) {i : Nat} (hi : i < 8) {u : Wr} {x : Value} (hx : WrIn h u x) : UpIn h (up.set i u) (vs.set i x) := by
  refine ⟨by rw [List.length_set]; exact hu.1, fun j y hj => ?_⟩
  by_cases he : i = j
  · subst he
    rw [List.getElem?_set] at hj
    simp at hj
    obtain ⟨_, rfl⟩ := hj
    exact ⟨x, by rw [List.getElem?_set]; simp [hu.1, hi], hx⟩
  · rw [List.getElem?_set_ne he] at hj ⊢
    exact hu.2 j y hj
def DevH (d : Dv) (v : Value) (h : List (Nat × Obj)) : Prop :=
  ∃ (g : Nat) (vb : Value) (vs : List Value) (hb hu : List (Nat × Obj)), v = .pointer (some ⟨g, 0, none⟩) ∧ h = (g, .cells (vb :: vs).toArray 84 (0, 0)) :: (hb ++ hu) ∧ RowH 5 1 vb d.B.length (bytesV d.B) hb ∧ UpIn hu d.up vs
theorem RowH.sl {e : TypeId} {sz : Nat} {v : Value} {n : Nat} {xs : List Value} {h : List (Nat × Obj)} (hr : RowH e sz v n xs h) : ∃ A c, v = .slice A n c ∧ n ≤ c := by
  rcases hr.2 with ⟨h1, h2, _⟩ | ⟨g, cap, cs, h1, _, h3, _⟩
  · subst h2; exact ⟨_, _, h1, Nat.le_refl _⟩
  · exact ⟨_, _, h1, h3⟩
theorem RowH.one {e : TypeId} {sz : Nat} {v : Value} {n : Nat} {xs : List Value} {h : List (Nat × Obj)} (hr : RowH e sz v n xs h) : oneB v = true := by
  obtain ⟨A, c, rfl, _⟩ := hr.sl; rfl
theorem RowH.rdIn {w : World} {e : TypeId} {sz : Nat} {v : Value} {n : Nat} {xs : List Value} {h : List (Nat × Obj)} (hr : RowH e sz v n xs h) (hO : ∀ p ∈ h, w.heap[p.1]? = some p.2) : Rd w sz v n xs := by
  rcases hr.2 with ⟨h1, h2, _⟩ | ⟨g, cap, cs, h1, rfl, h3, h4, h5, h6⟩
  · subst h2
    have : xs = [] := List.eq_nil_of_length_eq_zero (by simpa using hr.1)
    subst this
    rw [h1]
    exact Rd.nil_ _ _
  · refine ⟨some ⟨g, 0, none⟩, cap, h1, h3, hr.1, fun j u hu => ⟨_, rfl, ?_⟩⟩
    rw [add_mk, Nat.zero_add, cell_at (hO (g, _) (.head _))]
    rw [← h6, List.getElem?_take] at hu
    split at hu
    · simpa using hu
    · cases hu

/-- what stands in a device's own block -/
theorem DevH.cells {d : Dv} {v : Value} {h G : List (Nat × Obj)} {w : World} (hd : DevH d v h) (hG : ∀ p ∈ h, p ∈ G) (hO : Owns w G) :
    ∃ (g : Nat) (A : Option Addr) (c : Nat), v = .pointer (some ⟨g, 0, none⟩) ∧ w.cell? ⟨g, 0, none⟩ = some (.slice A d.B.length c) ∧ d.B.length ≤ c ∧ Rd w 1 (.slice A d.B.length c) d.B.length (bytesV d.B) ∧
      ∀ (i : Nat) (u : Wr), d.up[i]? = some u → ∃ x, w.cell? ⟨g, 1 + i, none⟩ = some x ∧ WrIn G u x := by
  obtain ⟨g, vb, vs, hb, hu, rfl, rfl, hr, hup⟩ := hd
  obtain ⟨A, c, rfl, hc⟩ := hr.sl
  have hg := hO.2 _ (hG _ (.head _))
  refine ⟨g, A, c, rfl, by rw [cell_at hg]; rfl, hc, hr.rdIn fun p hp => hO.2 p (hG p (.tail _ (List.mem_append_left _ hp))), fun i u hi => ?_⟩
  obtain ⟨x, h1, h2⟩ := hup.2 i u hi
  refine ⟨x, ?_, h2.mono fun p hp => hG p (.tail _ (List.mem_append_right _ hp))⟩
  rw [cell_at hg]
  simp [Nat.add_comm 1 i, h1]

theorem empty_row (w : World) : (sBuildSlice 51 0 []).run Try.prog w = .ok (.value (.slice (some ⟨w.heap.size, 0, none⟩) 0 0)) (w.alloc (.cells #[] 5)) := by kernel_rfl

theorem run_slice2 {P : Program} {w : World} {t e : TypeId} {sz n c lo hi : Nat} {A : Option Addr} (ht : P.underlying t = some (.slice e)) (hs : (P.info? e).map (·.size) = some sz) (h1 : lo ≤ hi) (h2 : hi ≤ c) :
    (sSlice t (.slice A n c) (some (.int .i64 (lo : Nat))) (some (.int .i64 (hi : Nat))) none).run P w = .ok (.value (.slice (if c = lo then A else A.map (·.add (lo * sz))) (hi - lo) (c - lo))) w := by
  unfold sSlice Instr.sliceAt
  rw [run_sV, Sem.run_bind, run_underlying' ht]
  simp only [Result.andThen_ok, Instr.slice, Sem.run_bind, run_underlying' ht, Instr.sliceBounds, Sem.run_pure]
  rw [sliceBound_run (show (0 : Int) ≤ (hi : Nat) by omega) (show ((hi : Nat) : Int) ≤ (c : Nat) by omega)]
  simp only [Result.andThen_ok, Int.toNat_natCast]
  rw [sliceBound_run (show (0 : Int) ≤ (lo : Nat) by omega) (show ((lo : Nat) : Int) ≤ (hi : Nat) by omega)]
  simp only [Result.andThen_ok, Int.toNat_natCast, run_sizeOf hs, Sem.run_pure]
theorem Rd.short {w : World} {sz n m c : Nat} {A : Option Addr} {xs : List Value} (h : Rd w sz (.slice A n c) n xs) (hm : m ≤ n) : Rd w sz (.slice A m c) m (xs.take (m * sz)) := by
  obtain ⟨A', c', he, hc, hl, hr⟩ := h
  injection he with e1 e2 e3
  subst e1 e3
  refine ⟨A, c, rfl, by omega, ?_, fun j u hu => ?_⟩
  · rw [List.length_take, hl]
    exact Nat.min_eq_left (Nat.mul_le_mul_right _ hm)
  · rw [List.getElem?_take] at hu
    split at hu
    · exact hr j u hu
    · cases hu
theorem Rd.sub {w : World} {n c lo hi : Nat} {A : Option Addr} {xs : List Value} (h : Rd w 1 (.slice A n c) n xs) (h1 : lo ≤ hi) (h2 : hi ≤ n) :
    Rd w 1 (.slice (if c = lo then A else A.map (·.add (lo * 1))) (hi - lo) (c - lo)) (hi - lo) ((xs.drop lo).take (hi - lo)) := by
  have := (h.drop (i := lo) (by omega)).short (m := hi - lo) (by omega)
  simpa only [Nat.mul_one] using this

section
variable {w W : World} {ks : List Nat} {K : Value → World → Prop}
/-- append([]byte{}, xs..): a copy in new memory -/
theorem st_fill {w1 : World} {c : List Bool} {u : Value} {m g : Nat} {ys : List Value} {F : List (Nat × Obj)} (hO1 : Owns w1 ((g, .cells #[] 5) :: F)) (hU1 : Upd w w1 []) (hg : w.heap.size ≤ g) (hrd : Rd w1 1 u m ys) (h1 : ∀ y ∈ ys, y.oneCell' = true) (h63 : m ≤ 140737488355328)
    (hk : ∀ v' w' h', RowH 5 1 v' m ys h' → Owns w' (h' ++ F) → Upd w w' [] → (∀ p ∈ h', w.heap.size ≤ p.1) → K v' w') :
    (std Try.prog).step (sBuiltin .append #[51, 51] 51 c [.slice (some ⟨g, 0, none⟩) 0 0, u]) w1 K := by
  obtain ⟨i, hi, hz, hs, hb⟩ := inf5
  refine st_append (F := F) (h := [(g, .cells #[] 5 (0, 0))]) u51 hi hz hs hb rfl (by omega) (row_nil _ g) hO1 hU1 (fun p hp => ?_) hrd h1 (by unfold maxLen; omega) (by omega) ?_
  · simp at hp; subst hp; exact .inr hg
  · intro v' w' h' hr hO' hU' hh'
    rw [Nat.zero_add, List.nil_append] at hr
    refine hk v' w' h' hr hO' hU' fun p hp => ?_
    rcases hh' p hp with h | h
    · cases h
    · exact h
end
end Go.Proofs.Ytplpjikcgheiiaa

/- What the functions of devices compute: New, Size, Read, Start, Flying. -/
namespace Go.Proofs.Ytplpjikcgheiiaa
open Go Xf Go.RowKit
set_option linter.unusedVariables false
set_option linter.unusedSimpArgs false
set_option maxRecDepth 100000

variable {w W : World} {ks : List Nat} {F : List (Nat × Obj)}

theorem known_spec (w : World) (g : Addr) (hand : Int) : CallsR Try.prog 51 #[.pointer (some g), .int .i64 hand] w fun r w' => r = .bool (decide (hands hand)) ∧ w' = w := by
  apply stable_Device_known_sound
  unfold stable_Device_known_x
  simp only [PX, BX, stable_Device_known_k1]
  refine ⟨fun h0 => ⟨?_, trivial⟩, fun h0 => ⟨?_, trivial⟩⟩
  · congr 1; rw [decide_eq_decide]; unfold hands; omega
  · congr 1; rw [eq_comm, decide_eq_false_iff_not]; unfold hands; omega
theorem known_nil (w : World) (hand : Int) : CallsR Try.prog 51 #[.pointer none, .int .i64 hand] w fun r w' => r = .bool false ∧ w' = w := by
  apply stable_Device_known_sound
  unfold stable_Device_known_x
  simp only [PX, BX, stable_Device_known_k1]
  trivial

theorem Size_spec {d : Dv} {v : Value} {h G : List (Nat × Obj)} (hd : DevH d v h) (hG : ∀ p ∈ h, p ∈ G) (hO : Owns w G) :
    CallsR Try.prog 38 #[v] w fun r w' => r = .int .i64 d.B.length ∧ w' = w := by
  apply stable_Device_Size_sound
  unfold stable_Device_Size_x
  obtain ⟨g, A, c, rfl, c0, hc, hrd, hup⟩ := hd.cells hG hO
  simp (disch := first | assumption | omega) only [PX, BX, LX]
  trivial
theorem Size_nil (w : World) : CallsR Try.prog 38 #[.pointer none] w fun r w' => r = .int .i64 0 ∧ w' = w := by
  apply stable_Device_Size_sound
  unfold stable_Device_Size_x
  simp (disch := first | assumption | omega) only [PX, BX, LX]
  trivial

def sizeOk (n : Int) : Prop := 0 ≤ n ∧ n ≤ 65536 ∧ n % 64 = 0
instance (n : Int) : Decidable (sizeOk n) := by unfold sizeOk; infer_instance

theorem build_dev (A : Option Addr) (n c : Nat) (w : World) : (sBuild 84 [(0, .slice A n c)]).run Try.prog w = .ok (.value (.agg (.slice A n c :: List.replicate 8 (.pointer none)).toArray)) w := by kernel_rfl

theorem tmod64 {n : Int} (h : 0 ≤ n) : n.tmod 64 = n % 64 := Int.tmod_eq_emod_of_nonneg h

theorem New_spec (hU : Upd W w ks) (hO : Owns w F) (n : Int) : CallsR Try.prog 8 #[.int .i64 n] w fun r w' => Upd W w' ks ∧ ((¬ sizeOk n ∧ r = .tuple #[.pointer none, .int .i64 1] ∧ Owns w' F) ∨
    (sizeOk n ∧ ∃ v h, r = .tuple #[v, .int .i64 0] ∧ DevH (newD n.toNat) v h ∧ Owns w' (h ++ F) ∧ ∀ p ∈ h, W.heap.size ≤ p.1)) := by
  apply stable_New_sound
  unfold stable_New_x
  simp (disch := first | assumption | omega) only [PX, BX, stable_New_k1]
  refine ⟨fun h => ⟨hU, .inl ⟨fun ho => (by unfold sizeOk at ho; omega), trivial, hO⟩⟩, fun h0 => ⟨fun h => ⟨hU, .inl ⟨fun ho => (by unfold sizeOk at ho; omega), trivial, hO⟩⟩, fun h1 => ⟨fun h => ⟨hU, .inl ⟨fun ho => h (by rw [tmod64 (by omega)]; exact ho.2.2), trivial, hO⟩⟩, fun h2 => ?_⟩⟩⟩
  have hok : sizeOk n := ⟨by omega, by omega, by rw [← tmod64 (by omega)]; exact Decidable.not_not.1 h2⟩
  obtain ⟨k, rfl⟩ : ∃ k : Nat, n = k := ⟨n.toNat, by omega⟩
  obtain ⟨i, hi, hz, hs, hb⟩ := inf5
  refine st_make u51 hi hz hs hb (by omega) (by omega) hU hO ?_
  intro g w1 hU1 hO1 hg
  rw [step_run (build_dev _ _ _ _)]
  refine st_box hU1 hO1 ?_
  intro g2 w2 hU2 hO2 hg2
  refine ⟨hU2, .inr ⟨hok, _, [(g2, .cells (.slice (some ⟨g, 0, none⟩) k k :: List.replicate 8 (.pointer none)).toArray 84 (0, 0)), (g, .cells (madeCells (Value.int .u8 0).cells (k * 1)) 5 (0, 0))], rfl, ?_, hO2, ?_⟩⟩
  · rw [Int.toNat_natCast]
    have hrow : RowH 5 1 (.slice (some ⟨g, 0, none⟩) k k) k (bytesV (List.replicate k 0)) [(g, .cells (madeCells (Value.int .u8 0).cells (k * 1)) 5 (0, 0))] :=
      ⟨by simp [bytesV], .inr ⟨g, k, _, rfl, rfl, Nat.le_refl _, by unfold maxLen; unfold sizeOk at hok; omega, size_madeCells _ _, by
        rw [Nat.mul_one, show (Value.int .u8 0).cells = #[Value.int .u8 0] from rfl, toList_madeCells_one]
        simp [bytesV]⟩⟩
    refine ⟨g2, _, _, [(g, .cells (madeCells (Value.int .u8 0).cells (k * 1)) 5 (0, 0))], [], rfl, rfl, by simpa [newD] using hrow, by simp, fun i u hi => ?_⟩
    · simp only [newD, List.getElem?_replicate] at hi ⊢
      split at hi
      · rename_i h8; cases hi; exact ⟨_, if_pos h8, rfl⟩
      · cases hi
  · intro p hp
    simp at hp
    rcases hp with rfl | rfl
    · exact hg2
    · exact hg

theorem Read_nil (w : World) (at_ n : Int) : CallsR Try.prog 24 #[.pointer none, .int .i64 at_, .int .i64 n] w fun r w' => r = .tuple #[.slice none 0 0, .int .i64 1] ∧ w' = w := by
  apply stable_Device_Read_sound
  unfold stable_Device_Read_x
  simp (disch := first | assumption | omega) only [PX, BX, LX]
  trivial
theorem Read_spec {d : Dv} {v : Value} {h G : List (Nat × Obj)} (hd : DevH d v h) (hB : d.B.length ≤ 65536) (hG : ∀ p ∈ h, p ∈ G) (hO : Owns w G) (hU : Upd W w ks) (at_ n : Int) :
    CallsR Try.prog 24 #[v, .int .i64 at_, .int .i64 n] w fun r w' => Upd W w' ks ∧ ((readOut d at_ n ∧ r = .tuple #[.slice none 0 0, .int .i64 2] ∧ Owns w' G) ∨
      (¬ readOut d at_ n ∧ ∃ vr hr, r = .tuple #[vr, .int .i64 0] ∧ RowH 5 1 vr n.toNat (bytesV ((d.B.drop at_.toNat).take n.toNat)) hr ∧ Owns w' (hr ++ G) ∧ ∀ p ∈ hr, W.heap.size ≤ p.1)) := by
  apply stable_Device_Read_sound
  unfold stable_Device_Read_x
  obtain ⟨g, A, c, rfl, c0, hc, hrd, hup⟩ := hd.cells hG hO
  simp (disch := first | assumption | omega) only [PX, BX, stable_Device_Read_k1]
  refine ⟨fun h => ⟨hU, .inl ⟨.inl h, trivial, hO⟩⟩, fun h0 => ⟨fun h => ⟨hU, .inl ⟨.inr (.inl h), trivial, hO⟩⟩, fun h1 => ?_⟩⟩
  obtain ⟨a, rfl⟩ : ∃ k : Nat, at_ = k := ⟨at_.toNat, by omega⟩
  obtain ⟨m, rfl⟩ : ∃ k : Nat, n = k := ⟨n.toNat, by omega⟩
  simp (disch := first | assumption | omega) only [PX, BX, LX]
  refine ⟨fun h => ⟨hU, .inl ⟨.inr (.inr (by omega)), trivial, hO⟩⟩, fun h2 => ?_⟩
  rw [w64 (by omega) (by omega)]
  refine ⟨fun h => ⟨hU, .inl ⟨.inr (.inr (by omega)), trivial, hO⟩⟩, fun h3 => ?_⟩
  have hnr : ¬ readOut d a m := by unfold readOut; omega
  refine st_newRow empty_row (Upd.refl w []) hO ?_
  intro g1 w1 hU1 hO1 hg1
  have c1 : w1.cell? ⟨g, 0, none⟩ = some (.slice A d.B.length c) := by rw [hU1.cell (World.block_lt_of_cell? w _ c0) (by simp)]; exact c0
  simp (disch := first | assumption | omega) only [PX, BX, LX]
  rw [w64 (by omega) (by omega), show ((a : Int) + (m : Int)) = ((a + m : Nat) : Int) by omega, step_run (run_slice2 u51 sz5 (by omega) (by omega))]
  have hr := (hrd.mono hU1).sub (lo := a) (hi := a + m) (by omega) (by omega)
  rw [show a + m - a = m by omega] at hr ⊢
  refine st_fill hO1 hU1 hg1 (ys := bytesV ((d.B.drop a).take m)) (by simpa [bytesV, List.map_take, List.map_drop] using hr) (bytesV_one _) (by omega) ?_
  intro v' w' h' hr' hO' hU' hh'
  exact ⟨hU.then_ hU' fun x hx => (by cases hx), .inr ⟨hnr, v', h', rfl, by simpa using hr', hO', fun p hp => Nat.le_trans hU.size (hh' p hp)⟩⟩
end Go.Proofs.Ytplpjikcgheiiaa

/- What the functions of devices compute: Start, Flying. -/
namespace Go.Proofs.Ytplpjikcgheiiaa
open Go Xf Go.RowKit
set_option linter.unusedVariables false
set_option linter.unusedSimpArgs false
set_option maxRecDepth 100000

variable {w W : World} {ks : List Nat} {F : List (Nat × Obj)}

theorem build_wr (a : Int) (A : Option Addr) (n c : Nat) (w : World) : (sBuild 111 [(0, .int .i64 a), (1, .slice A n c)]).run Try.prog w = .ok (.value (.agg #[.int .i64 a, .slice A n c])) w := by kernel_rfl
theorem setUp (vb x : Value) (vs : List Value) (k : Nat) : (vb :: vs).toArray.setIfInBounds (1 + k) x = (vb :: vs.set k x).toArray := by
  rw [List.setIfInBounds_toArray, Nat.add_comm 1 k, List.set_cons_succ]
/-- of any device: the cell of a hand -/
theorem DevH.hand {d : Dv} {v : Value} {h G : List (Nat × Obj)} (ok : DvOk d) (hd : DevH d v h) (hG : ∀ p ∈ h, p ∈ G) (hO : Owns w G) {k : Nat} (hk : k < 8) : ∃ g x, v = .pointer (some ⟨g, 0, none⟩) ∧ w.cell? ⟨g, 1 + k, none⟩ = some x ∧ WrIn G (d.up.getD k none) x := by
  obtain ⟨g, A, c, rfl, c0, hc, hrd, hup⟩ := hd.cells hG hO
  have hlt : k < d.up.length := by rw [ok.eight]; exact hk
  obtain ⟨x, h1, h2⟩ := hup k (d.up.getD k none) (by rw [List.getD_eq_getElem?_getD, List.getElem?_eq_getElem hlt]; rfl)
  exact ⟨g, x, rfl, h1, h2⟩

theorem Start_nil (w : World) (hand at_ : Int) (vb : Value) : CallsR Try.prog 19 #[.pointer none, .int .i64 hand, .int .i64 at_, vb] w fun r w' => r = .int .i64 1 ∧ w' = w := by
  apply stable_Device_Start_sound
  unfold stable_Device_Start_x
  refine st_call (known_nil w hand) ?_
  rintro _ u' ⟨rfl, hu'⟩
  subst u'
  simp (disch := first | assumption | omega) only [PX, BX, LX, stable_Device_Start_k1]
  trivial

theorem Start_spec {d : Dv} {v vb : Value} {h : List (Nat × Obj)} {b : List UInt8} (ok : DvOk d) (hd : DevH d v h) (hO : Owns w (h ++ F)) (hU : Upd W w ks) (hh : ∀ p ∈ h, p.1 ∈ ks ∨ W.heap.size ≤ p.1) (hb : Rd w 1 vb b.length (bytesV b)) (hbl : b.length ≤ 140737488355328)
    (hand at_ : Int) (hat : -9223372036854775808 ≤ at_ ∧ at_ < 9223372036854775808) : CallsR Try.prog 19 #[v, .int .i64 hand, .int .i64 at_, vb] w fun r w' => r = .int .i64 (startD d hand at_ b).2 ∧ Upd W w' ks ∧
      ∃ h', DevH (startD d hand at_ b).1 v h' ∧ Owns w' (h' ++ F) ∧ ∀ p ∈ h', p.1 ∈ ks ∨ W.heap.size ≤ p.1 := by
  apply stable_Device_Start_sound
  unfold stable_Device_Start_x
  have hsub : ∀ p ∈ h, p ∈ h ++ F := fun p hp => List.mem_append_left _ hp
  obtain ⟨g, A, c, rfl, c0, hc, hrd, hup⟩ := hd.cells hsub hO
  obtain ⟨Ab, cb, rfl, hcb, hlb, hrb⟩ := hb
  refine st_call (known_spec w _ hand) ?_
  rintro _ u' ⟨rfl, hu'⟩
  subst u'
  have same : ∀ e : Int, startD d hand at_ b = (d, e) → (Value.int .i64 e = .int .i64 (startD d hand at_ b).2 ∧ Upd W w ks ∧ ∃ h', DevH (startD d hand at_ b).1 (.pointer (some ⟨g, 0, none⟩)) h' ∧ Owns w (h' ++ F) ∧ ∀ p ∈ h', p.1 ∈ ks ∨ W.heap.size ≤ p.1) :=
    fun e he => by rw [he]; exact ⟨rfl, hU, h, hd, hO, hh⟩
  have hmost := ok.most
  simp (disch := first | assumption | omega) only [PX, BX, bool_dec, stable_Device_Start_k1, stable_Device_Start_k2, LX]
  refine ⟨fun hha => ?_, fun hha => same 1 (if_pos (.inl hha))⟩
  refine ⟨fun h1 => same 1 (if_pos (.inr (.inl h1))), fun h1 => ?_⟩
  have e64 : Int.tmod (b.length : Int) (64 : Int) = ((b.length % 64 : Nat) : Int) := tmod_nat _ 64
  rw [e64]
  refine ⟨fun h2 => same 1 (if_pos (.inr (.inr (.inl (by omega))))), fun h2 => ⟨fun h3 => same 1 (if_pos (.inr (.inr (.inr (by omega))))), fun h3 => ?_⟩⟩
  have hna : ¬ argD hand at_ b := by
    unfold argD
    rintro (hx | hx | hx | hx)
    · exact hx hha
    · exact h1 hx
    · omega
    · omega
  have r2 : (at_ < 0 ∨ (d.B.length : Int) < at_ + b.length) → startD d hand at_ b = (d, 2) := fun hx => by unfold startD; rw [if_neg hna, if_pos hx]
  refine ⟨fun h4 => same 2 (r2 (.inl h4)), fun h4 => ⟨fun h5 => same 2 (r2 (.inr (by omega))), fun h5 => ?_⟩⟩
  rw [w64 (by omega) (by omega)]
  refine ⟨fun h6 => same 2 (r2 (.inr (by omega))), fun h6 => ?_⟩
  have hn2 : ¬ (at_ < 0 ∨ (d.B.length : Int) < at_ + b.length) := by omega
  obtain ⟨k, rfl⟩ : ∃ k : Nat, hand = k := ⟨hand.toNat, by unfold hands at hha; omega⟩
  have hk8 : k < 8 := by unfold hands at hha; omega
  obtain ⟨a, rfl⟩ : ∃ k : Nat, at_ = k := ⟨at_.toNat, by omega⟩
  obtain ⟨_, x, he, cx, hx⟩ := hd.hand ok hsub hO hk8
  injection he with he; injection he with he; injection he with he; subst he
  simp (disch := first | assumption | omega) only [PX, BX, LX, add_mk, Nat.zero_add]
  cases hu : d.up.getD k none with
  | some y =>
    rw [hu] at hx
    obtain ⟨gw, gb, cap, cs, rfl, _⟩ := hx
    simp (disch := first | assumption | omega) only [PX, BX, LX]
    exact same 10 (by unfold startD; rw [if_neg hna, if_neg hn2, Int.toNat_natCast, hu, if_neg (by simp)])
  | none =>
    rw [hu] at hx
    obtain rfl : x = .pointer none := hx
    simp (disch := first | assumption | omega) only [PX, BX, LX]
    have hres : startD d k a b = (⟨d.B, d.up.set k (some (a, b))⟩, 0) := by unfold startD; rw [if_neg hna, if_neg hn2, Int.toNat_natCast, hu, if_pos rfl, Int.toNat_natCast]
    rw [hres]
    have hne : ∃ w' : World, (fun _ : World => True) w' := ⟨w, trivial⟩
    refine st_draw (fun _ => True) trivial ?_
    simp (disch := first | assumption | omega) only [SX, add_mk, Nat.zero_add]
    have hO0 : Owns w.drew (h ++ F) := hO.ext (Upd.drew w [])
    refine st_newRow empty_row (Upd.drew w []) hO0 ?_
    intro g1 w1 hU1 hO1 hg1
    refine st_same trivial ?_
    have hb1 : Rd w1 1 (.slice Ab b.length cb) b.length (bytesV b) := Rd.mono ⟨Ab, cb, rfl, hcb, hlb, hrb⟩ hU1
    refine st_fill hO1 hU1 hg1 hb1 (bytesV_one _) hbl ?_
    intro v' w2 h' hr hO2 hU2 hh2
    refine st_same trivial ?_
    obtain ⟨A', c', rfl, hc'⟩ := hr.sl
    rw [step_run (build_wr _ _ _ _ _)]
    refine st_same trivial ?_
    refine st_box hU2 hO2 ?_
    intro gw w3 hU3 hO3 hgw
    refine st_same trivial ?_
    simp (disch := first | assumption | omega) only [SX, add_mk, Nat.zero_add]
    obtain ⟨g', vb', vs, hb', hu', hv, rfl, hrow, hupin⟩ := hd
    injection hv with hv; injection hv with hv; injection hv with hv; subst hv
    have hO3' : Owns w3 ((g, .cells (vb' :: vs).toArray 84 (0, 0)) :: (((gw, .cells #[.int .i64 (a : Nat), .slice A' b.length c'] 111 (0, 0)) :: h') ++ ((hb' ++ hu') ++ F))) := by
      refine hO3.perm ?_
      exact List.perm_middle (l₁ := (gw, _) :: h')
    have hUW : Upd W w3 ks := hU.then_ hU3 fun x hx => by cases hx
    refine st_storeB (off := 1 + k) sz81 rfl hUW hO3' 0 rfl (by simp [hupin.1]; omega) (.inr (Nat.zero_le _)) (hh (g, _) (.head _)) ?_
    intro w4 hU4 hO4
    refine st_keepT (fun _ => True) trivial ?_
    refine ⟨trivial, hU4, (g, .cells (vb' :: vs.set k (.pointer (some ⟨gw, 0, none⟩))).toArray 84 (0, 0)) :: (hb' ++ (((gw, .cells #[.int .i64 (a : Nat), .slice A' b.length c'] 111 (0, 0)) :: h') ++ hu')), ?_, ?_, ?_⟩
    · refine ⟨g, vb', _, hb', _, rfl, rfl, hrow, (hupin.mono fun p hp => List.mem_append_right _ hp).set hk8 ?_⟩
      rcases hr.2 with ⟨_, hz, _⟩ | ⟨gb, cap, cs, hv', rfl, hn, hcm, hcs, htk⟩
      · omega
      · injection hv' with e1 e2 e3
        subst e1 e3
        exact ⟨gw, gb, c', cs, rfl, by simp, by simp, hn, by simpa using htk⟩
    · rw [setUp] at hO4
      refine hO4.perm ?_
      simp only [List.set_cons_zero, List.cons_append, List.append_assoc]
      refine List.Perm.cons _ ?_
      rw [← List.cons_append, ← List.cons_append]
      exact List.perm_append_comm_assoc _ _ _
    · intro p hp
      simp only [List.mem_cons, List.mem_append] at hp
      rcases hp with rfl | hp | ((rfl | hp) | hp)
      · exact hh (g, .cells (vb' :: vs).toArray 84 (0, 0)) (.head _)
      · exact hh p (.tail _ (List.mem_append_left _ hp))
      · exact .inr (Nat.le_trans hU.size hgw)
      · exact .inr (Nat.le_trans hU.size (hh2 p hp))
      · exact hh p (.tail _ (List.mem_append_right _ hp))

theorem Flying_nil (w : World) (hand : Int) : CallsR Try.prog 39 #[.pointer none, .int .i64 hand] w fun r w' => r = .tuple #[.int .i64 0, .int .i64 0, .bool false] ∧ w' = w := by
  apply stable_Device_Flying_sound
  unfold stable_Device_Flying_x
  refine st_call (known_nil w hand) ?_
  rintro _ u' ⟨rfl, hu'⟩
  subst u'
  simp (disch := first | assumption | omega) only [PX, BX, LX]
  trivial
def flyV (x : Int × Int × Bool) : Value := .tuple #[.int .i64 x.1, .int .i64 x.2.1, .bool x.2.2]
theorem Flying_spec {d : Dv} {v : Value} {h G : List (Nat × Obj)} (ok : DvOk d) (hd : DevH d v h) (hG : ∀ p ∈ h, p ∈ G) (hO : Owns w G) (hU : Upd W w ks) (hand : Int) :
    CallsR Try.prog 39 #[v, .int .i64 hand] w fun r w' => r = flyV (flyD d hand) ∧ Upd W w' ks ∧ Owns w' G := by
  apply stable_Device_Flying_sound
  unfold stable_Device_Flying_x
  obtain ⟨g, A, c, rfl, c0, hc, hrd, hup⟩ := hd.cells hG hO
  refine st_call (known_spec w _ hand) ?_
  rintro _ u' ⟨rfl, hu'⟩
  subst u'
  simp (disch := first | assumption | omega) only [PX, BX, LX]
  refine ⟨fun hha => ?_, fun hha => ⟨by unfold flyD; rw [if_neg hha]; rfl, hU, hO⟩⟩
  obtain ⟨k, rfl⟩ : ∃ k : Nat, hand = k := ⟨hand.toNat, by unfold hands at hha; omega⟩
  have hk8 : k < 8 := by unfold hands at hha; omega
  obtain ⟨_, x, he, cx, hx⟩ := hd.hand ok hG hO hk8
  injection he with he; injection he with he; injection he with he; subst he
  simp (disch := first | assumption | omega) only [PX, BX, LX, add_mk, Nat.zero_add]
  cases hu : d.up.getD k none with
  | none =>
    rw [hu] at hx
    obtain rfl : x = .pointer none := hx
    simp (disch := first | assumption | omega) only [PX, BX, LX]
    exact ⟨by unfold flyD; rw [if_pos hha, Int.toNat_natCast, hu]; rfl, hU, hO⟩
  | some y =>
    obtain ⟨a, b⟩ := y
    rw [hu] at hx
    obtain ⟨gw, gb, cap, cs, rfl, hm1, hm2, _⟩ := hx
    simp (disch := first | assumption | omega) only [PX, BX, LX]
    have hS : Owns w.drew G := hO.ext (Upd.drew w [])
    have hne : ∃ w', (fun w' => Owns w' G) w' := ⟨_, hO⟩
    have q0 : ∀ w', Owns w' G → w'.cell? ⟨g, 1 + k, none⟩ = some (.pointer (some ⟨gw, 0, none⟩)) := fun w' ho => by
      obtain ⟨_, x', he, cx', hx'⟩ := hd.hand ok hG ho hk8
      injection he with he; injection he with he; injection he with he; subst he
      obtain ⟨p, hp1, hp2⟩ : ∃ p, (g, p) ∈ G ∧ ∀ w', Owns w' G → w'.cell? ⟨g, 1 + k, none⟩ = (match p with | .cells cs _ _ => cs[1 + k]? | _ => none) := by
        obtain ⟨g', vb', vs, hb', hu', hv, rfl, hrow, hupin⟩ := hd
        injection hv with hv; injection hv with hv; injection hv with hv; subst hv
        exact ⟨_, hG _ (.head _), fun w' ho => cell_at (ho.2 _ (hG _ (.head _)))⟩
      rw [hp2 w' ho, ← hp2 w hO]; exact cx
    have q1 : ∀ w', Owns w' G → w'.cell? ⟨gw, 0, none⟩ = some (.int .i64 (a : Nat)) := fun w' ho => cell_at (ho.2 _ hm1)
    have q2 : ∀ w', Owns w' G → w'.cell? ⟨gw, 1, none⟩ = some (.slice (some ⟨gb, 0, none⟩) b.length cap) := fun w' ho => cell_at (ho.2 _ hm1)
    refine st_draw (fun w' => Owns w' G) hS ?_
    simp (disch := first | assumption | omega) only [SX, SLX, add_mk, Nat.zero_add]
    exact ⟨by unfold flyD; rw [if_pos hha, Int.toNat_natCast, hu]; rfl, hU.then_ (Upd.drew w []) fun x hx => (by cases hx), hS⟩

/-! what the laws hand in -/
structure Op where
  kind : Int
  hand : Int
  at_ : Int
  n : Int
  fill : UInt8
def opV (o : Op) : List Value := [.int .i64 o.kind, .int .i64 o.hand, .int .i64 o.at_, .int .i64 o.n, .int .u8 o.fill.toNat]
theorem opV_len (o : Op) : (opV o).length = 5 := rfl
theorem opV_one (o : Op) : ∀ u ∈ opV o, u.oneCell' = true := by
  intro u hu; simp [opV] at hu; rcases hu with rfl | rfl | rfl | rfl | rfl <;> rfl
def Ok64 (o : Op) : Prop := in64 o.kind ∧ in64 o.hand ∧ in64 o.at_ ∧ in64 o.n
def longO (o : Op) : Int := if 40 < o.n ∨ o.n < -3000 then -1 else if o.n < 0 then -o.n else 64 * o.n
theorem longO_le (o : Op) : longO o ≤ 3000 ∧ -1 ≤ longO o := by
  unfold longO
  split
  · omega
  · split <;> omega
end Go.Proofs.Ytplpjikcgheiiaa

/- The reading of a function's code, within a round of a range over a function ('wpIn' under the wide fence, whatever its round). -/
namespace Go.Proofs.Ytplpjikcgheiiaa.Xf
open Go
set_option linter.unusedVariables false
set_option linter.unusedSimpArgs false

def wideR (ro : Option Nat) : Fence := { Fence.wide with round := ro }
theorem wideR_none : wideR none = Fence.wide := rfl
theorem wideR_some (l : Nat) : wideR (some l) = Fence.wide.inRound l := rfl
section
variable {P : Program} {ro : Option Nat} {n : Nat}
theorem callsIn_ro {f : FuncId} {args : Array Value} {w : World} {R : Ending → World → Prop} : CallsIn (wideR ro) n P f args w R ↔ Calls P f args w R :=
  (show CallsIn Fence.wide n P f args w R ↔ Calls P f args w R from callsIn_wide)
def noDef (o : Oper) : Bool := match o.op with | .defer _ => false | _ => true
theorem noDef_spec {o : Oper} (h : noDef o = true) : ∀ c, o.op ≠ .defer c := by
  intro c hc
  unfold noDef at h
  rw [hc] at h
  cases h

theorem StepX_uponIn {o : Oper} {a : Act} {K : Value → World → Prop} {K' : Act → World → Prop} {Q' : Exit → Act → World → Prop} {w : World} (hd : ∀ c, o.op ≠ .defer c)
    (h : StepX P (semX a o) w K) (hk : ∀ v w', K v w' → K' (a.put o.dst v) w') : o.wpIn (wideR ro) n P a w K' Q' := by
  refine ⟨fun _ _ => trivial, ?_⟩
  rw [Oper.semAt_eq _ _ _ hd]
  rw [semX_eq] at h
  unfold StepX at h
  generalize (execOp a.eval o).run P w = r at *
  split at h
  · exact hk _ _ h
  · exact hk _ _ h
  · simp only [Oper.uponIn]
    refine ⟨fun h => (by cases h), callsIn_ro.2 (Calls.mono h fun e w'' ⟨v, he, hv⟩ => ?_)⟩
    subst he
    exact hk _ _ hv
  · exact h.elim

theorem opX_wpIn {o : Oper} {a : Act} {w : World} {K : Value → World → Prop} {K' : Act → World → Prop} {Q' : Exit → Act → World → Prop} (hd : ∀ c, o.op ≠ .defer c)
    (h : opX P o a w K) (hk : ∀ v w', K v w' → K' (a.put o.dst v) w') : o.wpIn (wideR ro) n P a w K' Q' := by
  unfold opX at h
  split at h
  · rename_i x hx
    refine ⟨fun _ _ => trivial, ?_⟩
    rw [Oper.semAt_eq _ _ _ hd]
    have : (execOp a.eval o).run P w = .ok (.value (a.eval x)) w := by simp only [execOp, hx]; rfl
    rw [this]
    exact hk _ _ h
  · rename_i x hx
    refine ⟨fun _ _ => trivial, ?_⟩
    rw [Oper.semAt_eq _ _ _ hd]
    have : (execOp a.eval o).run P w = .ok (.value (a.eval x)) w := by simp only [execOp, hx]; rfl
    rw [this]
    exact hk _ _ h
  · rename_i f args ats ho
    split at h
    · rename_i hc
      have h2 : (args.toList.map a.eval).toArray = args.map a.eval := by rw [← Array.toList_map]
      have he : (execOp a.eval o).run P w = .ok (.enter f (args.toList.map a.eval).toArray) w := by
        rw [h2]
        have h3 : execOp a.eval o = callFunc f (#[] ++ args.map a.eval ++ #[]) := by
          simp only [execOp, ho]; rfl
        rw [h3, Array.empty_append, Array.append_empty]
        exact callable_run hc _ _
      refine ⟨fun _ _ => trivial, ?_⟩
      rw [Oper.semAt_eq _ _ _ hd]
      rw [he]
      simp only [Oper.uponIn]
      refine ⟨fun h => (by cases h), callsIn_ro.2 (Calls.mono h fun e w'' ⟨v, he, hv⟩ => ?_)⟩
      subst he
      exact hk _ _ hv
    · exact h.elim
  · exact StepX_uponIn hd h hk

theorem listX_wpIn {ops : Array Oper} {Q : Act → World → Prop} {Q' : Exit → Act → World → Prop} (hQ : ∀ a w, Q a w → Q' .normal a w) :
    ∀ (l : List Oper) (i : Nat) (a : Act) (w : World), (∀ o ∈ l, noDef o = true) → listX P ops Q i l a w → wpListIn (wideR ro) n P ops Q' l a w
  | [], _, a, w, _, h => hQ a w h
  | o :: rest, i, a, w, hd, h => by
    unfold listX at h
    unfold wpListIn
    have hd' := fun o ho => hd o (.tail _ ho)
    cases hw : Region.wanted o (yielded ops a.tmps) with
    | false =>
      rw [hw] at h
      simp only [Bool.false_eq_true, if_false]
      exact ⟨fun _ _ => trivial, listX_wpIn hQ rest _ _ _ hd' h⟩
    | true =>
      rw [hw] at h
      simp only [if_true]
      exact opX_wpIn (noDef_spec (hd o (.head _))) h fun v w' hv => listX_wpIn hQ rest _ _ _ hd' (after_out hv)

theorem YieldsS.wpOpIn {ops : Array Oper} {S : World → Prop} {Q : Exit → Act → World → Prop} {i : Nat} {o : Oper} {v : Value} {a : Act} (hi : ops[i]? = some o) (hd : ∀ c, o.op ≠ .defer c) (hy : YieldsS P ops S o v a)
    {K : Act → World → Prop} {w : World} (hS : S w) (h : K (a.put o.dst v) w) : Go.wpOpIn (wideR ro) n P ops Q i K a w := by
  unfold Go.wpOpIn
  simp only [hi]
  rcases hy with ⟨hw, hv⟩ | ⟨hw, rfl⟩
  · simp only [hw, if_true]
    refine ⟨fun _ _ => trivial, ?_⟩
    rw [Oper.semAt_eq _ _ _ hd, hv w hS]
    exact h
  · simp only [hw, Bool.false_eq_true, if_false]; exact ⟨fun _ _ => trivial, h⟩

theorem wpOpIn_putS {ops : Array Oper} {S : World → Prop} {Q : Act → World → Prop} {j : Nat} {oi oj : Oper} {v : Value} (hj : ops[j]? = some oj) (hap : oi.apart ops oj = true) (hdj : ∀ c, oj.op ≠ .defer c)
    (hsi : ∀ cs b, oi.op ≠ .select cs b) (hsj : ∀ cs b, oj.op ≠ .select cs b) {K : Act → World → Prop} {a : Act} {w : World}
    (hy : YieldsS P ops S oi v a) (h : wpOpIn (wideR ro) n P ops (QN Q) j K (a.put oi.dst v) w) :
    wpOpIn (wideR ro) n P ops (QN Q) j (fun a' w' => YieldsS P ops S oi v a' ∧ K (a'.put oi.dst v) w') a w := by
  obtain ⟨h1, h2, h3⟩ := Oper.apart_spec hap
  have keep : ∀ (a : Act), YieldsS P ops S oi v a → ∀ u, YieldsS P ops S oi v (a.put oj.dst u) := fun a hy u =>
    hy.of_same (execOp_put oi hsi a oj.dst u h3) (wanted_put oi a oj.dst u h3)
  have keepD : ∀ d, YieldsS P ops S oi v { a with defers := d :: a.defers } := fun d => hy.of_same rfl rfl
  unfold wpOpIn at *
  simp only [hj] at *
  rw [wanted_put oj a oi.dst v h1] at h
  split
  · rename_i hw
    simp only [hw, if_true] at h
    refine ⟨fun _ _ => trivial, ?_⟩
    have h := h.2
    rw [Oper.semAt_eq _ _ _ hdj] at h ⊢
    rw [execOp_put oj hsj a oi.dst v h1] at h
    generalize (execOp a.eval oj).run P w = r at *
    cases r with
    | ok x w' =>
      cases x <;> simp only [Oper.uponIn] at h ⊢
      case value u => exact ⟨keep a hy u, by rw [← Act.put_comm a v u h2]; exact h⟩
      case skip => exact ⟨keep a hy _, by rw [← Act.put_comm a v undef h2]; exact h⟩
      case defer d =>
        refine ⟨keep _ (keepD d) _, ?_⟩
        rw [← Act.put_comm _ v undef h2, ← Act.put_defers]
        exact h
      case enter f args =>
        refine ⟨h.1, CallsIn.mono h.2 fun e w'' he => ?_⟩
        cases e with
        | returned u => exact ⟨keep a hy u, by rw [← Act.put_comm a v u h2]; exact he⟩
        | panicked c => exact he.elim
        | outgrown => exact he
      case row row args => exact ⟨h.1, RowsIn.mono h.2 fun u w'' he => ⟨keep a hy u, by rw [← Act.put_comm a v u h2]; exact he⟩⟩
      case round l f tmps assign body =>
        refine ⟨h.1, RoundIn.mono h.2 fun e w'' he => ?_⟩
        cases e with
        | returned u => exact ⟨keep a hy u, by rw [← Act.put_comm a v u h2]; exact he⟩
        | panicked c => exact he.elim
        | outgrown => exact he
    | halt x w' =>
      cases x <;> simp only [Oper.uponIn] at h ⊢
      case panic u => exact h.elim
  · rename_i hw
    simp only [hw] at h
    exact ⟨fun _ _ => trivial, keep a hy _, by rw [← Act.put_comm a v undef h2]; exact h.2⟩

def wpTI (ro : Option Nat) (n : Nat) (P : Program) (ops : Array Oper) (Q : Act → World → Prop) : Nat → Array Bool → List Nat → (World → Prop) → Act → World → Prop
  | 0, listed, _, _, a, w => Region.ready .any ops listed = [] ∧ Q a w
  | fuel + 1, listed, took, S, a, w =>
    (Region.ready .any ops listed = [] → Q a w) ∧
    ∀ i ∈ Region.ready .any ops listed, wpOpIn (wideR ro) n P ops (QN Q) i (fun a' w' => ∃ S' : World → Prop, (lastB ops took i = false → ∀ w, S' w → S w) ∧ S' w' ∧ wpTI ro n P ops Q fuel (listed.setIfInBounds i true) took S' a' w') a w

theorem wpAnyIn_of_T {ops : Array Oper} {Q : Act → World → Prop} : ∀ (fuel : Nat) (listed : Array Bool) (took : List Nat) (S : World → Prop) (a : Act) (w : World), wpTI ro n P ops Q fuel listed took S a w → wpAnyIn (wideR ro) n P .any ops (QN Q) fuel listed a w
  | 0, _, _, _, _, _, h => h
  | fuel + 1, _, _, _, _, _, h => ⟨h.1, fun i hi => wpOpIn_mono (fun _ _ ⟨_, _, _, h'⟩ => wpAnyIn_of_T fuel _ _ _ _ _ h') (h.2 i hi)⟩

theorem wpTI_first {ops : Array Oper} {Q : Act → World → Prop} {i : Nat} {oi : Oper} {v : Value} (hi : ops[i]? = some oi) (hsel : ∀ (j : Nat) (o : Oper) cs b, ops[j]? = some o → o.op ≠ .select cs b) (hnd : ∀ (j : Nat) (o : Oper) c, ops[j]? = some o → o.op ≠ .defer c) :
    ∀ (fuel : Nat) (listed : Array Bool) (took : List Nat) (S : World → Prop) (a : Act) (w : World),
      (∀ j oj, ops[j]? = some oj → j ≠ i → listed.getD j true = false → (∀ e ∈ oj.after, Region.binds .any e = true → e.on ≠ i) → oi.apart ops oj = true) →
      Closed ops listed → i ∈ Region.ready .any ops listed → YieldsS P ops S oi v a → S w →
      wpTI ro n P ops Q fuel (listed.setIfInBounds i true) (i :: took) S (a.put oi.dst v) w → wpTI ro n P ops Q (fuel + 1) listed took S a w := by
  have less : ∀ (fuel : Nat) (listed : Array Bool) (took : List Nat) (S : World → Prop) (a : Act) (w : World), wpTI ro n P ops Q fuel listed (i :: took) S a w → wpTI ro n P ops Q fuel listed took S a w := by
    intro fuel
    induction fuel with
    | zero => intro _ _ _ _ _ h; exact h
    | succ fuel ih =>
      intro listed took S a w h
      refine ⟨h.1, fun j hj => wpOpIn_mono (fun a' w' ⟨S', h1, h2, h3⟩ => ⟨S', fun hl => h1 ?_, h2, ih _ _ _ _ _ h3⟩) (h.2 j hj)⟩
      unfold lastB at hl ⊢
      rw [List.all_cons, hl, Bool.and_false]
  intro fuel
  induction fuel with
  | zero =>
    intro listed took S a w _ hc hr hy hS H
    refine ⟨fun h => (by rw [h] at hr; cases hr), fun j hj => ?_⟩
    by_cases hji : j = i
    · subst hji; exact hy.wpOpIn hi (hnd _ _ · hi) hS ⟨S, fun _ _ h => h, hS, H⟩
    · have := ready_mono hj hji
      rw [H.1] at this
      cases this
  | succ fuel ih =>
    intro listed took S a w hfree hc hr hy hS H
    refine ⟨fun h => (by rw [h] at hr; cases hr), fun j hj => ?_⟩
    by_cases hji : j = i
    · subst hji; exact hy.wpOpIn hi (hnd _ _ · hi) hS ⟨S, fun _ _ h => h, hS, less _ _ _ _ _ _ H⟩
    · have h1 := H.2 j (ready_mono hj hji)
      obtain ⟨hjun, oj, hoj, hall⟩ := mem_ready.1 hj
      have hnl : listed.getD i false = false := by
        have h0 := (mem_ready.1 hr).1
        rcases Nat.lt_or_ge i listed.size with h' | h'
        · simp [h'] at h0 ⊢; exact h0
        · simp [Array.getElem?_eq_none h'] at h0
      have hnot : ∀ e ∈ oj.after, Region.binds .any e = true → e.on ≠ i := fun e he hb heq => by
        have h1 := hall e he hb
        rw [heq, hnl] at h1
        cases h1
      have hlast : lastB ops (i :: took) j = false := by
        unfold lastB
        rw [List.all_cons]
        cases hrb : reachB ops i ops.size j with
        | false => rfl
        | true =>
          have := ready_reach hc hj _ hrb
          rw [hnl] at this
          cases this
      have h2 := wpOpIn_putS hoj (hfree j oj hoj hji hjun hnot) (hnd _ _ · hoj) (fun cs b => hsel i oi cs b hi) (fun cs b => hsel j oj cs b hoj) hy h1
      have hfree' : ∀ k ok, ops[k]? = some ok → k ≠ i → (listed.setIfInBounds j true).getD k true = false →
          (∀ e ∈ ok.after, Region.binds .any e = true → e.on ≠ i) → oi.apart ops ok = true := fun k ok hk hki hun hno => by
        refine hfree k ok hk hki ?_ hno
        by_cases hjk : j = k
        · subst hjk; exact hjun
        · rw [getD_set_ne true hjk] at hun; exact hun
      refine wpOpIn_mono (fun a' w' h3 => ?_) h2
      obtain ⟨hy', S', hS1, hS2, h4⟩ := h3
      have hsub := hS1 hlast
      refine ⟨S', fun _ => hsub, hS2, ih (listed.setIfInBounds j true) took S' a' w' hfree' (hc.set hj) (ready_mono hr (Ne.symm hji)) (hy'.weaken hsub) hS2 ?_⟩
      rw [Array.setIfInBounds_comm _ _ hji]
      exact h4

theorem treeX_TI {ops : Array Oper} {Q : Act → World → Prop} (hsel : ∀ (j : Nat) (o : Oper) cs b, ops[j]? = some o → o.op ≠ .select cs b) (hnd : ∀ (j : Nat) (o : Oper) c, ops[j]? = some o → o.op ≠ .defer c) :
    ∀ (fuel : Nat) (listed : Array Bool) (took : List Nat) (S : World → Prop) (a : Act) (w : World), Closed ops listed → S w → treeX P ops Q fuel listed took S a w → wpTI ro n P ops Q fuel listed took S a w
  | 0, listed, took, S, a, w, _, _, h => by
    unfold treeX at h
    rw [readyL_eq] at h
    cases hr : Region.ready .any ops listed with
    | nil => rw [hr] at h; exact ⟨hr, h⟩
    | cons r rs => rw [hr] at h; exact h.elim
  | fuel + 1, listed, took, S, a, w, hc, hS, h => by
    unfold treeX at h
    rw [readyL_eq] at h
    cases hr : Region.ready .any ops listed with
    | nil =>
      rw [hr] at h
      exact ⟨fun _ => h, fun i hi => (by rw [hr] at hi; cases hi)⟩
    | cons r rs =>
      rw [hr] at h
      simp only at h
      cases hf : (r :: rs).find? (flAt P ops listed a) with
      | some i =>
        rw [hf] at h
        have him : i ∈ Region.ready .any ops listed := by rw [hr]; exact List.mem_of_find?_eq_some hf
        obtain ⟨o, v, ho, hy, hk⟩ := flX_out h
        have hfa := List.find?_some hf
        unfold flAt at hfa
        rw [ho] at hfa
        simp only [Bool.and_eq_true, freeL_eq] at hfa
        exact wpTI_first ho hsel hnd fuel listed took S a w (Region.free_spec ho hfa.2) hc him hy hS (treeX_TI hsel hnd fuel _ _ _ _ _ (hc.set him) hS hk)
      | none =>
        rw [hf] at h
        refine ⟨fun h0 => (by rw [hr] at h0; cases h0), fun i hi => ?_⟩
        have hi' := hi
        rw [hr] at hi'
        have hch := allX_out h i hi'
        unfold chX at hch
        cases ho : ops[i]? with
        | none => rw [ho] at hch; exact hch.elim
        | some o =>
          rw [ho] at hch
          simp only at hch
          unfold wpOpIn
          simp only [ho]
          cases hw : Region.wanted o (yielded ops a.tmps) with
          | true =>
            rw [hw] at hch
            simp only [if_true]
            refine opX_wpIn (hnd _ _ · ho) hch fun v w' hv => ?_
            cases hl : lastB ops took i with
            | true =>
              rw [hl] at hv
              obtain ⟨S', h1, h2⟩ := hv
              exact ⟨S', fun h0 => (by cases h0), h1, treeX_TI hsel hnd fuel _ _ _ _ _ (hc.set hi) h1 (after_out h2)⟩
            | false =>
              rw [hl] at hv
              obtain ⟨S', h0, h1, h2⟩ := hv
              exact ⟨S', fun _ => h0, h1, treeX_TI hsel hnd fuel _ _ _ _ _ (hc.set hi) h1 (after_out h2)⟩
          | false =>
            rw [hw] at hch
            simp only [Bool.false_eq_true, if_false]
            exact ⟨fun _ _ => trivial, S, fun _ _ h => h, hS, treeX_TI hsel hnd fuel _ _ _ _ _ (hc.set hi) hS hch⟩

theorem DrawX_wpIn {ops : Array Oper} {Q : Act → World → Prop} {Q' : Exit → Act → World → Prop} {id : Nat} {a : Act} {w : World} (hm : P.follows .mixedOrders = true) (hnd : ∀ o ∈ ops.toList, noDef o = true) (hQ : ∀ a w, Q a w → Q' .normal a w) (h : DrawX P ops Q a w) :
    (Code.region id ops true).wpIn (wideR ro) n P Q' a w := by
  unfold DrawX at h
  cases hn : noSelectL ops with
  | false => rw [hn] at h; exact h.elim
  | true =>
    rw [hn] at h
    obtain ⟨S, h1, h2⟩ := h
    have hc : Closed ops (Array.replicate ops.size false) := by
      intro j oj hj hl
      have hlt : j < ops.size := (Array.getElem?_eq_some_iff.1 hj).1
      simp [hlt] at hl
    have h3 := wpAnyIn_of_T (ro := ro) (n := n) _ _ _ _ _ _ (treeX_TI (Region.noSelect_spec (noSelectL_eq ops ▸ hn)) (fun j o c ho => noDef_spec (hnd o (Array.mem_toList_iff.2 (Array.mem_of_getElem? ho))) c) _ _ _ _ _ _ hc h1 h2)
    refine Code.wpIn_mono (fun e a w he => ?_) (wpIn_region_any (Q := QN Q) hm h3)
    cases e with
    | normal => exact hQ _ _ he
    | _ => exact he.elim

theorem region_wpIn {id : Nat} {ops : Array Oper} {draw : Bool} {nb : Nat} {Q : Exit → Act → World → Prop} {a : Act} {w : World} (hm : P.follows .mixedOrders = true) (hnd : ops.toList.all noDef = true) (h : X P nb (.region id ops draw) Q a w) :
    (Code.region id ops draw).wpIn (wideR ro) n P Q a w := by
  have hnd := List.all_eq_true.1 hnd
  cases draw with
  | false => exact wpIn_region_list (listX_wpIn (fun a w hq => hq) _ _ _ _ hnd h)
  | true => exact DrawX_wpIn hm hnd (fun a w hq => hq) h

def noDefC : Code → Bool
  | .region _ ops _ => ops.toList.all noDef
  | .seq a b => noDefC a && noDefC b
  | .cond _ a b => noDefC a && noDefC b
  | .block _ c => noDefC c
  | .loop c => noDefC c
  | .scope _ => false
  | .rangeFunc _ _ _ _ => false
  | _ => true

theorem X_wpIn (nb : Nat) (hm : P.follows .mixedOrders = true) : ∀ (c : Code) (Q : Exit → Act → World → Prop) (a : Act) (w : World), noDefC c = true → X P nb c Q a w → c.wpIn (wideR ro) n P (fun e a' w' => Q e a' w' ∧ Agree (dsts c) a a') a w := by
  intro c
  induction c with
  | skip => intro Q a w _ h; exact wpIn_skip ⟨h, Agree.refl _ _⟩
  | label l => intro Q a w _ h; exact wpIn_label ⟨h, Agree.refl _ _⟩
  | ret => intro Q a w _ h; exact wpIn_ret ⟨h, Agree.refl _ _⟩
  | exit id => intro Q a w _ h; exact wpIn_exit ⟨h, Agree.refl _ _⟩
  | goto l => intro Q a w _ h; exact h.elim
  | refuse s => intro Q a w _ h; exact h.elim
  | scope c ih => intro Q a w hd h; cases hd
  | rangeFunc f ps x y _ _ => intro Q a w _ h; exact h.elim
  | region id ops draw =>
    intro Q a w hd h
    have hd' : ops.toList.all noDef = true := hd
    cases draw with
    | false =>
      have h' : listX P ops (Q .normal) 0 ops.toList a w := h
      have h2 := listX_agree (ds := ops.toList.filterMap (·.dst)) (a0 := a) ops.toList 0 a w (fun o ho d hd => List.mem_filterMap.2 ⟨o, ho, hd⟩) (Agree.refl _ _) h'
      exact wpIn_region_list (listX_wpIn (fun a w hq => hq) _ _ _ _ (List.all_eq_true.1 hd') h2)
    | true =>
      have h' : DrawX P ops (Q .normal) a w := h
      exact DrawX_wpIn hm (List.all_eq_true.1 hd') (fun a w hq => hq) (DrawX_agree h')
  | seq c d ihc ihd =>
    intro Q a w hd h
    have hd' : (noDefC c && noDefC d) = true := hd
    rw [Bool.and_eq_true] at hd'
    refine wpIn_seq (Code.wpIn_mono (fun e a' w' he => ?_) (ihc _ a w hd'.1 h))
    cases e with
    | normal =>
      refine Code.wpIn_mono (fun e a'' w'' he' => ?_) (ihd _ a' w' hd'.2 he.1)
      exact ⟨he'.1, (he.2.mono fun d hd => List.mem_append_left _ hd).trans (he'.2.mono fun d hd => List.mem_append_right _ hd)⟩
    | _ => exact ⟨he.1, he.2.mono fun d hd => List.mem_append_left _ hd⟩
  | cond c t e iht ihe =>
    intro Q a w hd h
    have hd' : (noDefC t && noDefC e) = true := hd
    rw [Bool.and_eq_true] at hd'
    obtain ⟨⟨b, hb⟩, h1, h2⟩ := h
    cases b with
    | true => exact wpIn_cond_true hb (Code.wpIn_mono (fun e a' w' he => ⟨he.1, he.2.mono fun d hd => List.mem_append_left _ hd⟩) (iht _ a w hd'.1 (h1 hb)))
    | false => exact wpIn_cond_false hb (Code.wpIn_mono (fun e a' w' he => ⟨he.1, he.2.mono fun d hd => List.mem_append_right _ hd⟩) (ihe _ a w hd'.2 (h2 hb)))
  | block id c ih =>
    intro Q a w hd h
    refine wpIn_block (Code.wpIn_mono (fun e a' w' he => ?_) (ih _ a w hd h))
    cases e with
    | exit id' =>
      simp only [Exit.inBlock] at he ⊢
      split
      · rename_i hid; rw [if_pos hid] at he; exact he
      · rename_i hid; rw [if_neg hid] at he; exact he
    | _ => exact he
  | loop c ih =>
    intro Q a w hd h
    have h' : LoopX (uniq (dsts c)) (live nb c (uniq (dsts c))) a w fun a' w' again => X P nb c (Exit.then again Q) a' w' := h
    unfold LoopX at h'
    generalize hls : live nb c (uniq (dsts c)) = ls at *
    generalize hds : uniq (dsts c) = ds at *
    have hmem : ∀ d, d ∈ ds ↔ d ∈ dsts c := fun d => hds ▸ mem_uniq (dsts c)
    have hsub : ∀ d ∈ ls, d ∈ ds := fun d hd => by rw [← hls] at hd; exact (List.mem_filter.1 hd).1
    cases hok : loopOk ds a.tmps.size with
    | false => rw [hok] at h'; exact h'.elim
    | true =>
      rw [hok] at h'
      simp only [loopOk, Bool.and_eq_true, List.all_eq_true, Nat.blt_eq] at hok
      obtain ⟨hb, hn⟩ := hok
      have hn := nodupB_spec ds hn
      have hnl : ls.Nodup := by rw [← hls]; exact hn.filter _
      obtain ⟨I, μ, h0, hr⟩ := h'
      refine wpIn_loop (fun a' w' => Agree ds a a' ∧ I (ls.map (getA a')) w') (fun a' w' => μ (ls.map (getA a')) w') ⟨Agree.refl _ _, h0⟩ ?_
      rintro a1 w1 ⟨hag1, hI⟩
      have hback := put_back hag1 hnl hb hsub
      have h1 := hr (getA a1) (ls.map (getA a1)) w1 (by simp) hI
      dsimp only at h1
      rw [← hback] at h1
      refine Code.wpIn_mono (fun e a2 w2 he => ?_) (ih _ _ _ hd h1)
      have hag : Agree ds a a2 := hag1.trans (he.2.mono fun d hd => (hmem d).2 hd)
      cases e with
      | normal => exact ⟨⟨hag, he.1.1⟩, he.1.2⟩
      | _ => exact ⟨he.1, hag.mono fun d hd => (hmem d).1 hd⟩

/-- a code's reading over slots suffices, within a round too, whatever calls are deferred -/
theorem Y_wpIn {dfs : List Deferred} {nb : Nat} {js : List Nat} (hm : P.follows .mixedOrders = true) {c : Code} {Q : Exit → List Sl → World → Prop} {Q' : Exit → Act → World → Prop} {fr : List Sl} {w : World} (hd : noDefC c = true) (hQ : ∀ e fr w, Q e fr w → Q' e (actOf dfs fr) w) (h : Y P (std P) nb js c Q fr w) :
    c.wpIn (wideR ro) n P Q' (actOf dfs fr) w :=
  Code.wpIn_mono (fun e a w he => he.1) (X_wpIn nb hm c Q' (actOf dfs fr) w hd (Y_out c Q Q' fr w hQ h))
end
end Go.Proofs.Ytplpjikcgheiiaa.Xf

/- The pieces of a range over a bound method. Written by a program of this work. -/
namespace Go.Proofs.Ytplpjikcgheiiaa
open Go Xf
set_option maxRecDepth 100000
set_option linter.unusedVariables false

/-- a code up to a statement, that statement, and what follows it -/
def dropT : Nat → Code → Code
  | 0, .seq (.seq x _) _ => x
  | k + 1, .seq x y => .seq x (dropT k y)
  | _, _ => .goto 0
def midT : Nat → Code → Code
  | 0, .seq (.seq _ b) _ => b
  | k + 1, .seq _ y => midT k y
  | _, _ => .goto 0
def endT : Nat → Code → Code
  | 0, .seq _ y => y
  | k + 1, .seq _ y => endT k y
  | _, _ => .goto 0
def onN (N : List Sl → World → Prop) (e : Exit) (fr : List Sl) (w : World) : Prop := match e with | .normal => N fr w | _ => False
def rangeParts : Code → Operand × Array Tmp × Code × Code
  | .block _ (.rangeFunc g ps a b) => (g, ps, a, b)
  | _ => (.tmp 0, #[], .skip, .skip)
def endK : Nat := 5
def end_pre_x (C : Comb) (a0 : Value) (a1 : Value) (a2 : Value) (w : World) (E : Value → World → Prop) (G : Value → Value → Value → Value → Value → Value → World → Prop) : Prop :=
  C.step (sBox 23 a0) w fun v3_1 w =>
  C.step (sBox 3 a2) w fun v5_1 w =>
  C.step (sLoad 23 v3_1) w fun v10_1 w =>
  C.calls 51 #[v10_1, a1] w fun v12_1 w =>
  C.step (sUn .not v12_1) w fun v13_1 w =>
  C.bool v13_1
  (E (.int .i64 1) w)
  (C.step (sLoad 23 v3_1) w fun v14_1 w =>
  C.step (sNil v14_1) w fun v16_1 w =>
  C.step (sFieldAddr 84 v16_1 1) w fun v17_1 w =>
  C.step (sIndexAddr 82 v17_1 a1) w fun v18_1 w =>
  C.step (sLoad 81 v18_1) w fun v19_1 w =>
  C.step (sAlloc 81) w fun v7_1 w =>
  C.step (sStore 81 v7_1 v19_1) w fun vx_1 w =>
  C.step (sLoad 81 v7_1) w fun v20_1 w =>
  C.step (sBin .eql 81 (.tmp 20) (.const (.pointer none)) v20_1 (.pointer none)) w fun v21_1 w =>
  C.bool v21_1
  (E (.int .i64 8) w)
  (C.step (sAlloc 3) w fun v8_1 w =>
  C.step (sStore 3 v8_1 (.int .i64 0)) w fun vx_2 w =>
  C.step (sLoad 81 v7_1) w fun v22_1 w =>
  C.step (sMakeFunc (.func 70) [v22_1] []) w fun v23_1 w =>
  G v3_1 a1 v5_1 v7_1 v8_1 v23_1 w))
def end_pre_h (E : Value → World → Prop) (G : Value → Value → Value → Value → Value → Value → World → Prop) (e : Exit) (fr : List Sl) (w : World) : Prop := match e with | .ret => E (fr.getD 6 (.val undef)).v w | .normal => G (fr.getD 3 (.val undef)).v (fr.getD 1 (.val undef)).v (fr.getD 5 (.val undef)).v (fr.getD 7 (.val undef)).v (fr.getD 8 (.val undef)).v (fr.getD 23 (.val undef)).v w | _ => False
theorem end_pre_eq (C : Comb) (a0 : Value) (a1 : Value) (a2 : Value) (w : World) (E : Value → World → Prop) (G : Value → Value → Value → Value → Value → Value → World → Prop) : end_pre_x C a0 a1 a2 w E G = Y Try.prog C 10 [] (dropT endK (Try.f47.body.getD .skip)) (end_pre_h E G) [.val a0, .val a1, .val a2, .val undef, .val undef, .val undef, .val undef, .val undef, .val undef, .val undef, .val undef, .val undef, .val undef, .val undef, .val undef, .val undef, .val undef, .val undef, .val undef, .val undef, .val undef, .val undef, .val undef, .val undef, .val undef, .val undef, .val undef, .val undef, .val undef, .val undef, .val undef, .val undef, .val undef, .val undef, .val undef, .val undef, .val undef, .val undef, .val undef, .val undef, .val undef, .val undef, .val undef, .val undef, .val undef, .val undef, .val undef, .val undef, .val undef, .val undef, .val undef, .val undef, .val undef, .val undef, .val undef] w := by kernel_rfl
def end_asg_x (C : Comb) (s : Nat → Value) (w : World) (N : List Sl → World → Prop) : Prop :=
  N [.val (s 0), .val (s 1), .val (s 2), .val (s 3), .val (s 4), .val (s 5), .val (s 6), .val (s 7), .val (s 8), .val (s 24), .val (s 10), .val (s 11), .val (s 12), .val (s 13), .val (s 14), .val (s 15), .val (s 16), .val (s 17), .val (s 18), .val (s 19), .val (s 20), .val (s 21), .val (s 22), .val (s 23), .val (s 24), .val (s 25), .val (s 26), .val (s 27), .val (s 28), .val (s 29), .val (s 30), .val (s 31), .val (s 32), .val (s 33), .val (s 34), .val (s 35), .val (s 36), .val (s 37), .val (s 38), .val (s 39), .val (s 40), .val (s 41), .val (s 42), .val (s 43), .val (s 44), .val (s 45), .val (s 46), .val (s 47), .val (s 48), .val (s 49), .val (s 50), .val (s 51), .val (s 52), .val (s 53), .val (s 54)] w
theorem end_asg_eq (C : Comb) (s : Nat → Value) (w : World) (N : List Sl → World → Prop) : end_asg_x C s w N = Y Try.prog C 10 [] (rangeParts (midT endK (Try.f47.body.getD .skip))).2.2.1 (onN N) ((List.range 55).map fun i => .val (s i)) w := by kernel_rfl
def end_body_x (C : Comb) (s : Nat → Value) (w : World) (N : World → Prop) (B : World → Prop) : Prop :=
  C.step (sLoad 3 (s 8)) w fun v25_1 w =>
  C.step (sLoad 3 (s 5)) w fun v26_1 w =>
  C.step (sBin .eql 3 (.tmp 25) (.tmp 26) v25_1 v26_1) w fun v27_1 w =>
  C.bool v27_1
  (B w)
  (C.draw w fun S_1 w =>
  C.stepS S_1 (sLoad 23 (s 3)) fun v28_1 =>
  C.stepS S_1 (sNil v28_1) fun v29_1 =>
  C.stepS S_1 (sFieldAddr 84 v29_1 0) fun v30_1 =>
  C.stepS S_1 (sLoad 51 v30_1) fun v31_1 =>
  C.stepS S_1 (sLoad 81 (s 7)) fun v32_1 =>
  C.stepS S_1 (sNil v32_1) fun v33_1 =>
  C.stepS S_1 (sFieldAddr 111 v33_1 0) fun v34_1 =>
  C.stepS S_1 (sLoad 3 v34_1) fun v35_1 =>
  C.stepS S_1 (sBin .add 3 (.tmp 35) (.tmp 36) v35_1 (s 9)) fun v37_1 =>
  C.stepS S_1 (sSlice 51 v31_1 (some v37_1) none none) fun v38_1 =>
  C.stepS S_1 (sLoad 81 (s 7)) fun v39_1 =>
  C.stepS S_1 (sNil v39_1) fun v40_1 =>
  C.stepS S_1 (sFieldAddr 111 v40_1 1) fun v41_1 =>
  C.stepS S_1 (sLoad 51 v41_1) fun v42_1 =>
  C.stepS S_1 (sBin .add 3 (.tmp 44) (.const (.int .i64 64)) (s 9) (.int .i64 64)) fun v45_1 =>
  C.stepS S_1 (sSlice 51 v42_1 (some (s 9)) (some v45_1) none) fun v46_1 =>
  C.step (sBuiltin .copy #[51, 51] 3 [false, false] [v38_1, v46_1]) w fun v47_1 w =>
  C.keepT w fun S_2 =>
  C.step (sLoad 3 (s 8)) w fun v48_1 w =>
  C.step (sBin .add 3 (.tmp 48) (.const (.int .i64 1)) v48_1 (.int .i64 1)) w fun v49_1 w =>
  C.step (sStore 3 (s 8) v49_1) w fun vx_1 w =>
  N w)
def end_body_h (N : World → Prop) (B : World → Prop) (e : Exit) (fr : List Sl) (w : World) : Prop := match e with | .normal => N w | .exit 0 => B w | _ => False
theorem end_body_eq (C : Comb) (s : Nat → Value) (w : World) (N : World → Prop) (B : World → Prop) : end_body_x C s w N B = Y Try.prog C 10 [] (rangeParts (midT endK (Try.f47.body.getD .skip))).2.2.2 (end_body_h N B) ((List.range 55).map fun i => .val (s i)) w := by kernel_rfl
def end_rest_x (C : Comb) (s : Nat → Value) (w : World) (E : Value → World → Prop) : Prop :=
  C.step (sLoad 23 (s 3)) w fun v50_1 w =>
  C.step (sNil v50_1) w fun v52_1 w =>
  C.step (sFieldAddr 84 v52_1 1) w fun v53_1 w =>
  C.step (sIndexAddr 82 v53_1 (s 1)) w fun v54_1 w =>
  C.step (sStore 81 v54_1 (.pointer none)) w fun vx_1 w =>
  E (.int .i64 0) w
def end_rest_h (E : Value → World → Prop) (e : Exit) (fr : List Sl) (w : World) : Prop := match e with | .ret => E (fr.getD 6 (.val undef)).v w | _ => False
theorem end_rest_eq (C : Comb) (s : Nat → Value) (w : World) (E : Value → World → Prop) : end_rest_x C s w E = Y Try.prog C 10 [] (endT endK (Try.f47.body.getD .skip)) (end_rest_h E) ((List.range 55).map fun i => .val (s i)) w := by kernel_rfl
def secLoop : Code → Code
  | .seq _ (.block _ (.loop c)) => c
  | _ => .goto 0
def secInit : Code → Code
  | .seq a _ => a
  | _ => .goto 0
def secTest : Code → Code
  | .seq (.seq a _) _ => a
  | _ => .goto 0
def secCall : Code → Code
  | .seq _ (.seq (.block _ (.seq a _)) _) => a
  | _ => .goto 0
def secNext : Code → Code
  | .seq _ (.seq _ a) => a
  | _ => .goto 0
def secO0 : Oper := { dst := some 14, op := .move (.tmp 1), type := 109, pos := "stable.go:73", after := #[], guard := none }
def secO1 : Oper := { dst := some 15, op := .move (.tmp 4), type := 3, pos := "stable.go:73", after := #[], guard := none }
def secO2 : Oper := { dst := some 16, op := .call ⟨.value (.tmp 14), #[(.tmp 15)], #[3]⟩, type := 4, pos := "stable.go:73", after := #[⟨0, .data⟩, ⟨1, .data⟩], guard := none }
def secO3 : Oper := { dst := some 17, op := .unOp .not 4 (.tmp 16), type := 4, pos := "stable.go:73", after := #[⟨2, .data⟩], guard := none }
theorem secCall_eq : secCall (secLoop (Try.f70.body.getD .skip)) = .region 3 #[secO0, secO1, secO2, secO3] false := by kernel_rfl
theorem sec_shape : Try.f70.body = some (.seq (secInit (Try.f70.body.getD .skip)) (.block 0 (.loop (.seq (.seq (secTest (secLoop (Try.f70.body.getD .skip))) (.cond (.tmp 11) .skip (.exit 0))) (.seq (.block 1 (.seq (secCall (secLoop (Try.f70.body.getD .skip))) (.cond (.tmp 17) .ret .skip))) (secNext (secLoop (Try.f70.body.getD .skip)))))))) := by kernel_rfl
theorem end_shape : midT endK (Try.f47.body.getD .skip) = .block 0 (.rangeFunc (.tmp 23) #[24] (rangeParts (midT endK (Try.f47.body.getD .skip))).2.2.1 (rangeParts (midT endK (Try.f47.body.getD .skip))).2.2.2) := by kernel_rfl
def sec_init_x (C : Comb) (s : Nat → Value) (w : World) (N : List Sl → World → Prop) : Prop :=
  N [.val (s 0), .val (s 1), .val (s 2), .val (s 3), .val (.int .i64 0), .val (s 5), .val (s 6), .val (s 7), .val (s 8), .val (s 9), .val (s 10), .val (s 11), .val (s 12), .val (s 13), .val (s 14), .val (s 15), .val (s 16), .val (s 17)] w
theorem sec_init_eq (C : Comb) (s : Nat → Value) (w : World) (N : List Sl → World → Prop) : sec_init_x C s w N = Y Try.prog C 5 [] (secInit (Try.f70.body.getD .skip)) (onN N) ((List.range 18).map fun i => .val (s i)) w := by kernel_rfl
def sec_test_x (C : Comb) (s : Nat → Value) (w : World) (N : List Sl → World → Prop) : Prop :=
  C.step (sNil (s 0)) w fun v7_1 w =>
  C.step (sFieldAddr 111 v7_1 1) w fun v8_1 w =>
  C.step (sLoad 51 v8_1) w fun v9_1 w =>
  C.step (sBuiltin .len #[51] 3 [false] [v9_1]) w fun v10_1 w =>
  C.step (sBin .lss 3 (.tmp 5) (.tmp 10) (s 4) v10_1) w fun v11_1 w =>
  N [.val (s 0), .val (s 1), .val (s 2), .val (s 3), .val (s 4), .val (s 4), .val (s 0), .val v7_1, .val v8_1, .val v9_1, .val v10_1, .val v11_1, .val (s 12), .val (s 13), .val (s 14), .val (s 15), .val (s 16), .val (s 17)] w
theorem sec_test_eq (C : Comb) (s : Nat → Value) (w : World) (N : List Sl → World → Prop) : sec_test_x C s w N = Y Try.prog C 5 [] (secTest (secLoop (Try.f70.body.getD .skip))) (onN N) ((List.range 18).map fun i => .val (s i)) w := by kernel_rfl
def sec_next_x (C : Comb) (s : Nat → Value) (w : World) (N : List Sl → World → Prop) : Prop :=
  C.step (sBin .add 3 (.tmp 12) (.const (.int .i64 64)) (s 4) (.int .i64 64)) w fun v13_1 w =>
  N [.val (s 0), .val (s 1), .val (s 2), .val (s 3), .val v13_1, .val (s 5), .val (s 6), .val (s 7), .val (s 8), .val (s 9), .val (s 10), .val (s 11), .val (s 4), .val v13_1, .val (s 14), .val (s 15), .val (s 16), .val (s 17)] w
theorem sec_next_eq (C : Comb) (s : Nat → Value) (w : World) (N : List Sl → World → Prop) : sec_next_x C s w N = Y Try.prog C 5 [] (secNext (secLoop (Try.f70.body.getD .skip))) (onN N) ((List.range 18).map fun i => .val (s i)) w := by kernel_rfl
end Go.Proofs.Ytplpjikcgheiiaa

/- A range over a write's sectors: it suffices to show what a round does, and what follows. -/
namespace Go.Proofs.Ytplpjikcgheiiaa
open Go Xf Go.RowKit
set_option linter.unusedVariables false
set_option linter.unusedSimpArgs false
set_option maxRecDepth 100000

def slL (k : Nat) (s : Nat → Value) : List Sl := (List.range k).map fun i => .val (s i)
theorem slL_v (k : Nat) (s : Nat → Value) (i : Nat) (h : i < k) : ((slL k s).map Sl.v)[i]? = some (s i) := by simp [slL, Sl.v, h]
theorem act_list {a : Act} {dfs : List Deferred} {k : Nat} (hs : a.tmps.size = k) (hd : a.defers = dfs) : a = actOf dfs (slL k (getA a)) := by
  refine Act.ext' ?_ hd
  apply Array.ext_getElem?
  intro i
  have e : (actOf dfs (slL k (getA a))).tmps[i]? = ((slL k (getA a)).map Sl.v)[i]? := by simp [actOf]
  rw [e]
  by_cases h : i < k
  · rw [slL_v k _ i h]
    have h2 : i < a.tmps.size := by omega
    simp [getA, h2]
  · rw [Array.getElem?_eq_none (by omega), List.getElem?_eq_none (by simp [slL]; omega)]
theorem getA_slL {dfs : List Deferred} {k : Nat} {s : Nat → Value} {i : Nat} (h : i < k) : getA (actOf dfs (slL k s)) i = s i := by
  have := slL_v k s i h
  rw [getA_actOf, getD_v, List.getD_eq_getElem?_getD, this]
  rfl
theorem getA_at {dfs : List Deferred} {fr : List Sl} {i : Nat} {v : Value} (h : fr.getD i (.val undef) = .val v) : getA (actOf dfs fr) i = v := by rw [getA_actOf, h]; rfl

theorem getA_put_ne {a : Act} {d i : Nat} {v : Value} (h : d ≠ i) : getA (a.put (some d) v) i = getA a i := by
  simp [getA, Act.put, Array.getElem?_setIfInBounds_ne h]
theorem getA_put_eq {a : Act} {d : Nat} {v : Value} (h : d < a.tmps.size) : getA (a.put (some d) v) d = v := by
  simp [getA, Act.put, h]
theorem put_size {a : Act} {d : Option Nat} {v : Value} : (a.put d v).tmps.size = a.tmps.size := by
  cases d <;> simp [Act.put]

theorem piece_wp {dfs : List Deferred} {ro : Option Nat} {n nb : Nat} {c : Code} {N : List Sl → World → Prop} {Q : Exit → Act → World → Prop} {fr : List Sl} {w : World} (hd : noDefC c = true)
    (h : Y Try.prog (std Try.prog) nb [] c (onN N) fr w) (hQ : ∀ fr w, N fr w → Q .normal (actOf dfs fr) w) : c.wpIn (wideR ro) n Try.prog Q (actOf dfs fr) w :=
  Y_wpIn mixed hd (fun e fr w he => by
    cases e with
    | normal => exact hQ _ _ he
    | _ => exact he.elim) h

theorem tail_wp {ro : Option Nat} {n nb : Nat} : ∀ (k : Nat) (c : Code) (Q : Exit → Act → World → Prop) (K : Act → World → Prop) (a : Act) (w : World), noDefC (dropT k c) = true →
    (∀ a w, K a w → (midT k c).wpIn (wideR ro) n Try.prog (Exit.then ((endT k c).wpIn (wideR ro) n Try.prog Q) Q) a w) →
    X Try.prog nb (dropT k c) (Exit.then K Q) a w → c.wpIn (wideR ro) n Try.prog Q a w
  | 0, c, Q, K, a, w, hd, hK, h => by
    cases c with
    | seq xb y =>
      cases xb with
      | seq x b =>
        refine wpIn_seq (wpIn_seq (Code.wpIn_mono (fun e a' w' he => ?_) (X_wpIn nb mixed x _ a w hd h)))
        cases e with
        | normal => exact hK _ _ he.1
        | _ => exact he.1
      | _ => exact h.elim
    | _ => exact h.elim
  | k + 1, c, Q, K, a, w, hd, hK, h => by
    cases c with
    | seq x y =>
      have hd' : (noDefC x && noDefC (dropT k y)) = true := hd
      rw [Bool.and_eq_true] at hd'
      refine wpIn_seq (Code.wpIn_mono (fun e a' w' he => ?_) (X_wpIn nb mixed x _ a w hd'.1 h))
      cases e with
      | normal => exact tail_wp k y Q K a' w' hd'.2 hK he.1
      | _ => exact he.1
    | _ => exact h.elim

/-! blocks that are no cells -/
theorem Owns.putAt {w : World} {h F : List (Nat × Obj)} {L : Nat} {o : Obj} (hO : Owns w (h ++ (L, o) :: F)) (o' : Obj) : Owns (w.putObj L o') (h ++ (L, o') :: F) := by
  have hi : (h ++ (L, o) :: F)[h.length]? = some (L, o) := by simp
  have hlt := hO.lt (p := (L, o)) (by simp)
  have := hO.put h.length (o' := o') hi (World.putObj_heap_same (w := w) hlt) (fun k hk => World.putObj_heap_other hk)
  have e : (h ++ (L, o) :: F).set h.length (L, o') = h ++ (L, o') :: F := by simp
  rw [e] at this
  exact this
theorem Upd.putObj (w : World) (L : Nat) (o : Obj) : Upd w (w.putObj L o) [L] := ⟨rfl, rfl, rfl, by simp, fun k hk hn => World.putObj_heap_other (by simpa using hn)⟩
theorem Owns.front {w : World} {h : List (Nat × Obj)} (hO : Owns w h) (o : Obj) : Owns (w.alloc o) (h ++ [(w.heap.size, o)]) := (hO.alloc o).perm (List.perm_append_singleton _ _).symm

section
variable {W : World} {ks : List Nat}

/-- what is ranged over: it calls yield with each sector's place -/
theorem sec_calls {L gw nn n : Nat} {cs : Array Value} {e : TypeId} {fr : Nat × Nat} {A : Option Addr} {c : Nat} (St : Nat → World → Prop) (StB : World → Prop) (hn : 64 * nn ≤ 1000000000)
    (hw : ∀ i w, i ≤ nn → St i w → w.cell? ⟨gw, 1, none⟩ = some (.slice A (64 * nn) c))
    (hy : ∀ i w m, i < nn → St i w → ∃ fn tmps assign body, (Instr.yield L #[.int .i64 (64 * i : Nat)]).run Try.prog w = .ok (.round L fn tmps assign body) w ∧
      RoundIn Fence.wide m Try.prog L fn tmps assign body w fun e w' => (e = .returned (.bool true) ∧ St (i + 1) w') ∨ (e = .returned (.bool false) ∧ StB w'))
    {w : World} (h0 : St 0 w) :
    CallsIn Fence.wide n Try.prog 70 #[.pointer (some ⟨gw, 0, none⟩), .func (.yield L) #[] #[]] w fun e w' => (∃ v, e = .returned v) ∧ (St nn w' ∨ StB w') := by
  refine callsIn_of_wp Try.func70 sec_shape trivial ?_
  have hres : Try.f70.results = #[] := by kernel_rfl
  have hend : ∀ (a : Act) (w : World), a.defers = [] → (St nn w ∨ StB w) → a.defers = [] ∧ ∃ v, (results Try.f70 a.tmps).run Try.prog w = .ok v w ∧ (∃ u, Ending.returned v = .returned u) ∧ (St nn w ∨ StB w) :=
    fun a w hd h => ⟨hd, _, results_none hres a.tmps Try.prog w, ⟨_, rfl⟩, h⟩
  have hn : Try.f70.ntmps = 18 := by kernel_rfl
  rw [hn]
  generalize ha0 : ({ tmps := #[Value.pointer (some ⟨gw, 0, none⟩), .func (.yield L) #[] #[]] ++ Array.replicate (18 - (#[Value.pointer (some ⟨gw, 0, none⟩), .func (.yield L) #[] #[]] : Array Value).size) undef, defers := [] } : Act) = a0
  have hs0 : a0.tmps.size = 18 := by rw [← ha0]; simp
  have hd0 : a0.defers = [] := by rw [← ha0]
  have g0 : getA a0 0 = .pointer (some ⟨gw, 0, none⟩) := by rw [← ha0]; simp [getA]
  have g1 : getA a0 1 = .func (.yield L) #[] #[] := by rw [← ha0]; simp [getA]
  rw [act_list hs0 hd0]
  generalize getA a0 = s at *
  refine wpIn_seq (piece_wp (ro := none) (N := fun fr w => (actOf [] fr).tmps.size = 18 ∧ getA (actOf [] fr) 0 = .pointer (some ⟨gw, 0, none⟩) ∧ getA (actOf [] fr) 1 = .func (.yield L) #[] #[] ∧ getA (actOf [] fr) 4 = .int .i64 0 ∧ St 0 w)
    (by kernel_rfl) (Eq.mp (sec_init_eq _ s w _) ?_) ?_)
  · exact ⟨rfl, g0, g1, rfl, h0⟩
  rintro fr w ⟨hs, g0, g1, g4, hI⟩
  show (Code.block 0 _).wpIn Fence.wide n Try.prog _ (actOf [] fr) w
  refine wpIn_block (wpIn_loop (fun a w => ∃ i : Nat, i ≤ nn ∧ a.tmps.size = 18 ∧ a.defers = [] ∧ getA a 0 = .pointer (some ⟨gw, 0, none⟩) ∧ getA a 1 = .func (.yield L) #[] #[] ∧ getA a 4 = .int .i64 (64 * i : Nat) ∧ St i w)
    (fun a w => 64 * nn - (match getA a 4 with | .int _ m => m.toNat | _ => 0)) ⟨0, Nat.zero_le _, hs, rfl, g0, g1, g4, hI⟩ ?_)
  clear hs g0 g1 g4 hI
  rintro a w1 ⟨i, hi, hs, hd, g0, g1, g4, hI⟩
  rw [g4]
  rw [act_list hs hd]
  generalize getA a = s at *
  have c1 := hw i w1 hi hI
  refine wpIn_seq (wpIn_seq (piece_wp (ro := none) (N := fun fr w' => (actOf [] fr).tmps.size = 18 ∧ getA (actOf [] fr) 0 = .pointer (some ⟨gw, 0, none⟩) ∧ getA (actOf [] fr) 1 = .func (.yield L) #[] #[] ∧ getA (actOf [] fr) 4 = .int .i64 (64 * i : Nat) ∧ getA (actOf [] fr) 11 = .bool (decide (((64 * i : Nat) : Int) < (64 * nn : Nat))) ∧ w' = w1)
    (by kernel_rfl) (Eq.mp (sec_test_eq _ s w1 _) ?_) ?_))
  · unfold sec_test_x
    simp (disch := first | assumption | omega) only [g0, g4, PX, BX, LX, add_mk, Nat.reduceAdd]
    exact ⟨rfl, rfl, g1, rfl, rfl, trivial⟩
  rintro fr w' ⟨hs, g0, g1, g4, g11, hw'⟩
  subst w'
  by_cases hlt : i < nn
  case neg =>
    refine wpIn_cond_false (by rw [show (actOf [] fr).eval (.tmp 11) = getA (actOf [] fr) 11 from rfl, g11, decide_eq_false (by omega)]) (wpIn_exit ?_)
    obtain rfl : i = nn := by omega
    exact hend _ _ rfl (.inl hI)
  refine wpIn_cond_true (by rw [show (actOf [] fr).eval (.tmp 11) = getA (actOf [] fr) 11 from rfl, g11, decide_eq_true (by omega)]) (wpIn_skip ?_)
  show (Code.seq _ _).wpIn Fence.wide n Try.prog _ (actOf [] fr) w1
  refine wpIn_seq (wpIn_block (wpIn_seq ?_))
  rw [secCall_eq]
  refine wpIn_region_list ?_
  show wpListIn Fence.wide n Try.prog _ _ [secO0, secO1, secO2, secO3] _ _
  generalize hfr : actOf [] fr = a1 at *
  have hd1 : a1.defers = [] := by rw [← hfr]; rfl
  refine wpListIn_plain rfl fun K0 hK0 => opX_wpIn (ro := none) (K := fun v w2 => v = .func (.yield L) #[] #[] ∧ w2 = w1) (by intro c h; cases h) (show _ ∧ _ from ⟨g1, rfl⟩) ?_
  rintro _ u2 ⟨rfl, hu2⟩
  subst u2
  refine hK0 _ _ ?_
  refine wpListIn_plain rfl fun K1 hK1 => opX_wpIn (ro := none) (K := fun v w2 => v = .int .i64 (64 * i : Nat) ∧ w2 = w1) (by intro c h; cases h) (show _ ∧ _ from ⟨?_, rfl⟩) ?_
  · exact (getA_put_ne (by decide)).trans g4
  rintro _ u2 ⟨rfl, hu2⟩
  subst u2
  refine hK1 _ _ ?_
  generalize ha2 : (a1.put secO0.dst (.func (.yield L) #[] #[])).put secO1.dst (.int .i64 (64 * i : Nat)) = a2
  have hs2 : a2.tmps.size = 18 := by rw [← ha2, put_size, put_size]; exact hs
  have hd2 : a2.defers = [] := by rw [← ha2]; exact hd1
  have k0 : getA a2 0 = .pointer (some ⟨gw, 0, none⟩) := by rw [← ha2]; exact (getA_put_ne (by decide)).trans ((getA_put_ne (by decide)).trans g0)
  have k1 : getA a2 1 = .func (.yield L) #[] #[] := by rw [← ha2]; exact (getA_put_ne (by decide)).trans ((getA_put_ne (by decide)).trans g1)
  have k4 : getA a2 4 = .int .i64 (64 * i : Nat) := by rw [← ha2]; exact (getA_put_ne (by decide)).trans ((getA_put_ne (by decide)).trans g4)
  have k14 : getA a2 14 = .func (.yield L) #[] #[] := by rw [← ha2]; exact (getA_put_ne (by decide)).trans (getA_put_eq (by rw [hs]; decide))
  have k15 : getA a2 15 = .int .i64 (64 * i : Nat) := by rw [← ha2]; exact getA_put_eq (by rw [put_size, hs]; decide)
  clear hfr ha2 hK0 hK1
  refine wpListIn_plain rfl fun K2 hK2 => ⟨fun _ _ => trivial, ?_⟩
  obtain ⟨fn, tmps, assign, body, hrun, hround⟩ := hy i w1 (n - 1) hlt hI
  rw [Oper.semAt_eq _ _ _ (by intro c h; cases h)]
  have he : (execOp a2.eval secO2).run Try.prog w1 = .ok (.round L fn tmps assign body) w1 := by
    rw [← semX_eq]
    show (sCallV (getA a2 14) [getA a2 15]).run Try.prog w1 = _
    rw [k14, k15, ← hrun]
    unfold sCallV Deferred.ofValue
    simp [Sem.run_bind, invoke]
  rw [he]
  rw [Oper.uponIn_round]
  refine ⟨fun h => (by cases h), RoundIn.mono hround ?_⟩
  have fin : ∀ (b : Bool) (w2 : World), (b = true → St (i + 1) w2) → (b = false → StB w2) → K2 (a2.put secO2.dst (.bool b)) w2 := by
    intro b w2 h1 h2
    refine hK2 _ _ ?_
    refine wpListIn_plain rfl fun K3 hK3 => opX_wpIn (ro := none) (K := fun v w3 => v = .bool (!b) ∧ w3 = w2) (by intro c h; cases h) ?_ ?_
    · show StepX Try.prog (sUn .not (getA (a2.put secO2.dst (.bool b)) 16)) w2 _
      rw [show getA (a2.put secO2.dst (.bool b)) 16 = .bool b from getA_put_eq (by rw [hs2]; decide)]
      unfold StepX
      rw [r_not]
      exact ⟨rfl, rfl⟩
    rintro _ u2 ⟨rfl, hu2⟩
    subst u2
    refine hK3 _ _ ?_
    generalize ha3 : (a2.put secO2.dst (.bool b)).put secO3.dst (.bool (!b)) = a3
    have hs3 : a3.tmps.size = 18 := by rw [← ha3, put_size, put_size]; exact hs2
    have hd3 : a3.defers = [] := by rw [← ha3]; exact hd2
    have m0 : getA a3 0 = .pointer (some ⟨gw, 0, none⟩) := by rw [← ha3]; exact (getA_put_ne (by decide)).trans ((getA_put_ne (by decide)).trans k0)
    have m1 : getA a3 1 = .func (.yield L) #[] #[] := by rw [← ha3]; exact (getA_put_ne (by decide)).trans ((getA_put_ne (by decide)).trans k1)
    have m4 : getA a3 4 = .int .i64 (64 * i : Nat) := by rw [← ha3]; exact (getA_put_ne (by decide)).trans ((getA_put_ne (by decide)).trans k4)
    have m17 : getA a3 17 = .bool (!b) := by rw [← ha3]; exact getA_put_eq (by rw [put_size, hs2]; decide)
    clear ha3 hK3
    cases b with
    | false =>
      refine wpIn_cond_true (show getA a3 17 = _ from m17) (wpIn_ret ?_)
      exact hend _ _ hd3 (.inr (h2 rfl))
    | true =>
      refine wpIn_cond_false (show getA a3 17 = _ from m17) (wpIn_skip ?_)
      show (secNext _).wpIn Fence.wide n Try.prog _ a3 _
      rw [act_list hs3 hd3]
      generalize getA a3 = s at *
      refine piece_wp (ro := none) (N := fun fr w' => (actOf [] fr).tmps.size = 18 ∧ getA (actOf [] fr) 0 = .pointer (some ⟨gw, 0, none⟩) ∧ getA (actOf [] fr) 1 = .func (.yield L) #[] #[] ∧ getA (actOf [] fr) 4 = .int .i64 (64 * (i + 1) : Nat) ∧ w' = w2)
        (by kernel_rfl) (Eq.mp (sec_next_eq _ s w2 _) ?_) ?_
      · unfold sec_next_x
        have e : IntKind.wrap .i64 (((64 * i : Nat) : Int) + 64) = ((64 * (i + 1) : Nat) : Int) := by rw [IntKind.wrap_i64]; omega
        simp (disch := first | assumption | omega) only [m4, PX, BX, e]
        exact ⟨rfl, m0, m1, rfl, trivial⟩
      rintro fr w3 ⟨q1, q2, q3, q4, hu2⟩
      subst w3
      refine ⟨⟨i + 1, hlt, q1, rfl, q2, q3, q4, h1 rfl⟩, ?_⟩
      rw [q4]
      simp only [Int.toNat_natCast]
      omega
  rintro e w2 (⟨rfl, hx⟩ | ⟨rfl, hx⟩)
  · exact fin true w2 (fun _ => hx) (fun h => by cases h)
  · exact fin false w2 (fun h => by cases h) (fun _ => hx)

/-- what is asked where the range begins: of the slots 3 (the device), 1 (the hand), 5 (how many), 7 (the write), 8 (the count) and 23 (what is ranged over) -/
def EndG (W : World) (ks : List Nat) (Q : Value → World → Prop) (v3 v1 v5 v7 v8 v23 : Value) (w : World) : Prop :=
  ∃ (gw : Nat) (at_ : Int) (A : Option Addr) (c nn : Nat) (e : TypeId) (fr : Nat × Nat) (h0 : List (Nat × Obj)) (Hs : Nat → List (Nat × Obj) → Prop) (HB : List (Nat × Obj) → Prop) (RR : Value → List (Nat × Obj) → Prop),
    v23 = .func (.func 70) #[.pointer (some ⟨gw, 0, none⟩)] #[] ∧ 64 * nn ≤ 1000000000 ∧ Upd W w ks ∧ Owns w h0 ∧ Hs 0 h0 ∧
    (∀ i h, i ≤ nn → Hs i h → (gw, .cells #[.int .i64 at_, .slice A (64 * nn) c] e fr) ∈ h) ∧
    (∀ (i : Nat) (h F : List (Nat × Obj)) (w : World) (s : Nat → Value), i < nn → Hs i h → Upd W w ks → Owns w (h ++ F) → s 3 = v3 → s 5 = v5 → s 7 = v7 → s 8 = v8 → s 9 = .int .i64 (64 * i : Nat) →
      end_body_x (std Try.prog) s w (fun w' => ∃ h', Hs (i + 1) h' ∧ Upd W w' ks ∧ Owns w' (h' ++ F)) (fun w' => ∃ h', HB h' ∧ Upd W w' ks ∧ Owns w' (h' ++ F))) ∧
    (∀ (h F : List (Nat × Obj)) (w : World) (s : Nat → Value), (Hs nn h ∨ HB h) → Upd W w ks → Owns w (h ++ F) → s 3 = v3 → s 1 = v1 →
      end_rest_x (std Try.prog) s w (fun v w' => ∃ h', RR v h' ∧ Upd W w' ks ∧ Owns w' (h' ++ F))) ∧
    (∀ v h w, RR v h → Upd W w ks → Owns w h → Q v w)

theorem end_walk {w : World} {a0 a1 a2 : Value} {Q : Value → World → Prop} (h : end_pre_x (std Try.prog) a0 a1 a2 w Q (EndG W ks Q)) : CallsR Try.prog 47 #[a0, a1, a2] w Q := by
  refine (callsIn_wide (n := 5)).1 (callsIn_of_wp_marks Try.func47 (show Try.f47.body = some (Try.f47.body.getD .skip) by kernel_rfl) trivial ?_)
  have hn : Try.f47.ntmps = 55 := by kernel_rfl
  have hres : Try.f47.results = #[.tmp 6] := by kernel_rfl
  rw [hn]
  have hact : ({ tmps := #[a0, a1, a2] ++ Array.replicate (55 - (#[a0, a1, a2] : Array Value).size) undef, defers := [] } : Act) = actOf [] [.val a0, .val a1, .val a2, .val undef, .val undef, .val undef, .val undef, .val undef, .val undef, .val undef, .val undef, .val undef, .val undef, .val undef, .val undef, .val undef, .val undef, .val undef, .val undef, .val undef, .val undef, .val undef, .val undef, .val undef, .val undef, .val undef, .val undef, .val undef, .val undef, .val undef, .val undef, .val undef, .val undef, .val undef, .val undef, .val undef, .val undef, .val undef, .val undef, .val undef, .val undef, .val undef, .val undef, .val undef, .val undef, .val undef, .val undef, .val undef, .val undef, .val undef, .val undef, .val undef, .val undef, .val undef, .val undef] := by kernel_rfl
  rw [hact]
  refine tail_wp (ro := none) (nb := 10) endK _ _ (fun a w => a.tmps.size = 55 ∧ a.defers = [] ∧ EndG W ks Q (getA a 3) (getA a 1) (getA a 5) (getA a 7) (getA a 8) (getA a 23) w) _ w (by kernel_rfl) ?_ ?_
  case refine_2 =>
    have h1 := Y_out (dfs := []) _ (end_pre_h Q (EndG W ks Q)) (fun e a w => match e with | .ret => Q (getA a 6) w | .normal => EndG W ks Q (getA a 3) (getA a 1) (getA a 5) (getA a 7) (getA a 8) (getA a 23) w | _ => False) _ w
      (fun e fr w he => by
        cases e with
        | ret => exact (getA_actOf fr 6).symm ▸ he
        | normal =>
          show EndG W ks Q (getA (actOf [] fr) 3) _ _ _ _ _ w
          simp only [getA_actOf]
          exact he
        | _ => exact he.elim) (Eq.mp (end_pre_eq (std Try.prog) a0 a1 a2 w Q (EndG W ks Q)) h)
    refine X_mono 10 _ _ _ _ _ (fun e a' w' he => ?_) (X_agree 10 _ _ _ _ h1)
    obtain ⟨he, hag⟩ := he
    cases e with
    | normal => exact ⟨hag.2.1, hag.1, he⟩
    | ret =>
      show LeavesInM Fence.wide 5 Try.prog _ _ _ a'.defers .returning w'
      rw [show a'.defers = [] from hag.1]
      exact ⟨_, results_tmp hres a'.tmps Try.prog w', _, rfl, he⟩
    | _ => exact he.elim
  rintro a w ⟨hs, hd, gw, at_, A, c, nn, e, fr, h0, Hs, HB, RR, e23, hnn, hU, hO, hH0, hmem, hbody, hrest, hfin⟩
  rw [end_shape]
  generalize hasg : (rangeParts (midT endK (Try.f47.body.getD .skip))).2.2.1 = asg
  generalize hbd : (rangeParts (midT endK (Try.f47.body.getD .skip))).2.2.2 = bd
  refine wpIn_block (wpIn_rangeFunc ?_)
  intro fn hfn
  obtain ⟨rec, hrec⟩ : ∃ rec : LoopState → Option Code → Loop, rec = fun st pe => { state := st, pending := pe, fn, tmps := a.tmps, params := #[24], assign := asg, body := bd, defers := w.heap.size } := ⟨_, rfl⟩
  obtain ⟨D, hD⟩ : ∃ D, D = w.heap.size := ⟨_, rfl⟩
  obtain ⟨L, hL⟩ : ∃ L, L = w.heap.size + 1 := ⟨_, rfl⟩
  have hWD : W.heap.size ≤ D := by rw [hD]; exact hU.size
  have hWL : W.heap.size ≤ L := by rw [hL]; have := hU.size; omega
  obtain ⟨W1, hW1⟩ : ∃ W1, (w.alloc (.deferred (some []))).alloc (.loop (rec .ready none)) = W1 := ⟨_, rfl⟩
  have hO1 : Owns W1 (h0 ++ [(L, .loop (rec .ready none)), (D, .deferred (some []))]) := by
    have h1 := (hO.alloc (.deferred (some []))).alloc (.loop (rec .ready none))
    rw [World.size_alloc, hW1, ← hL, ← hD] at h1
    exact h1.perm (List.perm_append_comm (l₁ := [_, _]))
  have hU1 : Upd W W1 ks := by
    rw [← hW1]
    exact (hU.then_ (Upd.alloc _ _ []) fun x hx => by cases hx).then_ (Upd.alloc _ _ []) fun x hx => by cases hx
  have hput : ∀ {w' : World} (k : Nat) (o : Obj), Upd W w' ks → W.heap.size ≤ k → Upd W (w'.putObj k o) ks := fun k o hu hk => hu.then_ (Upd.putObj _ _ _) fun x hx => by simp at hx; subst hx; exact .inr hk
  refine ⟨L, [{ target := .collected D, args := #[] }], W1, { target := .fn (.func 70) #[], args := #[.pointer (some ⟨gw, 0, none⟩), .func (.yield L) #[] #[]] }, W1, 70,
    #[.pointer (some ⟨gw, 0, none⟩), .func (.yield L) #[] #[]], W1, ?_, ?_, fun _ _ => trivial, ?_, fun h => (by cases h), ?_⟩
  · rw [← hW1, hrec, hL, hD]; exact run_enterLoop_outer _ _ _ _ _
  · have this : a.tmps[23]?.getD undef = .func (.func 70) #[.pointer (some ⟨gw, 0, none⟩)] #[] := by simpa [getA] using e23
    simp [resolve, rangeCall, this, Deferred.ofValue, Act.eval]
  · have := callable_run (P := Try.prog) (f := 70) (by kernel_rfl) #[.pointer (some ⟨gw, 0, none⟩), .func (.yield L) #[] #[]] W1
    simp only [invoke, Array.append_empty]
    exact this
  · have hsec := sec_calls (n := 4) (L := L) (gw := gw) (nn := nn) (cs := #[]) (e := e) (fr := fr) (A := A) (c := c)
      (fun i w' => ∃ h, Hs i h ∧ Upd W w' ks ∧ Owns w' (h ++ [(L, .loop (rec .ready none)), (D, .deferred (some []))]))
      (fun w' => ∃ h, HB h ∧ Upd W w' ks ∧ Owns w' (h ++ [(L, .loop (rec .done (some (.exit 0)))), (D, .deferred (some []))])) hnn ?_ ?_ (w := W1) ⟨h0, hH0, hU1, hO1⟩
    · refine CallsIn.mono hsec ?_
      rintro e' w3 ⟨⟨v, rfl⟩, hx⟩
      -- behind the range
      have rest : ∀ (h' : List (Nat × Obj)) (o : Obj) (w4 : World), (Hs nn h' ∨ HB h') → Upd W w4 ks → Owns w4 (h' ++ [(L, o), (D, .deferred (some []))]) →
          (endT endK (Try.f47.body.getD .skip)).wpIn Fence.wide 5 Try.prog (bodyPostM Fence.wide 5 Try.prog Try.f47 fun e w' => ∃ v, e = .returned v ∧ Q v w') { a with defers := [{ target := .collected D, args := #[] }] ++ a.defers } w4 := by
        intro h' o w4 hh hU4 hO4
        rw [act_list (a := { a with defers := [{ target := .collected D, args := #[] }] ++ a.defers }) (dfs := [{ target := .collected D, args := #[] }]) hs (by rw [hd]; rfl)]
        have e3 : getA { a with defers := [{ target := .collected D, args := #[] }] ++ a.defers } 3 = getA a 3 := rfl
        have e1 : getA { a with defers := [{ target := .collected D, args := #[] }] ++ a.defers } 1 = getA a 1 := rfl
        generalize getA { a with defers := [{ target := .collected D, args := #[] }] ++ a.defers } = s at *
        refine Y_wpIn (ro := none) mixed (by kernel_rfl) ?_ (Eq.mp (end_rest_eq (std Try.prog) s w4 _) (hrest h' [(L, o), (D, .deferred (some []))] w4 s hh hU4 hO4 e3 e1))
        intro e'' fr'' w5 hq
        cases e'' with
        | ret =>
          obtain ⟨h5, hR, hU5, hO5⟩ := hq
          have hDh : w5.heap[D]? = some (.deferred (some [])) := hO5.2 (D, _) (by simp)
          refine ⟨fun h => (by cases h), .inl ⟨D, _, rfl, run_takeDeferred hDh, ?_⟩⟩
          refine ⟨_, results_tmp hres _ Try.prog _, _, rfl, ?_⟩
          refine hfin _ h5 _ ?_ (hput D _ hU5 hWD) ?_
          · show RR (getA (actOf [{ target := .collected D, args := #[] }] fr'') 6) h5
            rw [getA_actOf]
            exact hR
          · have := (show Owns w5 ((h5 ++ [(L, o)]) ++ (D, .deferred (some [])) :: []) by simpa using hO5).putAt (.deferred none)
            exact this.sub (by simp)
        | _ => exact hq.elim
      rcases hx with ⟨h3, hh3, hU3, hO3⟩ | ⟨h3, hh3, hU3, hO3⟩
      · have hLh : w3.heap[L]? = some (.loop (rec .ready none)) := hO3.2 (L, _) (by simp)
        refine ⟨none, _, by have := run_endLoop (P := Try.prog) hLh (by rw [hrec]; intro h; cases h); rw [hrec] at this; exact this, ?_⟩
        exact rest h3 _ _ (.inl hh3) (hput L _ hU3 hWL) (hO3.putAt _)
      · have hLh : w3.heap[L]? = some (.loop (rec .done (some (.exit 0)))) := hO3.2 (L, _) (by simp)
        refine ⟨some (.exit 0), _, by have := run_endLoop (P := Try.prog) hLh (by rw [hrec]; intro h; cases h); rw [hrec] at this; exact this, wpIn_exit ?_⟩
        exact rest h3 _ _ (.inr hh3) (hput L _ hU3 hWL) (hO3.putAt _)
    · rintro i w' hi ⟨h', hh', hU', hO'⟩
      have := hO'.2 _ (List.mem_append_left _ (hmem i h' hi hh'))
      exact cell_at this
    · rintro i w' m hi ⟨h', hh', hU', hO'⟩
      have hLh : w'.heap[L]? = some (.loop (rec .ready none)) := hO'.2 (L, _) (by simp)
      have hy := run_yield (P := Try.prog) (args := #[.int .i64 (64 * i : Nat)]) hLh (by rw [hrec]; rfl)
      rw [hrec] at hy
      refine ⟨fn, _, asg, bd, hy, roundIn_of_wpIn hfn ?_⟩
      generalize ha1 : ({ tmps := (Array.zip (#[24] : Array Tmp) #[Value.int .i64 (64 * i : Nat)]).foldl (fun tmps (t, a) => tmps.setIfInBounds t a) a.tmps, defers := [] } : Act) = a1
      have ht : a1 = { a with defers := [] }.put (some 24) (.int .i64 (64 * i : Nat)) := by rw [← ha1]; simp [Act.put]
      have hs1 : a1.tmps.size = 55 := by rw [ht, put_size]; exact hs
      have hd1 : a1.defers = [] := by rw [ht]; rfl
      have k24 : getA a1 24 = .int .i64 (64 * i : Nat) := by rw [ht]; exact getA_put_eq (by rw [hs]; decide)
      have k3 : getA a1 3 = getA a 3 := by rw [ht]; exact getA_put_ne (by decide)
      have k5 : getA a1 5 = getA a 5 := by rw [ht]; exact getA_put_ne (by decide)
      have k7 : getA a1 7 = getA a 7 := by rw [ht]; exact getA_put_ne (by decide)
      have k8 : getA a1 8 = getA a 8 := by rw [ht]; exact getA_put_ne (by decide)
      clear ha1 ht
      rw [act_list hs1 hd1]
      generalize getA a1 = s at *
      rw [← hasg]
      refine piece_wp (ro := some L) (N := fun fr w2 => (actOf [] fr).tmps.size = 55 ∧ getA (actOf [] fr) 3 = getA a 3 ∧ getA (actOf [] fr) 5 = getA a 5 ∧ getA (actOf [] fr) 7 = getA a 7 ∧ getA (actOf [] fr) 8 = getA a 8 ∧ getA (actOf [] fr) 9 = .int .i64 (64 * i : Nat) ∧ w2 = w')
        (by kernel_rfl) (Eq.mp (end_asg_eq _ s w' _) ?_) ?_
      · exact ⟨rfl, k3, k5, k7, k8, k24, rfl⟩
      rintro fr2 w2 ⟨q0, q3, q5, q7, q8, q9, hw2⟩
      subst w2
      refine ⟨_, run_beginRound hLh (by rw [hrec]), ?_⟩
      have hO2 := hO'.putAt (.loop { rec .ready none with state := .busy })
      have hU2 := hput L (.loop { rec .ready none with state := .busy }) hU' hWL
      generalize w'.putObj L (.loop { rec .ready none with state := .busy }) = w2 at *
      rw [act_list (a := actOf [] fr2) (dfs := []) q0 rfl]
      generalize getA (actOf [] fr2) = s2 at *
      rw [← hbd]
      refine Y_wpIn (ro := some L) mixed (by kernel_rfl) ?_ (Eq.mp (end_body_eq (std Try.prog) s2 w2 _ _) (hbody i h' _ w2 s2 hi hh' hU2 hO2 q3 q5 q7 q8 q9))
      intro e' fr' w3 hq
      cases e' with
      | normal =>
        obtain ⟨h3, hh3, hU3, hO3⟩ := hq
        have hL3 : w3.heap[L]? = some (.loop { rec .ready none with state := .busy }) := hO3.2 (L, _) (by simp)
        refine ⟨_, _, run_endRound none hL3, .inl ⟨rfl, h3, hh3, hput L _ hU3 hWL, ?_⟩⟩
        have := hO3.putAt (.loop (rec .ready none))
        rw [hrec] at this ⊢
        exact this
      | exit id =>
        match id, hq with
        | 0, hq =>
          obtain ⟨h3, hh3, hU3, hO3⟩ := hq
          have hL3 : w3.heap[L]? = some (.loop { rec .ready none with state := .busy }) := hO3.2 (L, _) (by simp)
          refine ⟨_, _, run_endRound (some (.exit 0)) hL3, .inr ⟨rfl, h3, hh3, hput L _ hU3 hWL, ?_⟩⟩
          have := hO3.putAt (.loop (rec .done (some (.exit 0))))
          rw [hrec] at this ⊢
          exact this
        | _ + 1, hq => exact hq.elim
      | _ => exact hq.elim
end
end Go.Proofs.Ytplpjikcgheiiaa

/- What ends a write: end, Finish, Crash. -/
namespace Go.Proofs.Ytplpjikcgheiiaa
open Go Xf Go.RowKit
set_option linter.unusedVariables false
set_option linter.unusedSimpArgs false
set_option maxRecDepth 100000

variable {w W : World} {ks : List Nat} {F : List (Nat × Obj)}

theorem putB_zero (B : List UInt8) (a : Nat) (b : List UInt8) : putB B a b 0 = B := by simp [putB]
theorem putB_step {B : List UInt8} {a : Nat} {b : List UInt8} {i : Nat} (h : a + b.length ≤ B.length) (hi : i + 64 ≤ b.length) :
    (putB B a b i).take (a + i) ++ (b.drop i).take 64 ++ (putB B a b i).drop (a + i + 64) = putB B a b (i + 64) := by
  have hl : (B.take a ++ b.take i).length = a + i := by simp only [List.length_append, List.length_take]; omega
  unfold putB
  rw [show a + i = (B.take a ++ b.take i).length from hl.symm, List.take_left, List.drop_length_add_append]
  rw [hl, List.drop_drop, List.take_add, List.append_assoc, List.append_assoc, List.append_assoc, List.append_assoc, Nat.add_assoc]
theorem mk_sec (v : Value) (w : World) : (sMakeFunc (.func 70) [v] []).run Try.prog w = .ok (.value (.func (.func 70) #[v] #[])) w := by kernel_rfl

theorem take_mid {α : Type} {l c : List α} {k n : Nat} (hc : c.length = 64) (hk : k + 64 ≤ n) (hn : n ≤ l.length) : (l.take k ++ c ++ l.drop (k + 64)).take n = (l.take n).take k ++ c ++ (l.take n).drop (k + 64) := by
  have hA : (l.take k ++ c).length = k + 64 := by rw [List.length_append, List.length_take, hc]; omega
  rw [List.take_append, List.take_of_length_le (by omega), hA, List.take_take, Nat.min_eq_left (by omega), List.drop_take]

/-- 64 bytes of a write are copied onto the device -/
theorem run_copy64 (w : World) {g k cap gb i capb : Nat} {cur cs : Array Value} {n : Nat} {c : List Bool} {fb : Nat × Nat} (hg : w.heap[g]? = some (.cells cur 5 (0, 0))) (hk : k + 64 ≤ n) (hn : n ≤ cur.size) (hb : w.heap[gb]? = some (.cells cs 5 fb)) (hi : i + 64 ≤ cs.size) (h1 : ∀ v ∈ (cs.toList.drop i).take 64, v.oneCell' = true) (ty : TypeId) :
    (sBuiltin .copy #[51, 51] ty c [.slice (some ⟨g, k, none⟩) (n - k) cap, .slice (some ⟨gb, i, none⟩) 64 capb]).run Try.prog w =
      .ok (.value (.int .i64 64)) (w.setRow g (cur.toList.take k ++ (cs.toList.drop i).take 64 ++ cur.toList.drop (k + 64)).toArray) := by
  have hl : ((cs.toList.drop i).take 64).length = 64 := by simp only [List.length_take, List.length_drop, Array.length_toList]; omega
  have hmin : Nat.min 64 (n - k) = 64 := Nat.min_eq_left (by omega)
  have hr := run_copyN (P := Try.prog) w 51 51 ty 5 1 g k (n - k) cap ⟨gb, i, none⟩ 64 capb cur 5 ((cs.toList.drop i).take 64) u51 sz5 hg (by rw [hmin, hl])
    (fun j v hj => by
      rw [add_mk, cell_at hb]
      rw [List.getElem?_take] at hj
      split at hj
      · rw [List.getElem?_drop] at hj
        simpa using hj
      · cases hj) (by rw [hl]; omega) h1
  rw [hl, hmin] at hr
  show (do pure (.value (← Builtin.copy_ #[51, 51] ty #[.slice (some ⟨g, k, none⟩) (n - k) cap, .slice (some ⟨gb, i, none⟩) 64 capb])) : Sem Next).run Try.prog w = _
  rw [Sem.run_bind, hr]
  rfl

theorem end_nil (w : World) (hand most : Int) : CallsR Try.prog 47 #[.pointer none, .int .i64 hand, .int .i64 most] w fun r w' => r = .int .i64 1 ∧ Upd w w' [] := by
  refine end_walk (W := w) (ks := []) ?_
  unfold end_pre_x
  refine st_box (Upd.refl w []) (Owns.nil w) ?_
  intro g3 w1 hU1 hO1 hg3
  refine st_box hU1 hO1 ?_
  intro g5 w2 hU2 hO2 hg5
  have c3 : w2.cell? ⟨g3, 0, none⟩ = some (.pointer none) := cell_at (hO2.at_ 1 rfl)
  simp (disch := first | assumption | omega) only [PX, BX, LX]
  refine st_call (known_nil w2 hand) ?_
  rintro _ u' ⟨rfl, hu'⟩
  subst u'
  simp (disch := first | assumption | omega) only [PX, BX, LX]
  exact ⟨trivial, hU2⟩

theorem end_spec {d : Dv} {v : Value} {h : List (Nat × Obj)} (ok : DvOk d) (hd : DevH d v h) (hO : Owns w (h ++ F)) (hU : Upd W w ks) (hh : ∀ p ∈ h, p.1 ∈ ks ∨ W.heap.size ≤ p.1) (hand most : Int) :
    CallsR Try.prog 47 #[v, .int .i64 hand, .int .i64 most] w fun r w' => r = .int .i64 (endD d hand most).2 ∧ Upd W w' ks ∧
      ∃ h', DevH (endD d hand most).1 v h' ∧ Owns w' (h' ++ F) ∧ ∀ p ∈ h', p.1 ∈ ks ∨ W.heap.size ≤ p.1 := by
  refine end_walk (W := W) (ks := ks) ?_
  unfold end_pre_x
  have hsub : ∀ p ∈ h, p ∈ h ++ F := fun p hp => List.mem_append_left _ hp
  have hd0 := hd
  obtain ⟨g, vb, vs, hb, hu, rfl, rfl, hrow, hupin⟩ := hd0
  refine st_box hU hO ?_
  intro g3 w1 hU1 hO1 hg3
  refine st_box hU1 hO1 ?_
  intro g5 w2 hU2 hO2 hg5
  have c3 : w2.cell? ⟨g3, 0, none⟩ = some (.pointer (some ⟨g, 0, none⟩)) := cell_at (hO2.at_ 1 rfl)
  simp (disch := first | assumption | omega) only [PX, BX, LX]
  refine st_call (known_spec w2 _ hand) ?_
  rintro _ u' ⟨rfl, hu'⟩
  subst u'
  have same : ∀ (w' : World) (e : Int) (l : List (Nat × Obj)), Upd W w' ks → Owns w' (l ++ (((g, .cells (vb :: vs).toArray 84 (0, 0)) :: (hb ++ hu)) ++ F)) → endD d hand most = (d, e) → (Value.int .i64 e = .int .i64 (endD d hand most).2 ∧ Upd W w' ks ∧
      ∃ h', DevH (endD d hand most).1 (.pointer (some ⟨g, 0, none⟩)) h' ∧ Owns w' (h' ++ F) ∧ ∀ p ∈ h', p.1 ∈ ks ∨ W.heap.size ≤ p.1) := fun w' e l hU' hO' he => by
    rw [he]; exact ⟨rfl, hU', _, hd, hO'.sub (List.sublist_append_right _ _), hh⟩
  simp (disch := first | assumption | omega) only [PX, BX, LX]
  refine ⟨fun hha => ?_, fun hha => same w2 1 [_, _] hU2 hO2 (by unfold endD; rw [if_neg hha])⟩
  obtain ⟨k, rfl⟩ : ∃ k : Nat, hand = k := ⟨hand.toNat, by unfold hands at hha; omega⟩
  have hk8 : k < 8 := by unfold hands at hha; omega
  obtain ⟨x, hxv, hx⟩ := hupin.2 k (d.up.getD k none) (by rw [List.getD_eq_getElem?_getD, List.getElem?_eq_getElem (show k < d.up.length by rw [ok.eight]; exact hk8)]; rfl)
  have cx : w2.cell? ⟨g, 1 + k, none⟩ = some x := by rw [cell_at (hO2.at_ 2 rfl)]; simp [Nat.add_comm 1 k, hxv]
  simp (disch := first | assumption | omega) only [PX, BX, LX, add_mk, Nat.zero_add]
  refine st_alloc ze81 hU2 hO2 ?_
  intro g7 w3 hU3 hO3 hg7
  refine st_storeB (off := 0) sz81 hx.one hU3 hO3 0 rfl (by decide) (.inr (Nat.zero_le _)) (.inr hg7) ?_
  intro w4 hU4 hO4
  have c7 : w4.cell? ⟨g7, 0, none⟩ = some x := cell_at (hO4.at_ 0 rfl)
  have c3' : w4.cell? ⟨g3, 0, none⟩ = some (.pointer (some ⟨g, 0, none⟩)) := cell_at (hO4.at_ 2 rfl)
  cases hud : d.up.getD k none with
  | none =>
    rw [hud] at hx
    obtain rfl : x = .pointer none := hx
    simp (disch := first | assumption | omega) only [PX, BX, LX]
    exact same w4 8 [_, _, _] hU4 hO4 (by unfold endD; rw [if_pos hha, Int.toNat_natCast, hud])
  | some y =>
    obtain ⟨a, b⟩ := y
    rw [hud] at hx
    obtain ⟨gw, gb, cap, cs, rfl, hm1, hm2, hbc, htk⟩ := hx
    obtain ⟨f1, f2, f3, f4⟩ := ok.fits _ a b (getD_some hud)
    have hmost := ok.most
    simp (disch := first | assumption | omega) only [PX, BX, LX]
    refine st_alloc ze3 hU4 hO4 ?_
    intro g8 w5 hU5 hO5 hg8
    refine st_storeB (off := 0) sz3 rfl hU5 hO5 0 rfl (by decide) (.inr (Nat.zero_le _)) (.inr hg8) ?_
    intro w6 hU6 hO6
    have c7 : w6.cell? ⟨g7, 0, none⟩ = some (.pointer (some ⟨gw, 0, none⟩)) := cell_at (hO6.at_ 1 rfl)
    simp (disch := first | assumption | omega) only [PX, BX, LX]
    rw [step_run (mk_sec _ _)]
    have hres : endD d k most = (⟨putB d.B a b (cutL b.length most), d.up.set k none⟩, 0) := by unfold endD; rw [if_pos hha, Int.toNat_natCast, hud]
    rw [hres]
    -- the blocks of this activation
    let loc : Nat → List (Nat × Obj) := fun i => [(g8, .cells #[.int .i64 (i : Nat)] 3 (0, 0)), (g7, .cells #[.pointer (some ⟨gw, 0, none⟩)] 81 (0, 0)), (g5, .cells #[.int .i64 most] 3 (0, 0)), (g3, .cells #[.pointer (some ⟨g, 0, none⟩)] 23 (0, 0))]
    obtain ⟨nn, hnn⟩ : ∃ nn, b.length = 64 * nn := ⟨b.length / 64, by omega⟩
    have hbne : ∃ gB capB, vb = .slice (some ⟨gB, 0, none⟩) d.B.length capB ∧ d.B.length ≤ capB ∧ ∃ cur, hb = [(gB, .cells cur 5 (0, 0))] ∧ cur.size = capB ∧ cur.toList.take d.B.length = bytesV d.B := by
      rcases hrow.2 with ⟨_, hz, _⟩ | ⟨gB, capB, cur, h1, h2, h3, h4, h5, h6⟩
      · omega
      · exact ⟨gB, capB, h1, h3, cur, h2, by rw [h5]; omega, by simpa using h6⟩
    obtain ⟨gB, capB, rfl, hcapB, cur0, rfl, hcur0, htk0⟩ := hbne
    let dev : Array Value → List (Nat × Obj) := fun cur => (g, .cells (.slice (some ⟨gB, 0, none⟩) d.B.length capB :: vs).toArray 84 (0, 0)) :: ((gB, .cells cur 5 (0, 0)) :: hu)
    have hwb : cs.size ≥ b.length := by
      have := congrArg List.length htk
      rw [List.length_take, bytesV_len, Array.length_toList (xs := cs)] at this
      omega
    refine ⟨gw, (a : Nat), some ⟨gb, 0, none⟩, cap, nn, 111, (0, 0), loc 0 ++ (dev cur0 ++ F),
      fun i hh => ∃ cur : Array Value, cur.size = capB ∧ cur.toList.take d.B.length = bytesV (putB d.B a b (64 * i)) ∧ hh = loc i ++ (dev cur ++ F) ∧ ∀ j : Nat, j < i → (j : Int) ≠ most,
      fun hh => ∃ (cur : Array Value) (i : Nat), cur.size = capB ∧ cur.toList.take d.B.length = bytesV (putB d.B a b (cutL b.length most)) ∧ hh = loc i ++ (dev cur ++ F),
      fun v hh => v = .int .i64 0 ∧ ∃ (cur : Array Value) (i : Nat), cur.size = capB ∧ cur.toList.take d.B.length = bytesV (putB d.B a b (cutL b.length most)) ∧
        hh = loc i ++ (((g, .cells (.slice (some ⟨gB, 0, none⟩) d.B.length capB :: vs.set k (.pointer none)).toArray 84 (0, 0)) :: ((gB, .cells cur 5 (0, 0)) :: hu)) ++ F),
      rfl, by omega, hU6, hO6, ⟨cur0, hcur0, by rw [Nat.mul_zero, putB_zero]; exact htk0, rfl, fun j hj => by omega⟩, ?_, ?_, ?_, ?_⟩
    · rintro i hh hi ⟨cur, _, _, rfl, _⟩
      rw [← hnn]
      exact List.mem_append_right _ (List.mem_append_left _ (.tail _ (.tail _ hm1)))
    · rintro i hh F' w7 s hi ⟨cur, hcur, htkc, rfl, hne⟩ hU7 hO7 s3 s5 s7 s8 s9
      unfold end_body_x
      have c8 : w7.cell? ⟨g8, 0, none⟩ = some (.int .i64 (i : Nat)) := cell_at (hO7.at_ 0 rfl)
      have c5 : w7.cell? ⟨g5, 0, none⟩ = some (.int .i64 most) := cell_at (hO7.at_ 2 rfl)
      simp (disch := first | assumption | omega) only [s3, s5, s7, s8, s9, PX, BX, LX]
      refine ⟨fun hem => ⟨_, ⟨cur, i, hcur, ?_, rfl⟩, hU7, hO7⟩, fun hnm => ?_⟩
      · rw [htkc]
        congr 2
        unfold cutL; rw [if_neg (by omega)]; omega
      have hmem1 : (gw, Obj.cells #[.int .i64 (a : Nat), .slice (some ⟨gb, 0, none⟩) b.length cap] 111 (0, 0)) ∈ (loc i ++ (dev cur ++ F)) ++ F' := List.mem_append_left _ (List.mem_append_right _ (List.mem_append_left _ (.tail _ (.tail _ hm1))))
      have hmem2 : (gb, Obj.cells cs 5 (0, 0)) ∈ (loc i ++ (dev cur ++ F)) ++ F' := List.mem_append_left _ (List.mem_append_right _ (List.mem_append_left _ (.tail _ (.tail _ hm2))))
      have hO8 : Owns w7.drew ((loc i ++ (dev cur ++ F)) ++ F') := hO7.ext (Upd.drew w7 [])
      have hU8 : Upd W w7.drew ks := hU7.then_ (Upd.drew w7 []) fun x hx => by cases hx
      have hne' : ∃ w', (fun w' => Owns w' ((loc i ++ (dev cur ++ F)) ++ F')) w' := ⟨_, hO7⟩
      have q3 : ∀ w', Owns w' ((loc i ++ (dev cur ++ F)) ++ F') → w'.cell? ⟨g3, 0, none⟩ = some (.pointer (some ⟨g, 0, none⟩)) := fun w' ho => cell_at (ho.at_ 3 rfl)
      have q7 : ∀ w', Owns w' ((loc i ++ (dev cur ++ F)) ++ F') → w'.cell? ⟨g7, 0, none⟩ = some (.pointer (some ⟨gw, 0, none⟩)) := fun w' ho => cell_at (ho.at_ 1 rfl)
      have qg : ∀ w', Owns w' ((loc i ++ (dev cur ++ F)) ++ F') → w'.cell? ⟨g, 0, none⟩ = some (.slice (some ⟨gB, 0, none⟩) d.B.length capB) := fun w' ho => cell_at (ho.at_ 4 rfl)
      have qw0 : ∀ w', Owns w' ((loc i ++ (dev cur ++ F)) ++ F') → w'.cell? ⟨gw, 0, none⟩ = some (.int .i64 (a : Nat)) := fun w' ho => cell_at (ho.2 _ hmem1)
      have qw1 : ∀ w', Owns w' ((loc i ++ (dev cur ++ F)) ++ F') → w'.cell? ⟨gw, 1, none⟩ = some (.slice (some ⟨gb, 0, none⟩) b.length cap) := fun w' ho => cell_at (ho.2 _ hmem1)
      have e1 : IntKind.wrap .i64 ((a : Int) + ((64 * i : Nat) : Int)) = ((a + 64 * i : Nat) : Int) := by rw [w64 (by omega) (by omega)]; omega
      have e2 : IntKind.wrap .i64 (((64 * i : Nat) : Int) + 64) = ((64 * i + 64 : Nat) : Int) := by rw [w64 (by omega) (by omega)]; omega
      refine st_draw (fun w' => Owns w' ((loc i ++ (dev cur ++ F)) ++ F')) hO8 ?_
      have r1 : ∀ {k : Value → Prop}, (std Try.prog).stepS (fun w' => Owns w' ((loc i ++ (dev cur ++ F)) ++ F')) (sSlice 51 (.slice (some ⟨gB, 0, none⟩) d.B.length capB) (some (.int .i64 ((a + 64 * i : Nat) : Int))) none none) k = k (.slice (some ⟨gB, a + 64 * i, none⟩) (d.B.length - (a + 64 * i)) (capB - (a + 64 * i))) := fun {k} => by
        refine stepS_run hne' fun w' _ => ?_
        have := run_sliceFrom (P := Try.prog) (w := w') (A := some ⟨gB, 0, none⟩) (n := d.B.length) (c := capB) (q := .i64) (i := ((a + 64 * i : Nat) : Int)) u51 sz5 (by omega) (by omega) hcapB
        rw [Int.toNat_natCast, if_neg (by omega), Option.map_some, add_mk, Nat.zero_add, Nat.mul_one] at this
        exact this
      have r2 : ∀ {k : Value → Prop}, (std Try.prog).stepS (fun w' => Owns w' ((loc i ++ (dev cur ++ F)) ++ F')) (sSlice 51 (.slice (some ⟨gb, 0, none⟩) b.length cap) (some (.int .i64 ((64 * i : Nat) : Int))) (some (.int .i64 ((64 * i + 64 : Nat) : Int))) none) k = k (.slice (some ⟨gb, 64 * i, none⟩) 64 (cap - 64 * i)) := fun {k} => by
        refine stepS_run hne' fun w' _ => ?_
        have := run_slice2 (P := Try.prog) (w := w') (A := some ⟨gb, 0, none⟩) (n := b.length) (c := cap) (lo := 64 * i) (hi := 64 * i + 64) u51 sz5 (by omega) (by omega)
        rw [if_neg (by omega), Option.map_some, add_mk, Nat.zero_add, Nat.mul_one, Nat.add_sub_cancel_left] at this
        exact this
      simp (disch := first | assumption | omega) only [SX, SLX, add_mk, Nat.zero_add, e1, e2, r1, r2]
      have hone : ∀ v ∈ (cs.toList.drop (64 * i)).take 64, v.oneCell' = true := by
        intro v hv
        have e : (cs.toList.drop (64 * i)).take 64 = ((bytesV b).drop (64 * i)).take 64 := by
          rw [← htk, List.drop_take, List.take_take, Nat.min_eq_left (by omega)]
        rw [e] at hv
        exact bytesV_one b v (List.mem_of_mem_drop (List.mem_of_mem_take hv))
      rw [step_run (run_copy64 w7.drew (hO8.at_ 5 rfl) (n := d.B.length) (k := a + 64 * i) (by omega) (by omega) (hO8.2 _ hmem2) (by omega) hone _)]
      refine st_keepT (fun _ => True) trivial ?_
      have hO9 := hO8.setRow 5 rfl (cur.toList.take (a + 64 * i) ++ (cs.toList.drop (64 * i)).take 64 ++ cur.toList.drop (a + 64 * i + 64)).toArray
      have hU9 : Upd W (w7.drew.setRow gB (cur.toList.take (a + 64 * i) ++ (cs.toList.drop (64 * i)).take 64 ++ cur.toList.drop (a + 64 * i + 64)).toArray) ks :=
        hU8.then_ (Upd.setRow _ _ _) fun x hx => by rw [List.mem_singleton] at hx; rw [hx]; exact hh (gB, .cells cur0 5 (0, 0)) (.tail _ (.head _))
      generalize w7.drew.setRow gB (cur.toList.take (a + 64 * i) ++ (cs.toList.drop (64 * i)).take 64 ++ cur.toList.drop (a + 64 * i + 64)).toArray = w9 at *
      have c8 : w9.cell? ⟨g8, 0, none⟩ = some (.int .i64 (i : Nat)) := cell_at (hO9.at_ 0 rfl)
      simp (disch := first | assumption | omega) only [PX, BX, LX]
      rw [w64 (by omega) (by omega)]
      refine st_storeB (off := 0) sz3 rfl hU9 hO9 0 rfl Nat.zero_lt_one (.inr (Nat.zero_le _)) (.inr hg8) ?_
      intro w10 hU10 hO10
      refine ⟨_, ⟨(cur.toList.take (a + 64 * i) ++ (cs.toList.drop (64 * i)).take 64 ++ cur.toList.drop (a + 64 * i + 64)).toArray, ?_, ?_, rfl, ?_⟩, hU10, hO10⟩
      · simp only [List.size_toArray, List.length_append, List.length_take, List.length_drop, Array.length_toList]; omega
      · rw [show 64 * (i + 1) = 64 * i + 64 by omega, ← putB_step (i := 64 * i) f4 (by omega)]
        have hC : (cs.toList.drop (64 * i)).take 64 = bytesV ((b.drop (64 * i)).take 64) := by
          have e : (cs.toList.drop (64 * i)).take 64 = ((bytesV b).drop (64 * i)).take 64 := by
            rw [← htk, List.drop_take, List.take_take, Nat.min_eq_left (by omega)]
          rw [e]; simp [bytesV, List.map_take, List.map_drop]
        show (cur.toList.take (a + 64 * i) ++ (cs.toList.drop (64 * i)).take 64 ++ cur.toList.drop (a + 64 * i + 64)).take d.B.length = _
        rw [take_mid (by rw [hC, bytesV_len, List.length_take, List.length_drop]; omega) (by omega) (by rw [Array.length_toList (xs := cur)]; omega), htkc, hC]
        simp [bytesV, List.map_take, List.map_drop]
      · intro j hj
        by_cases hji : j = i
        · subst hji; exact hnm
        · exact hne j (by omega)
    · intro h F' w7 s hcase hU7 hO7 s3 s1
      have hx : ∃ (cur : Array Value) (i : Nat), cur.size = capB ∧ cur.toList.take d.B.length = bytesV (putB d.B a b (cutL b.length most)) ∧ h = loc i ++ (dev cur ++ F) := by
        rcases hcase with ⟨cur, h1, h2, rfl, h4⟩ | hx
        · refine ⟨cur, nn, h1, ?_, rfl⟩
          rw [h2]
          congr 2
          unfold cutL
          split
          · omega
          · have : ¬ (most.toNat < nn) := fun hlt => h4 most.toNat hlt (by omega)
            omega
        · exact hx
      obtain ⟨cur, i, hcur, htkc, rfl⟩ := hx
      unfold end_rest_x
      have c3 : w7.cell? ⟨g3, 0, none⟩ = some (.pointer (some ⟨g, 0, none⟩)) := cell_at (hO7.at_ 3 rfl)
      simp (disch := first | assumption | omega) only [s3, s1, PX, BX, LX, add_mk, Nat.zero_add]
      refine st_storeB (off := 1 + k) sz81 rfl hU7 hO7 4 rfl (by simp [hupin.1]; omega) (.inr (Nat.zero_le _)) (hh (g, .cells (.slice (some ⟨gB, 0, none⟩) d.B.length capB :: vs).toArray 84 (0, 0)) (.head _)) ?_
      intro w8 hU8 hO8
      rw [setUp] at hO8
      exact ⟨_, ⟨trivial, cur, i, hcur, htkc, rfl⟩, hU8, hO8⟩
    · rintro v h' w7 ⟨rfl, cur, i, hcur, htkc, rfl⟩ hU7 hO7
      have hl := putB_len (k := cutL b.length most) f4 (cutL_le _ _)
      refine ⟨rfl, hU7, _, ⟨g, _, _, [(gB, .cells cur 5 (0, 0))], hu, rfl, rfl, ⟨by rw [bytesV_len, Nat.mul_one], .inr ⟨gB, capB, cur, by rw [hl], rfl, by rw [hl]; exact hcapB, ?_, by omega, ?_⟩⟩, hupin.set hk8 rfl⟩, hO7.sub (List.sublist_append_right _ _), ?_⟩
      · rcases hrow.2 with ⟨h1, _, _⟩ | ⟨gB', capB', cur', h1, h2, h3, h4, h5, h6⟩
        · cases h1
        · injection h1 with _ _ h1; rw [h1]; exact h4
      · rw [Nat.mul_one, hl]; exact htkc
      · intro p hp
        rcases List.mem_cons.1 hp with rfl | hp
        · exact hh (g, .cells (.slice (some ⟨gB, 0, none⟩) d.B.length capB :: vs).toArray 84 (0, 0)) (.head _)
        · rcases List.mem_append.1 hp with hp | hp
          · rw [List.mem_singleton] at hp; rw [hp]; exact hh (gB, .cells cur0 5 (0, 0)) (.tail _ (.head _))
          · exact hh p (.tail _ (List.mem_append_right _ hp))

theorem Finish_spec {d : Dv} {v : Value} {h : List (Nat × Obj)} (ok : DvOk d) (hd : DevH d v h) (hO : Owns w (h ++ F)) (hU : Upd W w ks) (hh : ∀ p ∈ h, p.1 ∈ ks ∨ W.heap.size ≤ p.1) (hand : Int) :
    CallsR Try.prog 20 #[v, .int .i64 hand] w fun r w' => r = .int .i64 (endD d hand (-1)).2 ∧ Upd W w' ks ∧
      ∃ h', DevH (endD d hand (-1)).1 v h' ∧ Owns w' (h' ++ F) ∧ ∀ p ∈ h', p.1 ∈ ks ∨ W.heap.size ≤ p.1 := by
  apply stable_Device_Finish_sound
  exact st_call (end_spec ok hd hO hU hh hand (-1)) fun _ _ h => h
theorem Finish_nil (w : World) (hand : Int) : CallsR Try.prog 20 #[.pointer none, .int .i64 hand] w fun r w' => r = .int .i64 1 ∧ Upd w w' [] := by
  apply stable_Device_Finish_sound
  exact st_call (end_nil w hand (-1)) fun _ _ h => h
def crashD (d : Dv) (hand n : Int) : Dv × Int := endD d hand (if n < 0 then 0 else n)
theorem Crash_spec {d : Dv} {v : Value} {h : List (Nat × Obj)} (ok : DvOk d) (hd : DevH d v h) (hO : Owns w (h ++ F)) (hU : Upd W w ks) (hh : ∀ p ∈ h, p.1 ∈ ks ∨ W.heap.size ≤ p.1) (hand n : Int) :
    CallsR Try.prog 15 #[v, .int .i64 hand, .int .i64 n] w fun r w' => r = .int .i64 (crashD d hand n).2 ∧ Upd W w' ks ∧
      ∃ h', DevH (crashD d hand n).1 v h' ∧ Owns w' (h' ++ F) ∧ ∀ p ∈ h', p.1 ∈ ks ∨ W.heap.size ≤ p.1 := by
  apply stable_Device_Crash_sound
  unfold stable_Device_Crash_x
  simp (disch := first | assumption | omega) only [PX]
  exact st_call (end_spec ok hd hO hU hh hand _) fun _ _ h => h
theorem Crash_nil (w : World) (hand n : Int) : CallsR Try.prog 15 #[.pointer none, .int .i64 hand, .int .i64 n] w fun r w' => r = .int .i64 1 ∧ Upd w w' [] := by
  apply stable_Device_Crash_sound
  unfold stable_Device_Crash_x
  simp (disch := first | assumption | omega) only [PX]
  exact st_call (end_nil w hand _) fun _ _ h => h
end Go.Proofs.Ytplpjikcgheiiaa

/- What the functions of devices compute: Trim, Clone. -/
namespace Go.Proofs.Ytplpjikcgheiiaa
open Go Xf Go.RowKit
set_option linter.unusedVariables false
set_option linter.unusedSimpArgs false
set_option maxRecDepth 100000

variable {w W : World} {ks : List Nat} {F : List (Nat × Obj)}

theorem run_clear0 (w : World) (ty : TypeId) (c : List Bool) (A : Option Addr) (cap : Nat) : (sBuiltin .clear #[51] ty c [.slice A 0 cap]).run Try.prog w = .ok (.value (.tuple #[])) w := by
  obtain ⟨i, hi, hz, hs, hb⟩ := inf5
  have hv : ∀ w, (zeroValue 5).run Try.prog w = .ok (.int .u8 0) w := fun w => by simp [zeroValue, typeInfo, program, Sem.run, hi, hz]
  show (do pure (.value (← Builtin.clear_ #[51] ty #[.slice A 0 cap])) : Sem Next).run Try.prog w = _
  rw [Sem.run_bind]
  have : (Builtin.clear_ #[51] ty #[.slice A 0 cap]).run Try.prog w = .ok (.tuple #[]) w := by
    cases A <;> simp [Builtin.clear_, run_underlying u51, hv, storeCells, Builtin.zeroCells]
  rw [this]; rfl
theorem run_clear (w : World) {g o n cap : Nat} {cur : Array Value} (ty : TypeId) (c : List Bool) (hg : w.heap[g]? = some (.cells cur 5 (0, 0))) (hn : 0 < n) (hfit : o + n ≤ cur.size) :
    (sBuiltin .clear #[51] ty c [.slice (some ⟨g, o, none⟩) n cap]).run Try.prog w = .ok (.value (.tuple #[])) (w.setRow g (cur.toList.take o ++ List.replicate n (Value.int .u8 0) ++ cur.toList.drop (o + n)).toArray) := by
  obtain ⟨i, hi, hz, hs, hb⟩ := inf5
  have hv : ∀ w, (zeroValue 5).run Try.prog w = .ok (.int .u8 0) w := fun w => by simp [zeroValue, typeInfo, program, Sem.run, hi, hz]
  have hzc : (Builtin.zeroCells (Value.int .u8 0).cells n).toList = List.replicate n (Value.int .u8 0) := by
    rw [show (Value.int .u8 0).cells = #[Value.int .u8 0] from rfl]
    simp [Builtin.zeroCells]
    apply List.ext_getElem
    · simp
    · intro i h1 h2
      simp [Nat.mod_one]
  have hst := run_storeCells_at Try.prog g o 5 (List.replicate n (Value.int .u8 0)) 0 cur w hg (by simpa using hfit) (by intro v hv'; rw [List.eq_of_mem_replicate hv']; rfl)
  simp only [Nat.add_zero, List.length_replicate] at hst
  obtain ⟨m, rfl⟩ : ∃ m, n = m + 1 := ⟨n - 1, by omega⟩
  show (do pure (.value (← Builtin.clear_ #[51] ty #[.slice (some ⟨g, o, none⟩) (m + 1) cap])) : Sem Next).run Try.prog w = _
  rw [Sem.run_bind]
  have : (Builtin.clear_ #[51] ty #[.slice (some ⟨g, o, none⟩) (m + 1) cap]).run Try.prog w = .ok (.tuple #[]) (w.setRow g (cur.toList.take o ++ List.replicate (m + 1) (Value.int .u8 0) ++ cur.toList.drop (o + (m + 1))).toArray) := by
    simp [Builtin.clear_, run_underlying u51, hv, hzc, hst]
  rw [this]; rfl

theorem take_end {α : Type} {l c : List α} {k n : Nat} (hk : k + c.length = n) (hn : n ≤ l.length) : (l.take k ++ c ++ l.drop n).take n = (l.take n).take k ++ c := by
  have hA : (l.take k ++ c).length = n := by rw [List.length_append, List.length_take]; omega
  rw [List.take_append, List.take_of_length_le (by omega), hA, Nat.sub_self, List.take_zero, List.append_nil, List.take_take, Nat.min_eq_left (by omega)]
theorem run_indexA {P : Program} {w : World} {t e : TypeId} {n i : Nat} {cs : Array Value} {v : Value} (ht : P.underlying t = some (.array n e)) (hs : (P.info? e).map (·.size) = some 1) (ha : (P.underlying e).map isAggD = some false) (hi : i < n) (hv : cs[i]? = some v) :
    (sIndex t (.agg cs) (.int .i64 (i : Nat))).run P w = .ok (.value v) w := by
  unfold sIndex Instr.index
  rw [run_sV, Sem.run_bind, asIntOf_run]
  simp only [Result.andThen_ok, Sem.run_bind, run_underlying' ht]
  rw [if_pos ⟨by omega, by omega⟩]
  simp only [Sem.run_bind, run_sizeOf hs, Result.andThen_ok]
  unfold part
  rw [Sem.run_bind, run_isAgg ha]
  simp [hv]

end Go.Proofs.Ytplpjikcgheiiaa

/- The example of the chapter; a write begun with what is filled; what is played. -/
namespace Go.Proofs.Ytplpjikcgheiiaa
open Go Xf Go.RowKit
set_option linter.unusedVariables false
set_option linter.unusedSimpArgs false
set_option maxRecDepth 100000

variable {w W : World} {ks : List Nat} {F : List (Nat × Obj)}

theorem fresh_nil {h : List (Nat × Obj)} (hh : ∀ p ∈ h, W.heap.size ≤ p.1) : ∀ p ∈ h, p.1 ∈ ([] : List Nat) ∨ W.heap.size ≤ p.1 := fun p hp => .inr (hh p hp)
theorem nil_fresh {h : List (Nat × Obj)} (hh : ∀ p ∈ h, p.1 ∈ ([] : List Nat) ∨ W.heap.size ≤ p.1) : ∀ p ∈ h, W.heap.size ≤ p.1 := fun p hp => (hh p hp).elim (fun h => by cases h) id

/-- a row's byte -/
theorem row_byte {v : Value} {n : Nat} {l : List UInt8} {h G : List (Nat × Obj)} (hr : RowH 5 1 v n (bytesV l) h) (hG : ∀ p ∈ h, p ∈ G) (hO : Owns w G) {i : Nat} {b : UInt8} (hi : l[i]? = some b) :
    ∃ a c, v = .slice (some a) n c ∧ i < n ∧ ∀ w', Owns w' G → w'.cell? (a.add i) = some (.int .u8 b.toNat) := by
  have hlen : l.length = n := by have := hr.1; rw [bytesV_len, Nat.mul_one] at this; exact this
  have hin : i < n := by rw [← hlen]; exact (List.getElem?_eq_some_iff.1 hi).1
  rcases hr.2 with ⟨_, h2, _⟩ | ⟨g, cap, cs, rfl, rfl, h3, h4, h5, h6⟩
  · omega
  · refine ⟨_, _, rfl, hin, fun w' ho => ?_⟩
    rw [add_mk, Nat.zero_add, cell_at (ho.2 _ (hG _ (.head _)))]
    have : (bytesV l)[i]? = some (.int .u8 b.toNat) := by simp [bytesV, hi]
    rw [← h6, List.getElem?_take] at this
    split at this
    · simpa using this
    · cases this

/-- a device's write of so many bytes that are all the same -/
def beginD (d : Dv) (o : Op) : Dv × Int := startD d o.hand o.at_ (List.replicate (longO o).toNat o.fill)
/-- what both laws do ahead: writes begun and ended -/
def play1 (d : Dv) (o : Op) : Dv :=
  let d1 := if o.kind = 0 ∧ 0 ≤ longO o then (beginD d o).1 else d
  if o.kind = 1 then (endD d1 o.hand (-1)).1 else d1
def playD (d : Dv) (l : List Op) : Dv := l.foldl play1 d
theorem play1_ok {d : Dv} (h : DvOk d) (o : Op) : DvOk (play1 d o) := by
  unfold play1
  have h1 : DvOk (if o.kind = 0 ∧ 0 ≤ longO o then (beginD d o).1 else d) := by
    split
    · exact h.start _ _ _
    · exact h
  dsimp only
  split
  · exact h1.end_ _ _
  · exact h1
theorem playD_ok {d : Dv} (h : DvOk d) (l : List Op) : DvOk (playD d l) := by
  induction l generalizing d with
  | nil => exact h
  | cons o l ih => exact ih (play1_ok h o)
theorem playD_take (d : Dv) (l : List Op) {i : Nat} (hi : i < l.length) : playD d (l.take (i + 1)) = play1 (playD d (l.take i)) l[i] := by
  unfold playD
  rw [List.take_succ_eq_append_getElem hi, List.foldl_append]
  rfl
theorem start_len (d : Dv) (hand at_ : Int) (b : List UInt8) : (startD d hand at_ b).1.B = d.B := by
  unfold startD
  split
  · rfl
  · split
    · rfl
    · split <;> rfl
theorem end_len {d : Dv} (h : DvOk d) (hand most : Int) : (endD d hand most).1.B.length = d.B.length := by
  unfold endD
  split
  · split
    · rename_i a b he
      obtain ⟨f1, f2, f3, f4⟩ := h.fits _ a b (getD_some he)
      exact putB_len f4 (cutL_le _ _)
    · rfl
  · rfl
theorem play1_len {d : Dv} (h : DvOk d) (o : Op) : (play1 d o).B.length = d.B.length := by
  unfold play1
  dsimp only
  split
  · rw [end_len]
    · split
      · unfold beginD; rw [start_len]
      · rfl
    · split
      · exact h.start _ _ _
      · exact h
  · split
    · unfold beginD; rw [start_len]
    · rfl
theorem playD_len {d : Dv} (h : DvOk d) (l : List Op) : (playD d l).B.length = d.B.length := by
  induction l generalizing d with
  | nil => rfl
  | cons o l ih =>
    show (playD (play1 d o) l).B.length = _
    rw [ih (play1_ok h o), play1_len h]
end Go.Proofs.Ytplpjikcgheiiaa

/- Logs: copies of records. -/
namespace Go.Proofs.Ytplpjikcgheiiaa.Wal
open Go Go.Proofs.Ytplpjikcgheiiaa Go.Proofs.Ytplpjikcgheiiaa.Rec Xf Go.RowKit
set_option linter.unusedVariables false
set_option linter.unusedSimpArgs false
set_option maxRecDepth 100000

theorem row_tx0 (w : World) : (sBuildSlice 38 0 []).run Try.prog w = .ok (.value (.slice (some ⟨w.heap.size, 0, none⟩) 0 0)) (w.alloc (.cells #[] 136)) := by kernel_rfl
theorem row_di0 (w : World) : (sBuildSlice 39 0 []).run Try.prog w = .ok (.value (.slice (some ⟨w.heap.size, 0, none⟩) 0 0)) (w.alloc (.cells #[] 138)) := by kernel_rfl
theorem rowE (e : TypeId) (sz g : Nat) : RowH e sz (.slice (some ⟨g, 0, none⟩) 0 0) 0 [] [(g, .cells #[] e)] := ⟨by simp, .inr ⟨g, 0, #[], rfl, rfl, Nat.le_refl _, Nat.zero_le _, by simp, by simp⟩⟩
theorem flat_one {α : Type} (f : α → List Value) (hf : ∀ x, ∀ y ∈ f x, y.oneCell' = true) (l : List α) : ∀ y ∈ l.flatMap f, y.oneCell' = true := by
  intro y hy
  obtain ⟨x, _, hx⟩ := List.mem_flatMap.1 hy
  exact hf x y hx

theorem copied_spec (W : World) (v : Value) (r : Re) (hn : r.ts.length ≤ 1000000 ∧ r.ds.length ≤ 1000000) (h : RdRe W v r) : CallsR Try.prog 64 #[v] W fun u w' => NewRe W w' u r := by
  obtain ⟨vt, vd, rfl, ⟨A1, n1, rfl, hm1, ht⟩, ⟨A2, n2, rfl, hm2, hd⟩⟩ := h
  apply wal_copied_sound
  unfold wal_copied_x
  refine st_box (Upd.refl W []) (Owns.nil W) ?_
  intro g w1 hU1 hO1 hg
  refine st_alloc ze_re hU1 hO1 ?_
  intro g2 w2 hU2 hO2 hg2
  have hO2 : Owns w2 [reBlk g2 re0, (g, reO r (.slice A1 r.ts.length n1) (.slice A2 r.ds.length n2))] := hO2
  refine st_newRow row_tx0 hU2 hO2 ?_
  intro g3 w3 hU3 hO3 hg3
  have c10 : w3.cell? ⟨g, 10, none⟩ = some (.slice A1 r.ts.length n1) := (At.of (hO3.at_ 2 rfl)).c10
  simp (disch := first | assumption | omega) only [PX, LX, add_mk, Nat.reduceAdd]
  obtain ⟨inf, hi1, hz1, hsz, hby⟩ := inf136
  refine st_append (h := [(g3, .cells #[] 136)]) u38 hi1 hz1 hsz hby rfl (by omega) (rowE _ 3 g3) hO3 hU3 (fun p hp => by simp at hp; subst hp; exact .inr hg3) (ht.mono hU3) (flat_one txV txV_one _) (by unfold maxLen; omega) (by omega) ?_
  intro v4 w4 h4 hr4 hO4 hU4 hh4
  rw [List.nil_append, Nat.zero_add] at hr4
  have hO4 : Owns w4 ((g, reO r (.slice A1 r.ts.length n1) (.slice A2 r.ds.length n2)) :: reBlk g2 re0 :: h4) := hO4.perm (List.perm_append_comm.trans (List.Perm.swap _ _ _))
  refine st_storeB sz38 (Rec.RowH.one hr4).2 hU4 hO4 0 rfl (by simp [reV]) (.inr (Nat.zero_le _)) (.inr hg) ?_
  intro w5 hU5 hO5
  have hO5 : Owns w5 ((g, reO r v4 (.slice A2 r.ds.length n2)) :: reBlk g2 re0 :: h4) := hO5
  refine st_newRow row_di0 hU5 hO5 ?_
  intro g6 w6 hU6 hO6 hg6
  have c11 : w6.cell? ⟨g, 11, none⟩ = some (.slice A2 r.ds.length n2) := (At.of (hO6.at_ 1 rfl)).c11
  simp (disch := first | assumption | omega) only [PX, LX, add_mk, Nat.reduceAdd]
  obtain ⟨inf, hi2, hz2, hsz2, hby2⟩ := inf138
  refine st_append (h := [(g6, .cells #[] 138)]) u39 hi2 hz2 hsz2 hby2 rfl (by omega) (rowE _ 2 g6) hO6 hU6 (fun p hp => by simp at hp; subst hp; exact .inr hg6) (hd.mono hU6) (flat_one diV diV_one _) (by unfold maxLen; omega) (by omega) ?_
  intro v7 w7 h7 hr7 hO7 hU7 hh7
  rw [List.nil_append, Nat.zero_add] at hr7
  have hO7 : Owns w7 ((g, reO r v4 (.slice A2 r.ds.length n2)) :: reBlk g2 re0 :: (h4 ++ h7)) := hO7.perm (by
    classical
    refine List.perm_iff_count.2 fun y => ?_
    simp only [List.count_cons, List.count_append]
    omega)
  refine st_storeB sz39 (Rec.RowH.one hr7).2 hU7 hO7 0 rfl (by simp [reV]) (.inr (Nat.zero_le _)) (.inr hg) ?_
  intro w8 hU8 hO8
  have hO8 : Owns w8 ((g, reO r v4 v7) :: reBlk g2 re0 :: (h4 ++ h7)) := hO8
  rw [step_run (run_re (hO8.at_ 0 rfl))]
  refine st_re hU8 hO8 1 rfl (Rec.RowH.one hr4).1 (Rec.RowH.one hr7).1 (.inr hg2) ?_
  intro w9 hU9 hO9
  refine st_loadR (run_loadVarN (cs := reV r v4 v7) ag41 (by rw [sz41]; rfl) (cells_read (hO9.at_ 1 rfl))) ?_
  refine ⟨v4, v7, h4, h7, rfl, hr4, hr7, fun p hp => ?_, hO9.sub (.cons _ (.cons _ (List.Sublist.refl _))), hU9⟩
  rcases List.mem_append.1 hp with hp | hp
  · exact (hh4 p hp).resolve_left (by simp)
  · exact (hh7 p hp).resolve_left (by simp)
end Go.Proofs.Ytplpjikcgheiiaa.Wal

/- Logs: what a device's mark tells. -/
namespace Go.Proofs.Ytplpjikcgheiiaa.Wal
open Go Go.Proofs.Ytplpjikcgheiiaa Go.Proofs.Ytplpjikcgheiiaa.Rec Xf Go.RowKit
set_option linter.unusedVariables false
set_option linter.unusedSimpArgs false
set_option maxRecDepth 100000

/-- what a device's mark tells -/
def toldB (B : List UInt8) : Nat :=
  if B.length < 8 then 0 else if (Crc.openL (B.take 8)).2 ≠ 0 then 0 else
  if (B.length : Int) - 64 < (Enc.leVal ((Crc.openL (B.take 8)).1.take 4) : Int) then 0 else Enc.leVal ((Crc.openL (B.take 8)).1.take 4)
theorem told_spec {w : World} {d : Dv} {v : Value} {h G : List (Nat × Obj)} (hd : DevH d v h) (hB : d.B.length ≤ 65536) (hG : ∀ p ∈ h, p ∈ G) (hO : Owns w G) :
    CallsR Try.prog 65 #[v] w fun r w' => r = .int .i64 (toldB d.B : Nat) ∧ Upd w w' [] ∧ Owns w' G := by
  apply wal_told_sound
  unfold wal_told_x
  refine st_call (Read_spec hd hB hG hO (Upd.refl w []) 0 8) ?_
  rintro r w1 ⟨hU1, (⟨hro, rfl, hO1⟩ | ⟨hro, vr, hr, rfl, r1, hO1, hfr⟩)⟩
  · unfold readOut at hro
    simp only [PX, BX]
    exact ⟨fun _ => ⟨by unfold toldB; rw [if_pos (by omega)]; rfl, hU1, hO1⟩, fun h => absurd (by decide) h⟩
  · unfold readOut at hro
    simp only [PX, BX]
    refine ⟨fun h => by simp at h, fun _ => ?_⟩
    have h8 : ¬ d.B.length < 8 := by omega
    have hrd := r1.rd hO1
    rw [show (0 : Int).toNat = 0 from rfl, show (8 : Int).toNat = 8 from rfl, List.drop_zero] at hrd
    have hlen : (d.B.take 8).length = 8 := by rw [List.length_take]; omega
    refine st_call (Crc.Open_spec w1 vr (d.B.take 8) (by omega) (by rw [hlen]; exact hrd)) ?_
    rintro _ w2 ⟨u, rfl, hN⟩
    have hN : Enc.NewB w1 w2 u (Crc.openL (d.B.take 8)).1 := hN
    have hU2 := hU1.trans (NewB.upd hN)
    have hOG : Owns w1 G := hO1.sub (List.sublist_append_right _ _)
    have hO2 := hOG.ext (NewB.upd hN)
    have hop : Crc.openL (d.B.take 8) = ([], 6) ∨ ((Crc.openL (d.B.take 8)).2 = 0 ∧ (Crc.openL (d.B.take 8)).1.length = 4) := by
      unfold Crc.openL
      rw [if_neg (by omega)]
      split
      · right; refine ⟨rfl, ?_⟩; simp only; rw [List.length_take]; omega
      · left; rfl
    have htold : toldB d.B = if (Crc.openL (d.B.take 8)).2 ≠ 0 then 0 else if (d.B.length : Int) - 64 < (Enc.leVal ((Crc.openL (d.B.take 8)).1.take 4) : Int) then 0 else Enc.leVal ((Crc.openL (d.B.take 8)).1.take 4) := by unfold toldB; rw [if_neg h8]
    generalize hX : Crc.openL (d.B.take 8) = X at hN hop htold ⊢
    simp only [PX, BX]
    refine ⟨fun hne => ?_, fun heq => ?_⟩
    · have h6 : X = ([], 6) := hop.resolve_right fun h => hne (by rw [h.1]; rfl)
      exact ⟨by rw [htold, h6, if_pos (by simp)]; rfl, hU2, hO2⟩
    have hX0 : X.2 = 0 := by
      rcases hop with h | h
      · rw [h] at heq; exact absurd (by decide) heq
      · exact h.1
    have hXl : X.1.length = 4 := by
      rcases hop with h | h
      · rw [h] at hX0; cases hX0
      · exact h.2
    rw [if_neg (by rw [hX0]; simp)] at htold
    refine st_call (Enc.Read_spec w2 u X.1 (by omega) (NewB.rd hN)) ?_
    rintro _ w3 ⟨gd, hb, rfl, hI, -⟩
    refine st_call (gFour (s := (X.1, 0)) hI) ?_
    rintro _ w4 ⟨rfl, hk, hI4⟩
    have hk1 : (tk (X.1, 0) 4).1 = Enc.leVal (X.1.take 4) := by unfold tk Enc.takeR; rw [if_neg (by simp), if_neg (by simp only; omega)]
    rw [hk1] at hk ⊢
    have hU4 := hU2.trans hI4.mid
    have hO4 := hO2.ext hI4.mid
    simp (disch := omega) only [PX, w64]
    refine st_call (Size_spec hd hG hO4) ?_
    rintro _ w5 ⟨rfl, rfl⟩
    simp (disch := omega) only [PX, BX, w64]
    exact ⟨fun h => ⟨by rw [htold, if_pos h]; rfl, hU4, hO4⟩, fun h => ⟨by rw [htold, if_neg h], hU4, hO4⟩⟩
end Go.Proofs.Ytplpjikcgheiiaa.Wal

/- Logs: entries, and the records of some. -/
namespace Go.Proofs.Ytplpjikcgheiiaa.Wal
open Go Go.Proofs.Ytplpjikcgheiiaa Go.Proofs.Ytplpjikcgheiiaa.Rec Xf Go.RowKit
set_option linter.unusedVariables false
set_option linter.unusedSimpArgs false
set_option maxRecDepth 100000

/-- a record and its frame -/
structure En where
  r : Re
  b : List UInt8
def enV (x : En) (vt vd vb : Value) : List Value := reV x.r vt vd ++ [vb]
def stands (w : World) (h : List (Nat × Obj)) : Prop := ∀ p ∈ h, w.heap[p.1]? = some p.2
theorem stands.mono {w w' : World} {h : List (Nat × Obj)} (hs : stands w h) (hU : Upd w w' []) : stands w' h := fun p hp => by
  have hl : p.1 < w.heap.size := by
    rcases Nat.lt_or_ge p.1 w.heap.size with h | h
    · exact h
    · have := hs p hp; rw [Array.getElem?_eq_none h] at this; cases this
  rw [hU.keep p.1 hl (by simp)]; exact hs p hp
theorem stands.of {w : World} {h : List (Nat × Obj)} (hO : Owns w h) : stands w h := hO.2
theorem RowH.rdS {α : Type} {w : World} {e : TypeId} {f : α → List Value} {k : Nat} {v : Value} {l : List α} {h : List (Nat × Obj)} (hr : RowH e k v l.length (l.flatMap f) h) (hs : stands w h) : RdS w f k v l := by
  refine RdS.ofRow hr ⟨?_, hs⟩
  rcases hr.2 with ⟨_, _, rfl⟩ | ⟨g, _, _, _, rfl, _⟩ <;> simp
/-- a slice of entries, as it reads in w -/
def RdE (w : World) (v : Value) (L : List En) : Prop :=
  ∃ A c, v = .slice A L.length c ∧ L.length ≤ maxLen ∧ ∀ i (hi : i < L.length), ∃ a vt vd vb, A = some a ∧ (∀ j u, (enV L[i] vt vd vb)[j]? = some u → w.cell? ((a.add (i * 13)).add j) = some u) ∧ vt.oneCell' = true ∧ vd.oneCell' = true ∧ vb.oneCell' = true ∧
    RdS w txV 3 vt L[i].r.ts ∧ RdS w diV 2 vd L[i].r.ds ∧ Rd w 1 vb L[i].b.length (bytesV L[i].b)
/-- a slice of records, as it reads in w -/
def RdRs (w : World) (v : Value) (L : List Re) : Prop :=
  ∃ A c, v = .slice A L.length c ∧ L.length ≤ maxLen ∧ ∀ i (hi : i < L.length), ∃ a vt vd, A = some a ∧ (∀ j u, (reV L[i] vt vd)[j]? = some u → w.cell? ((a.add (i * 12)).add j) = some u) ∧ vt.oneCell' = true ∧ vd.oneCell' = true ∧ RdS w txV 3 vt L[i].ts ∧ RdS w diV 2 vd L[i].ds
theorem run_reN {w : World} {a : Addr} {r : Re} {vt vd : Value} (h : ∀ j u, (reV r vt vd)[j]? = some u → w.cell? (a.add j) = some u) : (sLoad 41 (.pointer (some a))).run Try.prog w = .ok (.value (.agg (reV r vt vd).toArray)) w :=
  run_sLoad (run_loadVarN (cs := reV r vt vd) ag41 (by rw [sz41]; rfl) h)
theorem run_en {w : World} {a : Addr} {x : En} {vt vd vb : Value} (h : ∀ j u, (enV x vt vd vb)[j]? = some u → w.cell? (a.add j) = some u) : (sLoad 95 (.pointer (some a))).run Try.prog w = .ok (.value (.agg (enV x vt vd vb).toArray)) w :=
  run_sLoad (run_loadVarN (cs := enV x vt vd vb) ag95 (by rw [sz95]; rfl) h)
theorem reV_len (r : Re) (vt vd : Value) : (reV r vt vd).length = 12 := rfl
theorem enV_one (x : En) {vt vd vb : Value} (h1 : vt.oneCell' = true) (h2 : vd.oneCell' = true) (h3 : vb.oneCell' = true) : ∀ u ∈ enV x vt vd vb, u.oneCell' = true := by
  intro u hu
  rcases List.mem_append.1 hu with hu | hu
  · exact reV_one _ h1 h2 u hu
  · rw [List.mem_singleton] at hu; subst hu; exact h3
theorem row_re (r : Re) (A1 A2 : Option Addr) (n1 c1 n2 c2 : Nat) (w : World) : (sBuildSlice 31 1 [(0, .agg (reV r (.slice A1 n1 c1) (.slice A2 n2 c2)).toArray)]).run Try.prog w = .ok (.value (.slice (some ⟨w.heap.size, 0, none⟩) 1 1)) (w.alloc (.cells (reV r (.slice A1 n1 c1) (.slice A2 n2 c2)).toArray 41)) := by kernel_rfl
def small (r : Re) : Prop := r.ts.length ≤ 1000000 ∧ r.ds.length ≤ 1000000

/-- rows of records in new memory, and what they read by -/
def OutH (L : List Re) (rows : List (List Value)) (hk : List (Nat × Obj)) : Prop :=
  rows.length = L.length ∧ ∀ i (hi : i < L.length), ∃ vt vd, rows[i]? = some (reV L[i] vt vd) ∧ vt.oneCell' = true ∧ vd.oneCell' = true ∧ ∀ w, stands w hk → RdS w txV 3 vt L[i].ts ∧ RdS w diV 2 vd L[i].ds
theorem OutH.rd {w : World} {v : Value} {L : List Re} {rows : List (List Value)} {hk ho : List (Nat × Obj)} (h : OutH L rows hk) (hr : RowH 41 12 v L.length (rows.flatMap id) ho) (ho' : stands w ho) (hk' : stands w hk) : RdRs w v L := by
  have hall : ∀ x ∈ rows, x.length = 12 := fun x hx => by
    obtain ⟨i, hi, rfl⟩ := List.mem_iff_getElem.1 hx
    obtain ⟨vt, vd, he, _⟩ := h.2 i (by rw [← h.1]; exact hi)
    rw [List.getElem?_eq_getElem hi] at he
    injection he with he
    rw [he]; rfl
  have hrd : Rd w 12 v L.length (rows.flatMap id) := hr.rd (F := []) ⟨by rw [List.append_nil]; rcases hr.2 with ⟨_, _, rfl⟩ | ⟨g, _, _, _, rfl, _⟩ <;> simp, by rw [List.append_nil]; exact ho'⟩
  have hmax : L.length ≤ maxLen := by
    rcases hr.2 with ⟨_, h0, _⟩ | ⟨_, cap, _, _, _, h1, h2, _⟩
    · rw [h0]; exact Nat.zero_le _
    · omega
  obtain ⟨A, c, rfl, hc, hlen, hcell⟩ := hrd
  refine ⟨A, c, rfl, hmax, fun i hi => ?_⟩
  obtain ⟨vt, vd, he, h1, h2, h3⟩ := h.2 i hi
  have hat : ∀ j u, (reV L[i] vt vd)[j]? = some u → (rows.flatMap id)[i * 12 + j]? = some u := by
    intro j u hu
    have hj : j < 12 := by have := (List.getElem?_eq_some_iff.1 hu).1; rwa [reV_len] at this
    have aux : ∀ (rs : List (List Value)) (k : Nat) (row : List Value), (∀ x ∈ rs, x.length = 12) → rs[k]? = some row → (rs.flatMap id)[k * 12 + j]? = row[j]? := by
      intro rs
      induction rs with
      | nil => intro k row _ hk; simp at hk
      | cons x rs ih =>
        intro k row hx hk
        have hx0 := hx x (List.mem_cons_self ..)
        cases k with
        | zero =>
          simp only [List.getElem?_cons_zero, Option.some.injEq] at hk
          subst hk
          rw [List.flatMap_cons, Nat.zero_mul, Nat.zero_add]
          exact List.getElem?_append_left (by rw [id, hx0]; exact hj)
        | succ k =>
          simp only [List.getElem?_cons_succ] at hk
          rw [List.flatMap_cons, List.getElem?_append_right (by rw [id, hx0]; omega), id, hx0, show (k + 1) * 12 + j - 12 = k * 12 + j by omega]
          exact ih k row (fun y hy => hx y (List.mem_cons_of_mem _ hy)) hk
    rw [aux rows i _ hall he]; exact hu
  obtain ⟨a, ha, _⟩ := hcell _ _ (hat 0 _ rfl)
  refine ⟨a, vt, vd, ha, fun j u hu => ?_, h1, h2, h3 w hk'⟩
  obtain ⟨a', ha', hx⟩ := hcell _ _ (hat j u hu)
  rw [ha] at ha'
  injection ha' with ha'
  subst ha'
  rw [add_add']; exact hx
end Go.Proofs.Ytplpjikcgheiiaa.Wal

/- Logs: the records of entries. -/
namespace Go.Proofs.Ytplpjikcgheiiaa.Wal
open Go Go.Proofs.Ytplpjikcgheiiaa Go.Proofs.Ytplpjikcgheiiaa.Rec Xf Go.RowKit
set_option linter.unusedVariables false
set_option linter.unusedSimpArgs false
set_option maxRecDepth 100000

theorem records_spec (W : World) (v : Value) (L : List En) (hn : ∀ x ∈ L, small x.r) (hL : L.length ≤ 100000) (h : RdE W v L) :
    CallsR Try.prog 48 #[v] W fun u w' => Upd W w' [] ∧ RdRs w' u (L.map (·.r)) := by
  obtain ⟨A, c, rfl, hmax, hE⟩ := h
  apply wal_records_sound
  unfold wal_records_x
  simp only [PX]
  refine st_loop (fun vs w' => ∃ (i : Nat) (rows : List (List Value)) (ho hk : List (Nat × Obj)) (x : Value), i ≤ L.length ∧ vs.getD 1 undef = x ∧ vs.getD 2 undef = .int .i64 i ∧ Upd W w' [] ∧ RowH 41 12 x i (rows.flatMap id) ho ∧ OutH ((L.take i).map (·.r)) rows hk ∧ Owns w' (ho ++ hk) ∧ ∀ p ∈ ho, W.heap.size ≤ p.1) (fun vs _ => L.length - (intOf (vs.getD 2 undef)).toNat)
    ⟨0, [], [], [], .slice none 0 0, by omega, rfl, rfl, Upd.refl W [], RowH.nil_ _ _, ⟨rfl, fun i hi => by simp at hi⟩, Owns.nil W, fun p hp => by cases hp⟩ ?_
  rintro dv vs w1 - ⟨i, rows, ho, hk, x, hi, e1, e2, hU1, hrow, hout, hO1, hfr⟩
  simp (disch := omega) only [e1, e2, PX, BX]
  refine ⟨fun hlt => ?_, fun hge => ?_⟩
  · have hi' : i < L.length := by omega
    obtain ⟨a, vt, vd, vb, rfl, hc, o1, o2, o3, rt, rd, rb⟩ := hE i hi'
    have hc1 : ∀ j u, (enV L[i] vt vd vb)[j]? = some u → w1.cell? ((a.add (i * 13)).add j) = some u := fun j u hu => by
      have := hc j u hu
      rw [hU1.cell (World.block_lt_of_cell? W _ this) (by simp)]; exact this
    simp (disch := omega) only [PX]
    rw [step_run (run_en hc1)]
    refine st_alloc ze95 hU1 hO1 ?_
    intro g2 w2 hU2 hO2 hg2
    refine st_storeN (vs := enV L[i] vt vd vb) (by rw [sz95]; rfl) hU2 hO2 0 rfl (by simp [enV, reV, Value.cells]) (enV_one _ o1 o2 o3) (.inr hg2) ?_
    intro w3 hU3 hO3
    have hO3 : Owns w3 ((g2, .cells (enV L[i] vt vd vb).toArray 95 (0, 0)) :: (ho ++ hk)) := hO3
    have hld : (sLoad 41 (.pointer (some ⟨g2, 0, none⟩))).run Try.prog w3 = .ok (.value (.agg (reV L[i].r vt vd).toArray)) w3 := run_reN fun j u hu => by
      have hj : j < 12 := by have := (List.getElem?_eq_some_iff.1 hu).1; rwa [reV_len] at this
      refine cells_read (hO3.at_ 0 rfl) j u ?_
      show (enV L[i] vt vd vb)[j]? = some u
      unfold enV
      rw [List.getElem?_append_left (by rw [reV_len]; exact hj)]; exact hu
    simp (disch := omega) only [PX]
    rw [step_run hld]
    refine st_call (copied_spec w3 _ L[i].r (hn _ (List.getElem_mem hi')) ⟨vt, vd, rfl, rt.mono hU3, rd.mono hU3⟩) ?_
    rintro _ w4 hN
    obtain ⟨yt, yd, ht, hd, rfl, y1, y2, y3, y4, y5⟩ := hN
    have hO4 : Owns w4 ((ht ++ hd) ++ ((g2, .cells (enV L[i] vt vd vb).toArray 95 (0, 0)) :: (ho ++ hk))) := Enc.owns_app hO3 y5 y4 y3
    have hU4 := hU3.trans y5
    obtain ⟨B1, m1, hyt, _⟩ := RowH.rdS y1 (stands.of (y4.sub (List.sublist_append_left _ _)))
    obtain ⟨B2, m2, hyd, _⟩ := RowH.rdS y2 (stands.of (y4.sub (List.sublist_append_right _ _)))
    have q1 := (Rec.RowH.one y1).1
    have q2 := (Rec.RowH.one y2).1
    subst hyt hyd
    refine st_newRow (row_re L[i].r B1 B2 _ m1 _ m2) hU4 hO4 ?_
    intro g5 w5 hU5 hO5 hg5
    obtain ⟨inf, hi1, hz1, hsz, hby⟩ := inf41
    refine st_append (h := ho) (F := (g5, .cells (reV L[i].r (.slice B1 L[i].r.ts.length m1) (.slice B2 L[i].r.ds.length m2)).toArray 41 (0, 0)) :: (g2, .cells (enV L[i] vt vd vb).toArray 95 (0, 0)) :: ((ht ++ hd) ++ hk)) (ys := reV L[i].r (.slice B1 L[i].r.ts.length m1) (.slice B2 L[i].r.ds.length m2)) (m := 1) u31 hi1 hz1 hsz hby rfl (by omega) hrow ?_ hU5 (fun p hp => .inr (hfr p hp)) (rd_rowN (n := 1) (c := 1) (hO5.at_ 0 rfl) rfl (by omega) rfl) (reV_one _ q1 q2) (by unfold maxLen; omega) (by omega) ?_
    · refine hO5.perm ?_
      classical
      refine List.perm_iff_count.2 fun y => ?_
      simp only [List.count_cons, List.count_append]
      omega
    intro v6 w6 h6 hr6 hO6 hU6 hh6
    simp (disch := omega) only [PX, w64, e2]
    refine ⟨⟨i + 1, rows ++ [reV L[i].r (.slice B1 L[i].r.ts.length m1) (.slice B2 L[i].r.ds.length m2)], h6, (ht ++ hd) ++ hk, v6, by omega, rfl, rfl, hU6, ?_, ?_, hO6.sub (List.Sublist.append (List.Sublist.refl _) (.cons _ (.cons _ (List.Sublist.refl _)))), fun p hp => (hh6 p hp).resolve_left (by simp)⟩, ?_⟩
    · rw [List.flatMap_append]; simpa using hr6
    · rw [List.take_succ_eq_append_getElem hi', List.map_append]
      have hl0 : rows.length = i := by rw [hout.1]; simp; omega
      refine ⟨by simp [hl0]; omega, fun k hk2 => ?_⟩
      have hk2' : k < i + 1 := by simp at hk2; omega
      have hkL : k < L.length := by omega
      have hel : (List.map (fun x => x.r) (List.take i L) ++ List.map (fun x => x.r) [L[i]])[k]'hk2 = L[k].r := by
        have : (List.map (fun x : En => x.r) (List.take i L) ++ List.map (fun x => x.r) [L[i]]) = (L.take (i + 1)).map (·.r) := by rw [← List.map_append, ← List.take_succ_eq_append_getElem hi']
        simp only [this]
        simp
      rw [hel]
      by_cases hki : k < i
      · obtain ⟨wt, wd, he, p1, p2, p3⟩ := hout.2 k (by simp; omega)
        have hel2 : (List.map (fun x : En => x.r) (List.take i L))[k]'(by simp; omega) = L[k].r := by simp
        rw [hel2] at he p3
        refine ⟨wt, wd, ?_, p1, p2, fun w hs => p3 w fun p hp => hs p (List.mem_append_right _ hp)⟩
        rw [List.getElem?_append_left (by omega), he]
      · obtain rfl : k = i := by omega
        refine ⟨_, _, ?_, q1, q2, fun w hs => ⟨?_, ?_⟩⟩
        · rw [List.getElem?_append_right (by omega), hl0, Nat.sub_self]
          rfl
        · exact RowH.rdS y1 (w := w) fun p hp => hs p (List.mem_append_left _ (List.mem_append_left _ hp))
        · exact RowH.rdS y2 (w := w) fun p hp => hs p (List.mem_append_left _ (List.mem_append_right _ hp))
    · simp only [List.getD_cons_succ, List.getD_cons_zero, intOf]; omega
  · obtain rfl : i = L.length := by omega
    unfold wal_records_k1
    rw [List.take_length] at hout
    refine ⟨hU1, OutH.rd hout (by rw [List.length_map]; exact hrow) (stands.of (hO1.sub (List.sublist_append_left _ _))) (stands.of (hO1.sub (List.sublist_append_right _ _)))⟩
end Go.Proofs.Ytplpjikcgheiiaa.Wal

/- Logs: what stands on a device. -/
namespace Go.Proofs.Ytplpjikcgheiiaa.Wal
open Go Go.Proofs.Ytplpjikcgheiiaa Go.Proofs.Ytplpjikcgheiiaa.Rec Xf Go.RowKit
set_option linter.unusedVariables false
set_option linter.unusedSimpArgs false
set_option maxRecDepth 100000

def lastL (L : List En) : Nat := match L.getLast? with | some x => x.r.lsn | none => 0
/-- one entry more, if there is one -/
noncomputable def nextS (b : List UInt8) (s : List En × Nat) : Option (List En × Nat) :=
  if (unfR (b.drop s.2)).2.2 ≠ 0 then none else if s.1 ≠ [] ∧ (unfR (b.drop s.2)).1.lsn ≤ lastL s.1 then none else
  some (s.1 ++ [⟨(unfR (b.drop s.2)).1, (b.drop s.2).take (unfR (b.drop s.2)).2.1⟩], s.2 + (unfR (b.drop s.2)).2.1)
noncomputable def scanW (b : List UInt8) : Nat → List En × Nat → List En × Nat
  | 0, s => s
  | k + 1, s => match nextS b s with | none => s | some s' => scanW b k s'
/-- what stands in bytes -/
noncomputable def scanB (b : List UInt8) : List En × Nat := scanW b (b.length + 1) ([], 0)
theorem unfR_fits {l : List UInt8} (h : (unfR l).2.2 = 0) : 6 ≤ (unfR l).2.1 ∧ (unfR l).2.1 ≤ l.length ∧ okP (unfR l).1 := by
  unfold unfR at h ⊢
  split at h
  · cases h
  rename_i h1
  split at h
  · cases h
  rename_i h2
  split at h
  · cases h
  rename_i h3
  split at h
  · cases h
  rename_i h4
  rw [if_neg h1, if_neg h2, if_neg h3, if_neg h4]
  refine ⟨by simp only; omega, by simp only; omega, ?_⟩
  simp only
  unfold decR at h4 ⊢
  split
  · rename_i h5; exact h5.2
  · rename_i h5; rw [if_neg h5] at h4; exact absurd (by simp) h4
theorem small_of {r : Re} (h : okP r) : small r := by
  have h1 := h.2.2.2.2.2.2.2.2.2.1
  have h2 := h.2.2.2.2.2.2.2.2.2.2.1
  exact ⟨by omega, by omega⟩
/-- rows of entries, and what they read by -/
def OutE (L : List En) (rows : List (List Value)) (hk : List (Nat × Obj)) : Prop :=
  rows.length = L.length ∧ ∀ i (hi : i < L.length), ∃ vt vd vb, rows[i]? = some (enV L[i] vt vd vb) ∧ vt.oneCell' = true ∧ vd.oneCell' = true ∧ vb.oneCell' = true ∧ ∀ w, stands w hk → RdS w txV 3 vt L[i].r.ts ∧ RdS w diV 2 vd L[i].r.ds ∧ Rd w 1 vb L[i].b.length (bytesV L[i].b)
theorem enV_len (x : En) (vt vd vb : Value) : (enV x vt vd vb).length = 13 := rfl
theorem OutE.rd {w : World} {v : Value} {L : List En} {rows : List (List Value)} {hk ho : List (Nat × Obj)} (h : OutE L rows hk) (hr : RowH 95 13 v L.length (rows.flatMap id) ho) (ho' : stands w ho) (hk' : stands w hk) : RdE w v L := by
  have hall : ∀ x ∈ rows, x.length = 13 := fun x hx => by
    obtain ⟨i, hi, rfl⟩ := List.mem_iff_getElem.1 hx
    obtain ⟨vt, vd, vb, he, _⟩ := h.2 i (by rw [← h.1]; exact hi)
    rw [List.getElem?_eq_getElem hi] at he
    injection he with he
    rw [he]; rfl
  have hrd : Rd w 13 v L.length (rows.flatMap id) := hr.rd (F := []) ⟨by rw [List.append_nil]; rcases hr.2 with ⟨_, _, rfl⟩ | ⟨g, _, _, _, rfl, _⟩ <;> simp, by rw [List.append_nil]; exact ho'⟩
  have hmax : L.length ≤ maxLen := by
    rcases hr.2 with ⟨_, h0, _⟩ | ⟨_, cap, _, _, _, h1, h2, _⟩
    · rw [h0]; exact Nat.zero_le _
    · omega
  obtain ⟨A, c, rfl, hc, hlen, hcell⟩ := hrd
  refine ⟨A, c, rfl, hmax, fun i hi => ?_⟩
  obtain ⟨vt, vd, vb, he, h1, h2, h3, h4⟩ := h.2 i hi
  have hat : ∀ j u, (enV L[i] vt vd vb)[j]? = some u → (rows.flatMap id)[i * 13 + j]? = some u := by
    intro j u hu
    have hj : j < 13 := by have := (List.getElem?_eq_some_iff.1 hu).1; rwa [enV_len] at this
    have aux : ∀ (rs : List (List Value)) (k : Nat) (row : List Value), (∀ x ∈ rs, x.length = 13) → rs[k]? = some row → (rs.flatMap id)[k * 13 + j]? = row[j]? := by
      intro rs
      induction rs with
      | nil => intro k row _ hk; simp at hk
      | cons x rs ih =>
        intro k row hx hk
        have hx0 := hx x (List.mem_cons_self ..)
        cases k with
        | zero =>
          simp only [List.getElem?_cons_zero, Option.some.injEq] at hk
          subst hk
          rw [List.flatMap_cons, Nat.zero_mul, Nat.zero_add]
          exact List.getElem?_append_left (by rw [id, hx0]; exact hj)
        | succ k =>
          simp only [List.getElem?_cons_succ] at hk
          rw [List.flatMap_cons, List.getElem?_append_right (by rw [id, hx0]; omega), id, hx0, show (k + 1) * 13 + j - 13 = k * 13 + j by omega]
          exact ih k row (fun y hy => hx y (List.mem_cons_of_mem _ hy)) hk
    rw [aux rows i _ hall he]; exact hu
  obtain ⟨a, ha, _⟩ := hcell _ _ (hat 0 _ rfl)
  have := h4 w hk'
  refine ⟨a, vt, vd, vb, ha, fun j u hu => ?_, h1, h2, h3, this.1, this.2.1, this.2.2⟩
  obtain ⟨a', ha', hx⟩ := hcell _ _ (hat j u hu)
  rw [ha] at ha'
  injection ha' with ha'
  subst ha'
  rw [add_add']; exact hx
end Go.Proofs.Ytplpjikcgheiiaa.Wal
