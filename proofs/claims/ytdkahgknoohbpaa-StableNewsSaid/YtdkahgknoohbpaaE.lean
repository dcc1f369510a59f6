/- The pieces of a range over a bound method. Written by a program of this work. -/
import Derived.Test.YtdkahgknoohbpaaD
import Derived.Test.YtdkahgknoohbpaaZf
import Derived.Test.YtdkahgknoohbpaaProg
import Derived.KernelRfl
namespace Go.Proofs.Ytdkahgknoohbpaa
open Go Xf
set_option maxRecDepth 100000
set_option linter.unusedVariables false

/-- a code up to a statement, that statement, and what follows it -/
def dropT : Nat → Code → Code
  | 0, .seq (.seq x _) _ => x
  | k + 1, .seq x y => .seq x (dropT k y)
  | _, _ => .goto 0
def midT : Nat → Code → Code
  | 0, .seq (.seq _ b) _ => b
  | k + 1, .seq _ y => midT k y
  | _, _ => .goto 0
def endT : Nat → Code → Code
  | 0, .seq _ y => y
  | k + 1, .seq _ y => endT k y
  | _, _ => .goto 0
def onN (N : List Sl → World → Prop) (e : Exit) (fr : List Sl) (w : World) : Prop := match e with | .normal => N fr w | _ => False
def rangeParts : Code → Operand × Array Tmp × Code × Code
  | .block _ (.rangeFunc g ps a b) => (g, ps, a, b)
  | _ => (.tmp 0, #[], .skip, .skip)
def endK : Nat := 5
def end_pre_x (C : Comb) (a0 : Value) (a1 : Value) (a2 : Value) (w : World) (E : Value → World → Prop) (G : Value → Value → Value → Value → Value → Value → World → Prop) : Prop :=
  C.step (sBox 27 a0) w fun v3_1 w =>
  C.step (sBox 3 a2) w fun v5_1 w =>
  C.step (sLoad 27 v3_1) w fun v10_1 w =>
  C.calls 22 #[v10_1, a1] w fun v12_1 w =>
  C.step (sUn .not v12_1) w fun v13_1 w =>
  C.bool v13_1
  (E (.int .i64 1) w)
  (C.step (sLoad 27 v3_1) w fun v14_1 w =>
  C.step (sNil v14_1) w fun v16_1 w =>
  C.step (sFieldAddr 60 v16_1 1) w fun v17_1 w =>
  C.step (sIndexAddr 58 v17_1 a1) w fun v18_1 w =>
  C.step (sLoad 57 v18_1) w fun v19_1 w =>
  C.step (sAlloc 57) w fun v7_1 w =>
  C.step (sStore 57 v7_1 v19_1) w fun vx_1 w =>
  C.step (sLoad 57 v7_1) w fun v20_1 w =>
  C.step (sBin .eql 57 (.tmp 20) (.const (.pointer none)) v20_1 (.pointer none)) w fun v21_1 w =>
  C.bool v21_1
  (E (.int .i64 8) w)
  (C.step (sAlloc 3) w fun v8_1 w =>
  C.step (sStore 3 v8_1 (.int .i64 0)) w fun vx_2 w =>
  C.step (sLoad 57 v7_1) w fun v22_1 w =>
  C.step (sMakeFunc (.func 25) [v22_1] []) w fun v23_1 w =>
  G v3_1 a1 v5_1 v7_1 v8_1 v23_1 w))
def end_pre_h (E : Value → World → Prop) (G : Value → Value → Value → Value → Value → Value → World → Prop) (e : Exit) (fr : List Sl) (w : World) : Prop := match e with | .ret => E (fr.getD 6 (.val undef)).v w | .normal => G (fr.getD 3 (.val undef)).v (fr.getD 1 (.val undef)).v (fr.getD 5 (.val undef)).v (fr.getD 7 (.val undef)).v (fr.getD 8 (.val undef)).v (fr.getD 23 (.val undef)).v w | _ => False
theorem end_pre_eq (C : Comb) (a0 : Value) (a1 : Value) (a2 : Value) (w : World) (E : Value → World → Prop) (G : Value → Value → Value → Value → Value → Value → World → Prop) : end_pre_x C a0 a1 a2 w E G = Y Try.prog C 10 [] (dropT endK (Try.f23.body.getD .skip)) (end_pre_h E G) [.val a0, .val a1, .val a2, .val undef, .val undef, .val undef, .val undef, .val undef, .val undef, .val undef, .val undef, .val undef, .val undef, .val undef, .val undef, .val undef, .val undef, .val undef, .val undef, .val undef, .val undef, .val undef, .val undef, .val undef, .val undef, .val undef, .val undef, .val undef, .val undef, .val undef, .val undef, .val undef, .val undef, .val undef, .val undef, .val undef, .val undef, .val undef, .val undef, .val undef, .val undef, .val undef, .val undef, .val undef, .val undef, .val undef, .val undef, .val undef, .val undef, .val undef, .val undef, .val undef, .val undef, .val undef, .val undef] w := by kernel_rfl
def end_asg_x (C : Comb) (s : Nat → Value) (w : World) (N : List Sl → World → Prop) : Prop :=
  N [.val (s 0), .val (s 1), .val (s 2), .val (s 3), .val (s 4), .val (s 5), .val (s 6), .val (s 7), .val (s 8), .val (s 24), .val (s 10), .val (s 11), .val (s 12), .val (s 13), .val (s 14), .val (s 15), .val (s 16), .val (s 17), .val (s 18), .val (s 19), .val (s 20), .val (s 21), .val (s 22), .val (s 23), .val (s 24), .val (s 25), .val (s 26), .val (s 27), .val (s 28), .val (s 29), .val (s 30), .val (s 31), .val (s 32), .val (s 33), .val (s 34), .val (s 35), .val (s 36), .val (s 37), .val (s 38), .val (s 39), .val (s 40), .val (s 41), .val (s 42), .val (s 43), .val (s 44), .val (s 45), .val (s 46), .val (s 47), .val (s 48), .val (s 49), .val (s 50), .val (s 51), .val (s 52), .val (s 53), .val (s 54)] w
theorem end_asg_eq (C : Comb) (s : Nat → Value) (w : World) (N : List Sl → World → Prop) : end_asg_x C s w N = Y Try.prog C 10 [] (rangeParts (midT endK (Try.f23.body.getD .skip))).2.2.1 (onN N) ((List.range 55).map fun i => .val (s i)) w := by kernel_rfl
def end_body_x (C : Comb) (s : Nat → Value) (w : World) (N : World → Prop) (B : World → Prop) : Prop :=
  C.step (sLoad 3 (s 8)) w fun v25_1 w =>
  C.step (sLoad 3 (s 5)) w fun v26_1 w =>
  C.step (sBin .eql 3 (.tmp 25) (.tmp 26) v25_1 v26_1) w fun v27_1 w =>
  C.bool v27_1
  (B w)
  (C.draw w fun S_1 w =>
  C.stepS S_1 (sLoad 27 (s 3)) fun v28_1 =>
  C.stepS S_1 (sNil v28_1) fun v29_1 =>
  C.stepS S_1 (sFieldAddr 60 v29_1 0) fun v30_1 =>
  C.stepS S_1 (sLoad 34 v30_1) fun v31_1 =>
  C.stepS S_1 (sLoad 57 (s 7)) fun v32_1 =>
  C.stepS S_1 (sNil v32_1) fun v33_1 =>
  C.stepS S_1 (sFieldAddr 62 v33_1 0) fun v34_1 =>
  C.stepS S_1 (sLoad 3 v34_1) fun v35_1 =>
  C.stepS S_1 (sBin .add 3 (.tmp 35) (.tmp 36) v35_1 (s 9)) fun v37_1 =>
  C.stepS S_1 (sSlice 34 v31_1 (some v37_1) none none) fun v38_1 =>
  C.stepS S_1 (sLoad 57 (s 7)) fun v39_1 =>
  C.stepS S_1 (sNil v39_1) fun v40_1 =>
  C.stepS S_1 (sFieldAddr 62 v40_1 1) fun v41_1 =>
  C.stepS S_1 (sLoad 34 v41_1) fun v42_1 =>
  C.stepS S_1 (sBin .add 3 (.tmp 44) (.const (.int .i64 64)) (s 9) (.int .i64 64)) fun v45_1 =>
  C.stepS S_1 (sSlice 34 v42_1 (some (s 9)) (some v45_1) none) fun v46_1 =>
  C.step (sBuiltin .copy #[34, 34] 3 [false, false] [v38_1, v46_1]) w fun v47_1 w =>
  C.keepT w fun S_2 =>
  C.step (sLoad 3 (s 8)) w fun v48_1 w =>
  C.step (sBin .add 3 (.tmp 48) (.const (.int .i64 1)) v48_1 (.int .i64 1)) w fun v49_1 w =>
  C.step (sStore 3 (s 8) v49_1) w fun vx_1 w =>
  N w)
def end_body_h (N : World → Prop) (B : World → Prop) (e : Exit) (fr : List Sl) (w : World) : Prop := match e with | .normal => N w | .exit 0 => B w | _ => False
theorem end_body_eq (C : Comb) (s : Nat → Value) (w : World) (N : World → Prop) (B : World → Prop) : end_body_x C s w N B = Y Try.prog C 10 [] (rangeParts (midT endK (Try.f23.body.getD .skip))).2.2.2 (end_body_h N B) ((List.range 55).map fun i => .val (s i)) w := by kernel_rfl
def end_rest_x (C : Comb) (s : Nat → Value) (w : World) (E : Value → World → Prop) : Prop :=
  C.step (sLoad 27 (s 3)) w fun v50_1 w =>
  C.step (sNil v50_1) w fun v52_1 w =>
  C.step (sFieldAddr 60 v52_1 1) w fun v53_1 w =>
  C.step (sIndexAddr 58 v53_1 (s 1)) w fun v54_1 w =>
  C.step (sStore 57 v54_1 (.pointer none)) w fun vx_1 w =>
  E (.int .i64 0) w
def end_rest_h (E : Value → World → Prop) (e : Exit) (fr : List Sl) (w : World) : Prop := match e with | .ret => E (fr.getD 6 (.val undef)).v w | _ => False
theorem end_rest_eq (C : Comb) (s : Nat → Value) (w : World) (E : Value → World → Prop) : end_rest_x C s w E = Y Try.prog C 10 [] (endT endK (Try.f23.body.getD .skip)) (end_rest_h E) ((List.range 55).map fun i => .val (s i)) w := by kernel_rfl
def secLoop : Code → Code
  | .seq _ (.block _ (.loop c)) => c
  | _ => .goto 0
def secInit : Code → Code
  | .seq a _ => a
  | _ => .goto 0
def secTest : Code → Code
  | .seq (.seq a _) _ => a
  | _ => .goto 0
def secCall : Code → Code
  | .seq _ (.seq (.block _ (.seq a _)) _) => a
  | _ => .goto 0
def secNext : Code → Code
  | .seq _ (.seq _ a) => a
  | _ => .goto 0
def secO0 : Oper := { dst := some 14, op := .move (.tmp 1), type := 56, pos := "stable.go:73", after := #[], guard := none }
def secO1 : Oper := { dst := some 15, op := .move (.tmp 4), type := 3, pos := "stable.go:73", after := #[], guard := none }
def secO2 : Oper := { dst := some 16, op := .call ⟨.value (.tmp 14), #[(.tmp 15)], #[3]⟩, type := 4, pos := "stable.go:73", after := #[⟨0, .data⟩, ⟨1, .data⟩], guard := none }
def secO3 : Oper := { dst := some 17, op := .unOp .not 4 (.tmp 16), type := 4, pos := "stable.go:73", after := #[⟨2, .data⟩], guard := none }
theorem secCall_eq : secCall (secLoop (Try.f25.body.getD .skip)) = .region 3 #[secO0, secO1, secO2, secO3] false := by kernel_rfl
theorem sec_shape : Try.f25.body = some (.seq (secInit (Try.f25.body.getD .skip)) (.block 0 (.loop (.seq (.seq (secTest (secLoop (Try.f25.body.getD .skip))) (.cond (.tmp 11) .skip (.exit 0))) (.seq (.block 1 (.seq (secCall (secLoop (Try.f25.body.getD .skip))) (.cond (.tmp 17) .ret .skip))) (secNext (secLoop (Try.f25.body.getD .skip)))))))) := by kernel_rfl
theorem end_shape : midT endK (Try.f23.body.getD .skip) = .block 0 (.rangeFunc (.tmp 23) #[24] (rangeParts (midT endK (Try.f23.body.getD .skip))).2.2.1 (rangeParts (midT endK (Try.f23.body.getD .skip))).2.2.2) := by kernel_rfl
def sec_init_x (C : Comb) (s : Nat → Value) (w : World) (N : List Sl → World → Prop) : Prop :=
  N [.val (s 0), .val (s 1), .val (s 2), .val (s 3), .val (.int .i64 0), .val (s 5), .val (s 6), .val (s 7), .val (s 8), .val (s 9), .val (s 10), .val (s 11), .val (s 12), .val (s 13), .val (s 14), .val (s 15), .val (s 16), .val (s 17)] w
theorem sec_init_eq (C : Comb) (s : Nat → Value) (w : World) (N : List Sl → World → Prop) : sec_init_x C s w N = Y Try.prog C 5 [] (secInit (Try.f25.body.getD .skip)) (onN N) ((List.range 18).map fun i => .val (s i)) w := by kernel_rfl
def sec_test_x (C : Comb) (s : Nat → Value) (w : World) (N : List Sl → World → Prop) : Prop :=
  C.step (sNil (s 0)) w fun v7_1 w =>
  C.step (sFieldAddr 62 v7_1 1) w fun v8_1 w =>
  C.step (sLoad 34 v8_1) w fun v9_1 w =>
  C.step (sBuiltin .len #[34] 3 [false] [v9_1]) w fun v10_1 w =>
  C.step (sBin .lss 3 (.tmp 5) (.tmp 10) (s 4) v10_1) w fun v11_1 w =>
  N [.val (s 0), .val (s 1), .val (s 2), .val (s 3), .val (s 4), .val (s 4), .val (s 0), .val v7_1, .val v8_1, .val v9_1, .val v10_1, .val v11_1, .val (s 12), .val (s 13), .val (s 14), .val (s 15), .val (s 16), .val (s 17)] w
theorem sec_test_eq (C : Comb) (s : Nat → Value) (w : World) (N : List Sl → World → Prop) : sec_test_x C s w N = Y Try.prog C 5 [] (secTest (secLoop (Try.f25.body.getD .skip))) (onN N) ((List.range 18).map fun i => .val (s i)) w := by kernel_rfl
def sec_next_x (C : Comb) (s : Nat → Value) (w : World) (N : List Sl → World → Prop) : Prop :=
  C.step (sBin .add 3 (.tmp 12) (.const (.int .i64 64)) (s 4) (.int .i64 64)) w fun v13_1 w =>
  N [.val (s 0), .val (s 1), .val (s 2), .val (s 3), .val v13_1, .val (s 5), .val (s 6), .val (s 7), .val (s 8), .val (s 9), .val (s 10), .val (s 11), .val (s 4), .val v13_1, .val (s 14), .val (s 15), .val (s 16), .val (s 17)] w
theorem sec_next_eq (C : Comb) (s : Nat → Value) (w : World) (N : List Sl → World → Prop) : sec_next_x C s w N = Y Try.prog C 5 [] (secNext (secLoop (Try.f25.body.getD .skip))) (onN N) ((List.range 18).map fun i => .val (s i)) w := by kernel_rfl
end Go.Proofs.Ytdkahgknoohbpaa
