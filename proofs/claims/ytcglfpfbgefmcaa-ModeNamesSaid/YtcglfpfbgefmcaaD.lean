/- Functions of the program, read as statements without slots. Written by a program of this work. -/
import Derived.Test.YtcglfpfbgefmcaaXf
import Derived.Test.YtcglfpfbgefmcaaProg
import Derived.KernelRfl
namespace Go.Proofs.Ytcglfpfbgefmcaa
open Go Xf
set_option maxRecDepth 100000
set_option linter.unusedVariables false

theorem mixed : Try.prog.follows .mixedOrders = true := by kernel_rfl

def flotillalaw04_ModeTurned_k1 (C : Comb) (u4_1 : Value) (w : World) (Q : Value → World → Prop) : Prop :=
  Q u4_1 w
def flotillalaw04_ModeTurned_k2 (C : Comb) (w : World) (Q : Value → World → Prop) : Prop :=
  Q (.bool false) w
def flotillalaw04_ModeTurned_x (C : Comb) (a0 : Value) (a1 : Value) (w : World) (Q : Value → World → Prop) : Prop :=
  C.calls 10 #[a0, a1] w fun v11_1 w =>
  C.calls 10 #[a1, a0] w fun v14_1 w =>
  C.step (sBin .neq 4 (.tmp 11) (.tmp 14) v11_1 v14_1) w fun v15_1 w =>
  C.bool v15_1
  (Q (.bool false) w)
  (C.calls 11 #[a0, a1] w fun v19_1 w =>
  C.calls 11 #[a1, a0] w fun v22_1 w =>
  C.step (sBin .neq 22 (.tmp 19) (.tmp 22) v19_1 v22_1) w fun v23_1 w =>
  C.bool v23_1
  (Q (.bool false) w)
  (C.calls 12 #[a0] w fun v26_1 w =>
  C.step (sUn .not v26_1) w fun v27_1 w =>
  C.bool v27_1
  (C.calls 13 #[] w fun v42_1 w =>
  flotillalaw04_ModeTurned_k1 C v42_1 w Q)
  (C.calls 11 #[a0, a0] w fun v31_1 w =>
  C.step (sBin .eql 22 (.tmp 31) (.tmp 32) v31_1 a0) w fun v33_1 w =>
  C.bool v33_1
  (C.calls 11 #[a0, (.int .i64 0)] w fun v36_1 w =>
  C.step (sBin .eql 22 (.tmp 36) (.tmp 37) v36_1 a0) w fun v38_1 w =>
  C.bool v38_1
  (C.calls 13 #[] w fun v42_2 w =>
  flotillalaw04_ModeTurned_k1 C v42_2 w Q)
  (flotillalaw04_ModeTurned_k2 C w Q))
  (flotillalaw04_ModeTurned_k2 C w Q))))
theorem flotillalaw04_ModeTurned_eq (C : Comb) (a0 : Value) (a1 : Value) (w : World) (Q : Value → World → Prop) : flotillalaw04_ModeTurned_x C a0 a1 w Q = FunY Try.prog C 7 Try.f3 [a0, a1] w Q := by kernel_rfl
theorem flotillalaw04_ModeTurned_sound (a0 : Value) (a1 : Value) {w : World} {Q : Value → World → Prop} (h : flotillalaw04_ModeTurned_x (std Try.prog) a0 a1 w Q) : CallsR Try.prog 3 #[a0, a1] w Q :=
  calls_of_funY mixed Try.func3 (Eq.mp (flotillalaw04_ModeTurned_eq _ a0 a1 w Q) h)

def flotillalaw04_ModeAbove_k2 (C : Comb) (w : World) (Q : Value → World → Prop) : Prop :=
  Q (.bool false) w
def flotillalaw04_ModeAbove_k1 (C : Comb) (a0 : Value) (w : World) (Q : Value → World → Prop) : Prop :=
  C.calls 14 #[a0] w fun v27_1 w =>
  C.calls 10 #[(.int .i64 3), v27_1] w fun v28_1 w =>
  C.step (sBin .eql 4 (.tmp 28) (.tmp 29) v28_1 (.bool true)) w fun v30_1 w =>
  C.bool v30_1
  (C.calls 14 #[a0] w fun v33_1 w =>
  C.calls 11 #[v33_1, (.int .i64 1)] w fun v34_1 w =>
  C.calls 10 #[(.int .i64 5), v34_1] w fun v35_1 w =>
  C.step (sUn .not v35_1) w fun v36_1 w =>
  C.bool v36_1
  (C.calls 13 #[] w fun v39_1 w =>
  Q v39_1 w)
  (flotillalaw04_ModeAbove_k2 C w Q))
  (flotillalaw04_ModeAbove_k2 C w Q)
def flotillalaw04_ModeAbove_k3 (C : Comb) (w : World) (Q : Value → World → Prop) : Prop :=
  Q (.bool false) w
def flotillalaw04_ModeAbove_x (C : Comb) (a0 : Value) (a1 : Value) (w : World) (Q : Value → World → Prop) : Prop :=
  C.calls 14 #[a0] w fun v11_1 w =>
  C.calls 14 #[a1] w fun v13_1 w =>
  C.calls 10 #[v11_1, v13_1] w fun v14_1 w =>
  C.step (sUn .not v14_1) w fun v15_1 w =>
  C.bool v15_1
  (Q (.bool false) w)
  (C.step (sBin .eql 22 (.tmp 16) (.const (.int .i64 0)) a0 (.int .i64 0)) w fun v17_1 w =>
  C.bool v17_1
  (flotillalaw04_ModeAbove_k1 C a0 w Q)
  (C.step (sBin .eql 22 (.tmp 19) (.const (.int .i64 1)) a0 (.int .i64 1)) w fun v20_1 w =>
  C.bool v20_1
  (flotillalaw04_ModeAbove_k1 C a0 w Q)
  (C.step (sBin .eql 22 (.tmp 23) (.const (.int .i64 3)) a0 (.int .i64 3)) w fun v24_1 w =>
  C.calls 14 #[a0] w fun v27_2 w =>
  C.calls 10 #[(.int .i64 3), v27_2] w fun v28_2 w =>
  C.step (sBin .eql 4 (.tmp 28) (.tmp 29) v28_2 v24_1) w fun v30_2 w =>
  C.bool v30_2
  (C.calls 14 #[a0] w fun v33_2 w =>
  C.calls 11 #[v33_2, (.int .i64 1)] w fun v34_2 w =>
  C.calls 10 #[(.int .i64 5), v34_2] w fun v35_2 w =>
  C.step (sUn .not v35_2) w fun v36_2 w =>
  C.bool v36_2
  (C.calls 13 #[] w fun v39_2 w =>
  Q v39_2 w)
  (flotillalaw04_ModeAbove_k3 C w Q))
  (flotillalaw04_ModeAbove_k3 C w Q))))
theorem flotillalaw04_ModeAbove_eq (C : Comb) (a0 : Value) (a1 : Value) (w : World) (Q : Value → World → Prop) : flotillalaw04_ModeAbove_x C a0 a1 w Q = FunY Try.prog C 8 Try.f4 [a0, a1] w Q := by kernel_rfl
theorem flotillalaw04_ModeAbove_sound (a0 : Value) (a1 : Value) {w : World} {Q : Value → World → Prop} (h : flotillalaw04_ModeAbove_x (std Try.prog) a0 a1 w Q) : CallsR Try.prog 4 #[a0, a1] w Q :=
  calls_of_funY mixed Try.func4 (Eq.mp (flotillalaw04_ModeAbove_eq _ a0 a1 w Q) h)

def flotillalaw04_ModeTells_k1 (C : Comb) (u4_1 : Value) (w : World) (Q : Value → World → Prop) : Prop :=
  Q u4_1 w
def flotillalaw04_ModeTells_k2 (C : Comb) (w : World) (Q : Value → World → Prop) : Prop :=
  Q (.bool false) w
def flotillalaw04_ModeTells_x (C : Comb) (a0 : Value) (a1 : Value) (w : World) (Q : Value → World → Prop) : Prop :=
  C.calls 12 #[a0] w fun v10_1 w =>
  C.step (sBin .geq 3 (.tmp 11) (.const (.int .i64 0)) a0 (.int .i64 0)) w fun v12_1 w =>
  C.bool v12_1
  (C.step (sBin .leq 3 (.tmp 14) (.const (.int .i64 5)) a0 (.int .i64 5)) w fun v15_1 w =>
  C.step (sBin .eql 4 (.tmp 10) (.tmp 16) v10_1 v15_1) w fun v17_1 w =>
  C.bool v17_1
  (C.calls 10 #[a0, a1] w fun v21_1 w =>
  C.calls 15 #[a0, a1] w fun v24_1 w =>
  C.step (sBin .eql 4 (.tmp 21) (.tmp 24) v21_1 v24_1) w fun v25_1 w =>
  C.bool v25_1
  (C.calls 11 #[a0, a1] w fun v30_1 w =>
  C.calls 16 #[a0, a1] w fun v33_1 w =>
  C.step (sBin .eql 22 (.tmp 30) (.tmp 33) v30_1 v33_1) w fun v34_1 w =>
  C.bool v34_1
  (C.calls 17 #[a0, a1] w fun v39_1 w =>
  C.calls 18 #[a0, a1] w fun v42_1 w =>
  C.step (sBin .eql 4 (.tmp 39) (.tmp 42) v39_1 v42_1) w fun v43_1 w =>
  C.bool v43_1
  (C.calls 14 #[a0] w fun v47_1 w =>
  C.calls 19 #[a0] w fun v49_1 w =>
  C.step (sBin .eql 22 (.tmp 47) (.tmp 49) v47_1 v49_1) w fun v50_1 w =>
  C.bool v50_1
  (C.calls 13 #[] w fun v53_1 w =>
  flotillalaw04_ModeTells_k1 C v53_1 w Q)
  (flotillalaw04_ModeTells_k2 C w Q))
  (flotillalaw04_ModeTells_k2 C w Q))
  (flotillalaw04_ModeTells_k2 C w Q))
  (flotillalaw04_ModeTells_k2 C w Q))
  (flotillalaw04_ModeTells_k2 C w Q))
  (C.step (sBin .eql 4 (.tmp 10) (.tmp 16) v10_1 (.bool false)) w fun v17_2 w =>
  C.bool v17_2
  (C.calls 10 #[a0, a1] w fun v21_2 w =>
  C.calls 15 #[a0, a1] w fun v24_2 w =>
  C.step (sBin .eql 4 (.tmp 21) (.tmp 24) v21_2 v24_2) w fun v25_2 w =>
  C.bool v25_2
  (C.calls 11 #[a0, a1] w fun v30_2 w =>
  C.calls 16 #[a0, a1] w fun v33_2 w =>
  C.step (sBin .eql 22 (.tmp 30) (.tmp 33) v30_2 v33_2) w fun v34_2 w =>
  C.bool v34_2
  (C.calls 17 #[a0, a1] w fun v39_2 w =>
  C.calls 18 #[a0, a1] w fun v42_2 w =>
  C.step (sBin .eql 4 (.tmp 39) (.tmp 42) v39_2 v42_2) w fun v43_2 w =>
  C.bool v43_2
  (C.calls 14 #[a0] w fun v47_2 w =>
  C.calls 19 #[a0] w fun v49_2 w =>
  C.step (sBin .eql 22 (.tmp 47) (.tmp 49) v47_2 v49_2) w fun v50_2 w =>
  C.bool v50_2
  (C.calls 13 #[] w fun v53_2 w =>
  flotillalaw04_ModeTells_k1 C v53_2 w Q)
  (flotillalaw04_ModeTells_k2 C w Q))
  (flotillalaw04_ModeTells_k2 C w Q))
  (flotillalaw04_ModeTells_k2 C w Q))
  (flotillalaw04_ModeTells_k2 C w Q))
  (flotillalaw04_ModeTells_k2 C w Q))
theorem flotillalaw04_ModeTells_eq (C : Comb) (a0 : Value) (a1 : Value) (w : World) (Q : Value → World → Prop) : flotillalaw04_ModeTells_x C a0 a1 w Q = FunY Try.prog C 7 Try.f5 [a0, a1] w Q := by kernel_rfl
theorem flotillalaw04_ModeTells_sound (a0 : Value) (a1 : Value) {w : World} {Q : Value → World → Prop} (h : flotillalaw04_ModeTells_x (std Try.prog) a0 a1 w Q) : CallsR Try.prog 5 #[a0, a1] w Q :=
  calls_of_funY mixed Try.func5 (Eq.mp (flotillalaw04_ModeTells_eq _ a0 a1 w Q) h)

def flotillalaw04_ModeTogether_k1 (C : Comb) (w : World) (Q : Value → World → Prop) : Prop :=
  Q (.bool false) w
def flotillalaw04_ModeTogether_k2 (C : Comb) (u6_2 : Value) (w : World) (Q : Value → World → Prop) : Prop :=
  Q u6_2 w
def flotillalaw04_ModeTogether_x (C : Comb) (a0 : Value) (a1 : Value) (a2 : Value) (w : World) (Q : Value → World → Prop) : Prop :=
  C.calls 11 #[a0, a1] w fun v16_1 w =>
  C.calls 11 #[v16_1, a2] w fun v19_1 w =>
  C.calls 11 #[a1, a2] w fun v23_1 w =>
  C.calls 11 #[a0, v23_1] w fun v24_1 w =>
  C.step (sBin .neq 22 (.tmp 19) (.tmp 24) v19_1 v24_1) w fun v25_1 w =>
  C.bool v25_1
  (flotillalaw04_ModeTogether_k1 C w Q)
  (C.calls 17 #[v16_1, a0] w fun v29_1 w =>
  C.step (sUn .not v29_1) w fun v30_1 w =>
  C.bool v30_1
  (flotillalaw04_ModeTogether_k1 C w Q)
  (C.calls 17 #[v16_1, a1] w fun v35_1 w =>
  C.step (sUn .not v35_1) w fun v36_1 w =>
  C.bool v36_1
  (Q (.bool false) w)
  (C.calls 17 #[a2, a0] w fun v40_1 w =>
  C.step (sUn .not v40_1) w fun v41_1 w =>
  C.bool v41_1
  (C.calls 13 #[] w fun v54_1 w =>
  flotillalaw04_ModeTogether_k2 C v54_1 w Q)
  (C.calls 17 #[a2, a1] w fun v45_1 w =>
  C.step (sUn .not v45_1) w fun v46_1 w =>
  C.bool v46_1
  (C.calls 13 #[] w fun v54_2 w =>
  flotillalaw04_ModeTogether_k2 C v54_2 w Q)
  (C.calls 17 #[a2, v16_1] w fun v51_1 w =>
  C.bool v51_1
  (C.calls 13 #[] w fun v54_3 w =>
  flotillalaw04_ModeTogether_k2 C v54_3 w Q)
  (Q (.bool false) w))))))
theorem flotillalaw04_ModeTogether_eq (C : Comb) (a0 : Value) (a1 : Value) (a2 : Value) (w : World) (Q : Value → World → Prop) : flotillalaw04_ModeTogether_x C a0 a1 a2 w Q = FunY Try.prog C 11 Try.f6 [a0, a1, a2] w Q := by kernel_rfl
theorem flotillalaw04_ModeTogether_sound (a0 : Value) (a1 : Value) (a2 : Value) {w : World} {Q : Value → World → Prop} (h : flotillalaw04_ModeTogether_x (std Try.prog) a0 a1 a2 w Q) : CallsR Try.prog 6 #[a0, a1, a2] w Q :=
  calls_of_funY mixed Try.func6 (Eq.mp (flotillalaw04_ModeTogether_eq _ a0 a1 a2 w Q) h)

def flotillalaw04_ModeNames_k1 (C : Comb) (w : World) (Q : Value → World → Prop) : Prop :=
  Q (.bool false) w
def flotillalaw04_ModeNames_x (C : Comb) (a0 : Value) (a1 : Value) (w : World) (Q : Value → World → Prop) : Prop :=
  C.calls 20 #[a1] w fun v13_1 w =>
  C.step (sExtract v13_1 0) w fun v14_1 w =>
  C.step (sExtract v13_1 1) w fun v15_1 w =>
  C.calls 21 #[a1] w fun v18_1 w =>
  C.step (sExtract v18_1 0) w fun v19_1 w =>
  C.step (sExtract v18_1 1) w fun v20_1 w =>
  C.calls 22 #[a0] w fun v23_1 w =>
  C.calls 20 #[v23_1] w fun v24_1 w =>
  C.step (sExtract v24_1 0) w fun v25_1 w =>
  C.step (sExtract v24_1 1) w fun v26_1 w =>
  C.calls 22 #[a0] w fun v28_1 w =>
  C.calls 23 #[a0] w fun v30_1 w =>
  C.step (sBin .eql 9 (.tmp 28) (.tmp 30) v28_1 v30_1) w fun v31_1 w =>
  C.bool v31_1
  (C.step (sBin .eql 22 (.tmp 33) (.tmp 34) v14_1 v19_1) w fun v35_1 w =>
  C.bool v35_1
  (C.step (sBin .eql 30 (.tmp 38) (.tmp 39) v15_1 v20_1) w fun v40_1 w =>
  C.bool v40_1
  (C.step (sBin .eql 30 (.tmp 43) (.const (.int .i64 0)) v26_1 (.int .i64 0)) w fun v44_1 w =>
  C.bool v44_1
  (C.calls 24 #[a0] w fun v49_1 w =>
  C.step (sBin .eql 3 (.tmp 47) (.tmp 49) v25_1 v49_1) w fun v50_1 w =>
  C.bool v50_1
  (C.calls 13 #[] w fun v53_1 w =>
  Q v53_1 w)
  (flotillalaw04_ModeNames_k1 C w Q))
  (flotillalaw04_ModeNames_k1 C w Q))
  (flotillalaw04_ModeNames_k1 C w Q))
  (flotillalaw04_ModeNames_k1 C w Q))
  (flotillalaw04_ModeNames_k1 C w Q)
theorem flotillalaw04_ModeNames_eq (C : Comb) (a0 : Value) (a1 : Value) (w : World) (Q : Value → World → Prop) : flotillalaw04_ModeNames_x C a0 a1 w Q = FunY Try.prog C 11 Try.f7 [a0, a1] w Q := by kernel_rfl
theorem flotillalaw04_ModeNames_sound (a0 : Value) (a1 : Value) {w : World} {Q : Value → World → Prop} (h : flotillalaw04_ModeNames_x (std Try.prog) a0 a1 w Q) : CallsR Try.prog 7 #[a0, a1] w Q :=
  calls_of_funY mixed Try.func7 (Eq.mp (flotillalaw04_ModeNames_eq _ a0 a1 w Q) h)

def flotillalaw04_ModeGroups_k1 (C : Comb) (w : World) (Q : Value → World → Prop) : Prop :=
  Q (.bool false) w
def flotillalaw04_ModeGroups_x (C : Comb) (a0 : Value) (a1 : Value) (w : World) (Q : Value → World → Prop) : Prop :=
  C.calls 25 #[a0] w fun v7_1 w =>
  C.calls 26 #[v7_1] w fun v9_1 w =>
  C.calls 27 #[v7_1] w fun v11_1 w =>
  C.step (sBin .eql 22 (.tmp 9) (.tmp 11) v9_1 v11_1) w fun v12_1 w =>
  C.bool v12_1
  (C.calls 28 #[v7_1, a1] w fun v16_1 w =>
  C.calls 29 #[v7_1, a1] w fun v19_1 w =>
  C.step (sBin .eql 4 (.tmp 16) (.tmp 19) v16_1 v19_1) w fun v20_1 w =>
  C.bool v20_1
  (C.calls 13 #[] w fun v23_1 w =>
  Q v23_1 w)
  (flotillalaw04_ModeGroups_k1 C w Q))
  (flotillalaw04_ModeGroups_k1 C w Q)
theorem flotillalaw04_ModeGroups_eq (C : Comb) (a0 : Value) (a1 : Value) (w : World) (Q : Value → World → Prop) : flotillalaw04_ModeGroups_x C a0 a1 w Q = FunY Try.prog C 6 Try.f8 [a0, a1] w Q := by kernel_rfl
theorem flotillalaw04_ModeGroups_sound (a0 : Value) (a1 : Value) {w : World} {Q : Value → World → Prop} (h : flotillalaw04_ModeGroups_x (std Try.prog) a0 a1 w Q) : CallsR Try.prog 8 #[a0, a1] w Q :=
  calls_of_funY mixed Try.func8 (Eq.mp (flotillalaw04_ModeGroups_eq _ a0 a1 w Q) h)

def flotillalaw04_ModeJoins_x (C : Comb) (a0 : Value) (a1 : Value) (w : World) (Q : Value → World → Prop) : Prop :=
  C.calls 25 #[a0] w fun v7_1 w =>
  C.calls 28 #[v7_1, a1] w fun v10_1 w =>
  C.calls 26 #[v7_1] w fun v12_1 w =>
  C.calls 10 #[v12_1, a1] w fun v14_1 w =>
  C.step (sBin .eql 4 (.tmp 10) (.tmp 14) v10_1 v14_1) w fun v15_1 w =>
  C.bool v15_1
  (C.calls 13 #[] w fun v17_1 w =>
  Q v17_1 w)
  (Q (.bool false) w)
theorem flotillalaw04_ModeJoins_eq (C : Comb) (a0 : Value) (a1 : Value) (w : World) (Q : Value → World → Prop) : flotillalaw04_ModeJoins_x C a0 a1 w Q = FunY Try.prog C 6 Try.f9 [a0, a1] w Q := by kernel_rfl
theorem flotillalaw04_ModeJoins_sound (a0 : Value) (a1 : Value) {w : World} {Q : Value → World → Prop} (h : flotillalaw04_ModeJoins_x (std Try.prog) a0 a1 w Q) : CallsR Try.prog 9 #[a0, a1] w Q :=
  calls_of_funY mixed Try.func9 (Eq.mp (flotillalaw04_ModeJoins_eq _ a0 a1 w Q) h)

def mode_Beside_x (C : Comb) (a0 : Value) (a1 : Value) (w : World) (Q : Value → World → Prop) : Prop :=
  C.draw w fun S_1 w =>
  C.calls 30 #[] w fun v5_1 w =>
  C.keepS S_1 w fun S_2 =>
  C.calls 31 #[a0] w fun v7_1 w =>
  C.keepS S_2 w fun S_3 =>
  C.stepS S_3 (sIndex 45 v5_1 v7_1) fun v8_1 =>
  C.calls 31 #[a1] w fun v10_1 w =>
  C.keepS S_3 w fun S_4 =>
  C.stepS S_4 (sIndex 44 v8_1 v10_1) fun v11_1 =>
  Q v11_1 w
theorem mode_Beside_eq (C : Comb) (a0 : Value) (a1 : Value) (w : World) (Q : Value → World → Prop) : mode_Beside_x C a0 a1 w Q = FunY Try.prog C 4 Try.f10 [a0, a1] w Q := by kernel_rfl
theorem mode_Beside_sound (a0 : Value) (a1 : Value) {w : World} {Q : Value → World → Prop} (h : mode_Beside_x (std Try.prog) a0 a1 w Q) : CallsR Try.prog 10 #[a0, a1] w Q :=
  calls_of_funY mixed Try.func10 (Eq.mp (mode_Beside_eq _ a0 a1 w Q) h)

def mode_Join_k2 (C : Comb) (w : World) (Q : Value → World → Prop) : Prop :=
  Q (.int .i64 5) w
def mode_Join_k1 (C : Comb) (v5_1 : Value) (v6_1 : Value) (w : World) (Q : Value → World → Prop) : Prop :=
  C.loop [undef, (.int .i64 0), (.int .i64 0)] w fun dv_1 vs_1 w again_1 =>
  C.step (sBin .lss 3 (.tmp 30) (.const (.int .i64 6)) (vs_1.getD 2 undef) (.int .i64 6)) w fun v31_1 w =>
  C.bool v31_1
  (C.draw w fun S_1 w =>
  C.stepS S_1 (sIndexAddr 45 v5_1 (vs_1.getD 2 undef)) fun v34_1 =>
  C.stepS S_1 (sLoad 44 v34_1) fun v35_1 =>
  C.stepS S_1 (sLoad 44 v6_1) fun v36_1 =>
  C.stepS S_1 (sBin .eql 44 (.tmp 35) (.tmp 36) v35_1 v36_1) fun v37_1 =>
  C.bool v37_1
  (Q (vs_1.getD 2 undef) w)
  (C.step (sBin .add 3 (.tmp 30) (.const (.int .i64 1)) (vs_1.getD 2 undef) (.int .i64 1)) w fun v39_1 w =>
  again_1 [(vs_1.getD 2 undef), (vs_1.getD 1 undef), v39_1] w))
  (mode_Join_k2 C w Q)
def mode_Join_k3 (C : Comb) (vs_2 : List Value) (again_2 : List Value → World → Prop) (u7_3 : Value) (w : World) (Q : Value → World → Prop) : Prop :=
  C.step (sBin .add 3 (.tmp 10) (.const (.int .i64 1)) (vs_2.getD 1 undef) (.int .i64 1)) w fun v29_1 w =>
  again_2 [u7_3, v29_1] w
def mode_Join_x (C : Comb) (a0 : Value) (a1 : Value) (w : World) (Q : Value → World → Prop) : Prop :=
  C.calls 30 #[] w fun v9_1 w =>
  C.step (sAlloc 45) w fun v5_1 w =>
  C.step (sStore 45 v5_1 v9_1) w fun vx_1 w =>
  C.step (sAlloc 44) w fun v6_1 w =>
  C.loop [undef, (.int .i64 0)] w fun dv_2 vs_2 w again_2 =>
  C.step (sBin .lss 3 (.tmp 10) (.const (.int .i64 6)) (vs_2.getD 1 undef) (.int .i64 6)) w fun v11_1 w =>
  C.bool v11_1
  (C.calls 31 #[a0] w fun v15_1 w =>
  C.step (sIndexAddr 45 v5_1 v15_1) w fun v17_1 w =>
  C.step (sIndexAddr 44 v17_1 (vs_2.getD 1 undef)) w fun v18_1 w =>
  C.step (sLoad 4 v18_1) w fun v19_1 w =>
  C.bool v19_1
  (C.calls 31 #[a1] w fun v22_1 w =>
  C.step (sIndexAddr 45 v5_1 v22_1) w fun v24_1 w =>
  C.step (sIndexAddr 44 v24_1 (vs_2.getD 1 undef)) w fun v25_1 w =>
  C.step (sLoad 4 v25_1) w fun v26_1 w =>
  C.step (sIndexAddr 44 v6_1 (vs_2.getD 1 undef)) w fun v28_1 w =>
  C.step (sStore 4 v28_1 v26_1) w fun vx_2 w =>
  mode_Join_k3 C vs_2 again_2 (vs_2.getD 1 undef) w Q)
  (C.step (sIndexAddr 44 v6_1 (vs_2.getD 1 undef)) w fun v28_2 w =>
  C.step (sStore 4 v28_2 (.bool false)) w fun vx_3 w =>
  mode_Join_k3 C vs_2 again_2 (vs_2.getD 1 undef) w Q))
  (mode_Join_k1 C v5_1 v6_1 w Q)
theorem mode_Join_eq (C : Comb) (a0 : Value) (a1 : Value) (w : World) (Q : Value → World → Prop) : mode_Join_x C a0 a1 w Q = FunY Try.prog C 9 Try.f11 [a0, a1] w Q := by kernel_rfl
theorem mode_Join_sound (a0 : Value) (a1 : Value) {w : World} {Q : Value → World → Prop} (h : mode_Join_x (std Try.prog) a0 a1 w Q) : CallsR Try.prog 11 #[a0, a1] w Q :=
  calls_of_funY mixed Try.func11 (Eq.mp (mode_Join_eq _ a0 a1 w Q) h)

def mode_Known_x (C : Comb) (a0 : Value) (w : World) (Q : Value → World → Prop) : Prop :=
  C.step (sBin .geq 22 (.tmp 3) (.const (.int .i64 0)) a0 (.int .i64 0)) w fun v4_1 w =>
  C.bool v4_1
  (C.step (sBin .lss 22 (.tmp 6) (.const (.int .i64 6)) a0 (.int .i64 6)) w fun v7_1 w =>
  Q v7_1 w)
  (Q (.bool false) w)
theorem mode_Known_eq (C : Comb) (a0 : Value) (w : World) (Q : Value → World → Prop) : mode_Known_x C a0 w Q = FunY Try.prog C 2 Try.f12 [a0] w Q := by kernel_rfl
theorem mode_Known_sound (a0 : Value) {w : World} {Q : Value → World → Prop} (h : mode_Known_x (std Try.prog) a0 w Q) : CallsR Try.prog 12 #[a0] w Q :=
  calls_of_funY mixed Try.func12 (Eq.mp (mode_Known_eq _ a0 w Q) h)

def flotillalaw04_lives_k1 (C : Comb) (w : World) (Q : Value → World → Prop) : Prop :=
  Q (.bool false) w
def flotillalaw04_lives_x (C : Comb) (w : World) (Q : Value → World → Prop) : Prop :=
  C.calls 11 #[(.int .i64 2), (.int .i64 3)] w fun v1_1 w =>
  C.step (sBin .eql 22 (.tmp 1) (.const (.int .i64 4)) v1_1 (.int .i64 4)) w fun v2_1 w =>
  C.bool v2_1
  (C.calls 10 #[(.int .i64 2), (.int .i64 3)] w fun v4_1 w =>
  C.step (sUn .not v4_1) w fun v5_1 w =>
  C.bool v5_1
  (C.calls 14 #[(.int .i64 3)] w fun v8_1 w =>
  C.step (sBin .eql 22 (.tmp 8) (.const (.int .i64 1)) v8_1 (.int .i64 1)) w fun v9_1 w =>
  Q v9_1 w)
  (flotillalaw04_lives_k1 C w Q))
  (flotillalaw04_lives_k1 C w Q)
theorem flotillalaw04_lives_eq (C : Comb) (w : World) (Q : Value → World → Prop) : flotillalaw04_lives_x C w Q = FunY Try.prog C 0 Try.f13 [] w Q := by kernel_rfl
theorem flotillalaw04_lives_sound {w : World} {Q : Value → World → Prop} (h : flotillalaw04_lives_x (std Try.prog) w Q) : CallsR Try.prog 13 #[] w Q :=
  calls_of_funY mixed Try.func13 (Eq.mp (flotillalaw04_lives_eq _ w Q) h)

def mode_Intent_k1 (C : Comb) (u7_1 : Value) (w : World) (Q : Value → World → Prop) : Prop :=
  C.bool u7_1
  (Q (.int .i64 1) w)
  (Q (.int .i64 2) w)
def mode_Intent_x (C : Comb) (a0 : Value) (w : World) (Q : Value → World → Prop) : Prop :=
  C.calls 31 #[a0] w fun v4_1 w =>
  C.step (sBin .eql 22 (.tmp 4) (.const (.int .i64 0)) v4_1 (.int .i64 0)) w fun v6_1 w =>
  C.bool v6_1
  (Q (.int .i64 0) w)
  (C.step (sBin .eql 22 (.tmp 4) (.const (.int .i64 1)) v4_1 (.int .i64 1)) w fun v8_1 w =>
  C.bool v8_1
  (mode_Intent_k1 C v8_1 w Q)
  (C.step (sBin .eql 22 (.tmp 4) (.const (.int .i64 3)) v4_1 (.int .i64 3)) w fun v9_1 w =>
  mode_Intent_k1 C v9_1 w Q))
theorem mode_Intent_eq (C : Comb) (a0 : Value) (w : World) (Q : Value → World → Prop) : mode_Intent_x C a0 w Q = FunY Try.prog C 2 Try.f14 [a0] w Q := by kernel_rfl
theorem mode_Intent_sound (a0 : Value) {w : World} {Q : Value → World → Prop} (h : mode_Intent_x (std Try.prog) a0 w Q) : CallsR Try.prog 14 #[a0] w Q :=
  calls_of_funY mixed Try.func14 (Eq.mp (mode_Intent_eq _ a0 w Q) h)

def flotillaref04_Beside_k1 (C : Comb) (u5_1 : Value) (u6_1 : Value) (w : World) (Q : Value → World → Prop) : Prop :=
  C.step (sBin .eql 3 (.tmp 16) (.const (.int .i64 0)) u5_1 (.int .i64 0)) w fun v18_1 w =>
  C.bool v18_1
  (Q (.bool true) w)
  (C.step (sBin .eql 3 (.tmp 16) (.const (.int .i64 1)) u5_1 (.int .i64 1)) w fun v20_1 w =>
  C.bool v20_1
  (C.step (sBin .neq 3 (.tmp 21) (.const (.int .i64 5)) u6_1 (.int .i64 5)) w fun v22_1 w =>
  Q v22_1 w)
  (C.step (sBin .eql 3 (.tmp 16) (.const (.int .i64 2)) u5_1 (.int .i64 2)) w fun v24_1 w =>
  C.bool v24_1
  (C.step (sBin .eql 3 (.tmp 25) (.const (.int .i64 2)) u6_1 (.int .i64 2)) w fun v26_1 w =>
  Q v26_1 w)
  (C.step (sBin .eql 3 (.tmp 16) (.const (.int .i64 3)) u5_1 (.int .i64 3)) w fun v28_1 w =>
  C.bool v28_1
  (C.step (sBin .eql 3 (.tmp 29) (.const (.int .i64 3)) u6_1 (.int .i64 3)) w fun v30_1 w =>
  Q v30_1 w)
  (Q (.bool false) w))))
def flotillaref04_Beside_x (C : Comb) (a0 : Value) (a1 : Value) (w : World) (Q : Value → World → Prop) : Prop :=
  C.calls 24 #[a0] w fun v8_1 w =>
  C.calls 24 #[a1] w fun v10_1 w =>
  C.step (sBin .gtr 3 (.tmp 11) (.tmp 12) v8_1 v10_1) w fun v13_1 w =>
  C.bool v13_1
  (flotillaref04_Beside_k1 C v10_1 v8_1 w Q)
  (flotillaref04_Beside_k1 C v8_1 v10_1 w Q)
theorem flotillaref04_Beside_eq (C : Comb) (a0 : Value) (a1 : Value) (w : World) (Q : Value → World → Prop) : flotillaref04_Beside_x C a0 a1 w Q = FunY Try.prog C 7 Try.f15 [a0, a1] w Q := by kernel_rfl
theorem flotillaref04_Beside_sound (a0 : Value) (a1 : Value) {w : World} {Q : Value → World → Prop} (h : flotillaref04_Beside_x (std Try.prog) a0 a1 w Q) : CallsR Try.prog 15 #[a0, a1] w Q :=
  calls_of_funY mixed Try.func15 (Eq.mp (flotillaref04_Beside_eq _ a0 a1 w Q) h)

def flotillaref04_Join_k1 (C : Comb) (w : World) (Q : Value → World → Prop) : Prop :=
  Q (.int .i64 5) w
def flotillaref04_Join_k2 (C : Comb) (vs_1 : List Value) (again_1 : List Value → World → Prop) (u4_2 : Value) (w : World) (Q : Value → World → Prop) : Prop :=
  C.step (sBin .add 3 (.tmp 8) (.const (.int .i64 1)) (vs_1.getD 1 undef) (.int .i64 1)) w fun v9_1 w =>
  again_1 [u4_2, v9_1] w
def flotillaref04_Join_x (C : Comb) (a0 : Value) (a1 : Value) (w : World) (Q : Value → World → Prop) : Prop :=
  C.loop [(.int .i64 0), (.int .i64 0)] w fun dv_1 vs_1 w again_1 =>
  C.step (sBin .lss 3 (.tmp 6) (.const (.int .i64 5)) (vs_1.getD 1 undef) (.int .i64 5)) w fun v7_1 w =>
  C.bool v7_1
  (C.calls 18 #[(vs_1.getD 1 undef), a0] w fun v12_1 w =>
  C.bool v12_1
  (C.calls 18 #[(vs_1.getD 1 undef), a1] w fun v16_1 w =>
  C.bool v16_1
  (Q (vs_1.getD 1 undef) w)
  (flotillaref04_Join_k2 C vs_1 again_1 (vs_1.getD 0 undef) w Q))
  (flotillaref04_Join_k2 C vs_1 again_1 (vs_1.getD 0 undef) w Q))
  (flotillaref04_Join_k1 C w Q)
theorem flotillaref04_Join_eq (C : Comb) (a0 : Value) (a1 : Value) (w : World) (Q : Value → World → Prop) : flotillaref04_Join_x C a0 a1 w Q = FunY Try.prog C 6 Try.f16 [a0, a1] w Q := by kernel_rfl
theorem flotillaref04_Join_sound (a0 : Value) (a1 : Value) {w : World} {Q : Value → World → Prop} (h : flotillaref04_Join_x (std Try.prog) a0 a1 w Q) : CallsR Try.prog 16 #[a0, a1] w Q :=
  calls_of_funY mixed Try.func16 (Eq.mp (flotillaref04_Join_eq _ a0 a1 w Q) h)

def mode_Covers_x (C : Comb) (a0 : Value) (a1 : Value) (w : World) (Q : Value → World → Prop) : Prop :=
  C.calls 11 #[a0, a1] w fun v7_1 w =>
  C.calls 31 #[a0] w fun v9_1 w =>
  C.step (sBin .eql 22 (.tmp 7) (.tmp 9) v7_1 v9_1) w fun v10_1 w =>
  Q v10_1 w
theorem mode_Covers_eq (C : Comb) (a0 : Value) (a1 : Value) (w : World) (Q : Value → World → Prop) : mode_Covers_x C a0 a1 w Q = FunY Try.prog C 4 Try.f17 [a0, a1] w Q := by kernel_rfl
theorem mode_Covers_sound (a0 : Value) (a1 : Value) {w : World} {Q : Value → World → Prop} (h : mode_Covers_x (std Try.prog) a0 a1 w Q) : CallsR Try.prog 17 #[a0, a1] w Q :=
  calls_of_funY mixed Try.func17 (Eq.mp (mode_Covers_eq _ a0 a1 w Q) h)

def flotillaref04_Covers_k1 (C : Comb) (u4_1 : Value) (w : World) (Q : Value → World → Prop) : Prop :=
  Q u4_1 w
def flotillaref04_Covers_x (C : Comb) (a0 : Value) (a1 : Value) (w : World) (Q : Value → World → Prop) : Prop :=
  C.calls 24 #[a0] w fun v8_1 w =>
  C.calls 24 #[a1] w fun v10_1 w =>
  C.step (sBin .geq 3 (.tmp 11) (.tmp 12) v8_1 v10_1) w fun v13_1 w =>
  C.bool v13_1
  (C.step (sBin .eql 3 (.tmp 15) (.const (.int .i64 3)) v8_1 (.int .i64 3)) w fun v16_1 w =>
  C.bool v16_1
  (C.step (sBin .eql 3 (.tmp 18) (.const (.int .i64 2)) v10_1 (.int .i64 2)) w fun v19_1 w =>
  C.step (sUn .not v19_1) w fun v21_1 w =>
  flotillaref04_Covers_k1 C v21_1 w Q)
  (C.step (sUn .not (.bool false)) w fun v21_2 w =>
  flotillaref04_Covers_k1 C v21_2 w Q))
  (Q (.bool false) w)
theorem flotillaref04_Covers_eq (C : Comb) (a0 : Value) (a1 : Value) (w : World) (Q : Value → World → Prop) : flotillaref04_Covers_x C a0 a1 w Q = FunY Try.prog C 7 Try.f18 [a0, a1] w Q := by kernel_rfl
theorem flotillaref04_Covers_sound (a0 : Value) (a1 : Value) {w : World} {Q : Value → World → Prop} (h : flotillaref04_Covers_x (std Try.prog) a0 a1 w Q) : CallsR Try.prog 18 #[a0, a1] w Q :=
  calls_of_funY mixed Try.func18 (Eq.mp (flotillaref04_Covers_eq _ a0 a1 w Q) h)

def flotillaref04_Intent_k1 (C : Comb) (u7_1 : Value) (w : World) (Q : Value → World → Prop) : Prop :=
  C.bool u7_1
  (Q (.int .i64 1) w)
  (Q (.int .i64 2) w)
def flotillaref04_Intent_x (C : Comb) (a0 : Value) (w : World) (Q : Value → World → Prop) : Prop :=
  C.calls 24 #[a0] w fun v4_1 w =>
  C.step (sBin .eql 3 (.tmp 4) (.const (.int .i64 0)) v4_1 (.int .i64 0)) w fun v6_1 w =>
  C.bool v6_1
  (Q (.int .i64 0) w)
  (C.step (sBin .eql 3 (.tmp 4) (.const (.int .i64 1)) v4_1 (.int .i64 1)) w fun v8_1 w =>
  C.bool v8_1
  (flotillaref04_Intent_k1 C v8_1 w Q)
  (C.step (sBin .eql 3 (.tmp 4) (.const (.int .i64 3)) v4_1 (.int .i64 3)) w fun v9_1 w =>
  flotillaref04_Intent_k1 C v9_1 w Q))
theorem flotillaref04_Intent_eq (C : Comb) (a0 : Value) (w : World) (Q : Value → World → Prop) : flotillaref04_Intent_x C a0 w Q = FunY Try.prog C 2 Try.f19 [a0] w Q := by kernel_rfl
theorem flotillaref04_Intent_sound (a0 : Value) {w : World} {Q : Value → World → Prop} (h : flotillaref04_Intent_x (std Try.prog) a0 w Q) : CallsR Try.prog 19 #[a0] w Q :=
  calls_of_funY mixed Try.func19 (Eq.mp (flotillaref04_Intent_eq _ a0 w Q) h)

def mode_Parse_k1 (C : Comb) (w : World) (Q : Value → World → Prop) : Prop :=
  Q (.tuple #[(.int .i64 0), (.int .i64 5)]) w
def mode_Parse_x (C : Comb) (a0 : Value) (w : World) (Q : Value → World → Prop) : Prop :=
  C.loop [(.int .i64 0), (.int .i64 0), (.int .i64 0)] w fun dv_1 vs_1 w again_1 =>
  C.step (sBin .lss 22 (.tmp 5) (.const (.int .i64 6)) (vs_1.getD 2 undef) (.int .i64 6)) w fun v6_1 w =>
  C.bool v6_1
  (C.calls 22 #[(vs_1.getD 2 undef)] w fun v10_1 w =>
  C.step (sBin .eql 9 (.tmp 10) (.tmp 11) v10_1 a0) w fun v12_1 w =>
  C.bool v12_1
  (Q (.tuple #[(vs_1.getD 2 undef), (.int .i64 0)]) w)
  (C.step (sBin .add 22 (.tmp 7) (.const (.int .i64 1)) (vs_1.getD 2 undef) (.int .i64 1)) w fun v8_1 w =>
  again_1 [(vs_1.getD 0 undef), (vs_1.getD 1 undef), v8_1] w))
  (mode_Parse_k1 C w Q)
theorem mode_Parse_eq (C : Comb) (a0 : Value) (w : World) (Q : Value → World → Prop) : mode_Parse_x C a0 w Q = FunY Try.prog C 5 Try.f20 [a0] w Q := by kernel_rfl
theorem mode_Parse_sound (a0 : Value) {w : World} {Q : Value → World → Prop} (h : mode_Parse_x (std Try.prog) a0 w Q) : CallsR Try.prog 20 #[a0] w Q :=
  calls_of_funY mixed Try.func20 (Eq.mp (mode_Parse_eq _ a0 w Q) h)

def flotillaref04_Parse_k1 (C : Comb) (w : World) (Q : Value → World → Prop) : Prop :=
  Q (.tuple #[(.int .i64 0), (.int .i64 5)]) w
def flotillaref04_Parse_x (C : Comb) (a0 : Value) (w : World) (Q : Value → World → Prop) : Prop :=
  C.loop [(.int .i64 0), (.int .i64 0), (.int .i64 0)] w fun dv_1 vs_1 w again_1 =>
  C.step (sBin .lss 3 (.tmp 5) (.const (.int .i64 6)) (vs_1.getD 2 undef) (.int .i64 6)) w fun v6_1 w =>
  C.bool v6_1
  (C.calls 23 #[(vs_1.getD 2 undef)] w fun v10_1 w =>
  C.step (sBin .eql 9 (.tmp 10) (.tmp 11) v10_1 a0) w fun v12_1 w =>
  C.bool v12_1
  (Q (.tuple #[(vs_1.getD 2 undef), (.int .i64 0)]) w)
  (C.step (sBin .add 3 (.tmp 7) (.const (.int .i64 1)) (vs_1.getD 2 undef) (.int .i64 1)) w fun v8_1 w =>
  again_1 [(vs_1.getD 0 undef), (vs_1.getD 1 undef), v8_1] w))
  (flotillaref04_Parse_k1 C w Q)
theorem flotillaref04_Parse_eq (C : Comb) (a0 : Value) (w : World) (Q : Value → World → Prop) : flotillaref04_Parse_x C a0 w Q = FunY Try.prog C 5 Try.f21 [a0] w Q := by kernel_rfl
theorem flotillaref04_Parse_sound (a0 : Value) {w : World} {Q : Value → World → Prop} (h : flotillaref04_Parse_x (std Try.prog) a0 w Q) : CallsR Try.prog 21 #[a0] w Q :=
  calls_of_funY mixed Try.func21 (Eq.mp (flotillaref04_Parse_eq _ a0 w Q) h)

def mode_Name_x (C : Comb) (a0 : Value) (w : World) (Q : Value → World → Prop) : Prop :=
  C.step (sBuild 47 [(0, (.string ⟨#[110, 111, 110, 101]⟩)), (1, (.string ⟨#[105, 115]⟩)), (2, (.string ⟨#[105, 120]⟩)), (3, (.string ⟨#[115]⟩)), (4, (.string ⟨#[115, 105, 120]⟩)), (5, (.string ⟨#[120]⟩))]) w fun v3_1 w =>
  C.calls 31 #[a0] w fun v5_1 w =>
  C.step (sIndex 47 v3_1 v5_1) w fun v6_1 w =>
  Q v6_1 w
theorem mode_Name_eq (C : Comb) (a0 : Value) (w : World) (Q : Value → World → Prop) : mode_Name_x C a0 w Q = FunY Try.prog C 2 Try.f22 [a0] w Q := by kernel_rfl
theorem mode_Name_sound (a0 : Value) {w : World} {Q : Value → World → Prop} (h : mode_Name_x (std Try.prog) a0 w Q) : CallsR Try.prog 22 #[a0] w Q :=
  calls_of_funY mixed Try.func22 (Eq.mp (mode_Name_eq _ a0 w Q) h)

def flotillaref04_Name_x (C : Comb) (a0 : Value) (w : World) (Q : Value → World → Prop) : Prop :=
  C.step (sBuildSlice 48 6 [(0, (.string ⟨#[110, 111, 110, 101]⟩)), (1, (.string ⟨#[105, 115]⟩)), (2, (.string ⟨#[105, 120]⟩)), (3, (.string ⟨#[115]⟩)), (4, (.string ⟨#[115, 105, 120]⟩)), (5, (.string ⟨#[120]⟩))]) w fun v3_1 w =>
  C.calls 24 #[a0] w fun v5_1 w =>
  C.step (sIndexAddr 48 v3_1 v5_1) w fun v6_1 w =>
  C.step (sLoad 9 v6_1) w fun v7_1 w =>
  Q v7_1 w
theorem flotillaref04_Name_eq (C : Comb) (a0 : Value) (w : World) (Q : Value → World → Prop) : flotillaref04_Name_x C a0 w Q = FunY Try.prog C 2 Try.f23 [a0] w Q := by kernel_rfl
theorem flotillaref04_Name_sound (a0 : Value) {w : World} {Q : Value → World → Prop} (h : flotillaref04_Name_x (std Try.prog) a0 w Q) : CallsR Try.prog 23 #[a0] w Q :=
  calls_of_funY mixed Try.func23 (Eq.mp (flotillaref04_Name_eq _ a0 w Q) h)

def flotillaref04_Sure_x (C : Comb) (a0 : Value) (w : World) (Q : Value → World → Prop) : Prop :=
  C.step (sBin .lss 22 (.tmp 3) (.const (.int .i64 0)) a0 (.int .i64 0)) w fun v4_1 w =>
  C.bool v4_1
  (Q (.int .i64 5) w)
  (C.step (sBin .gtr 22 (.tmp 6) (.const (.int .i64 5)) a0 (.int .i64 5)) w fun v7_1 w =>
  C.bool v7_1
  (Q (.int .i64 5) w)
  (Q a0 w))
theorem flotillaref04_Sure_eq (C : Comb) (a0 : Value) (w : World) (Q : Value → World → Prop) : flotillaref04_Sure_x C a0 w Q = FunY Try.prog C 2 Try.f24 [a0] w Q := by kernel_rfl
theorem flotillaref04_Sure_sound (a0 : Value) {w : World} {Q : Value → World → Prop} (h : flotillaref04_Sure_x (std Try.prog) a0 w Q) : CallsR Try.prog 24 #[a0] w Q :=
  calls_of_funY mixed Try.func24 (Eq.mp (flotillaref04_Sure_eq _ a0 w Q) h)

def flotillalaw04_modes_k1 (C : Comb) (u3_1 : Value) (w : World) (Q : Value → World → Prop) : Prop :=
  Q u3_1 w
def flotillalaw04_modes_x (C : Comb) (a0 : Value) (w : World) (Q : Value → World → Prop) : Prop :=
  C.step (sBuildSlice 37 0 []) w fun v5_1 w =>
  C.loop [v5_1, (.int .i64 0)] w fun dv_1 vs_1 w again_1 =>
  C.step (sBuiltin .len #[36] 3 [false] [a0]) w fun v8_1 w =>
  C.step (sBin .lss 3 (.tmp 6) (.tmp 8) (vs_1.getD 1 undef) v8_1) w fun v9_1 w =>
  C.bool v9_1
  (C.step (sBin .lss 3 (.tmp 11) (.const (.int .i64 60)) (vs_1.getD 1 undef) (.int .i64 60)) w fun v12_1 w =>
  C.bool v12_1
  (C.step (sIndexAddr 36 a0 (vs_1.getD 1 undef)) w fun v19_1 w =>
  C.step (sLoad 3 v19_1) w fun v20_1 w =>
  C.step (sBuildSlice 37 1 [(0, v20_1)]) w fun v21_1 w =>
  C.step (sBuiltin .append #[37, 37] 37 [false, false] [(vs_1.getD 0 undef), v21_1]) w fun v22_1 w =>
  C.step (sBin .add 3 (.tmp 14) (.const (.int .i64 1)) (vs_1.getD 1 undef) (.int .i64 1)) w fun v15_1 w =>
  again_1 [v22_1, v15_1] w)
  (flotillalaw04_modes_k1 C (vs_1.getD 0 undef) w Q))
  (flotillalaw04_modes_k1 C (vs_1.getD 0 undef) w Q)
theorem flotillalaw04_modes_eq (C : Comb) (a0 : Value) (w : World) (Q : Value → World → Prop) : flotillalaw04_modes_x C a0 w Q = FunY Try.prog C 5 Try.f25 [a0] w Q := by kernel_rfl
theorem flotillalaw04_modes_sound (a0 : Value) {w : World} {Q : Value → World → Prop} (h : flotillalaw04_modes_x (std Try.prog) a0 w Q) : CallsR Try.prog 25 #[a0] w Q :=
  calls_of_funY mixed Try.func25 (Eq.mp (flotillalaw04_modes_eq _ a0 w Q) h)

def mode_Group_k1 (C : Comb) (u3_1 : Value) (w : World) (Q : Value → World → Prop) : Prop :=
  Q u3_1 w
def mode_Group_x (C : Comb) (a0 : Value) (w : World) (Q : Value → World → Prop) : Prop :=
  C.step (sBuiltin .len #[37] 3 [false] [a0]) w fun v7_1 w =>
  C.loop [undef, (.int .i64 0), (.int .i64 0)] w fun dv_1 vs_1 w again_1 =>
  C.step (sBin .lss 3 (.tmp 8) (.tmp 7) (vs_1.getD 2 undef) v7_1) w fun v9_1 w =>
  C.bool v9_1
  (C.step (sIndexAddr 37 a0 (vs_1.getD 2 undef)) w fun v10_1 w =>
  C.step (sLoad 22 v10_1) w fun v11_1 w =>
  C.calls 11 #[(vs_1.getD 1 undef), v11_1] w fun v14_1 w =>
  C.step (sBin .add 3 (.tmp 8) (.const (.int .i64 1)) (vs_1.getD 2 undef) (.int .i64 1)) w fun v15_1 w =>
  again_1 [v11_1, v14_1, v15_1] w)
  (mode_Group_k1 C (vs_1.getD 1 undef) w Q)
theorem mode_Group_eq (C : Comb) (a0 : Value) (w : World) (Q : Value → World → Prop) : mode_Group_x C a0 w Q = FunY Try.prog C 6 Try.f26 [a0] w Q := by kernel_rfl
theorem mode_Group_sound (a0 : Value) {w : World} {Q : Value → World → Prop} (h : mode_Group_x (std Try.prog) a0 w Q) : CallsR Try.prog 26 #[a0] w Q :=
  calls_of_funY mixed Try.func26 (Eq.mp (mode_Group_eq _ a0 w Q) h)

def flotillaref04_Group_k1 (C : Comb) (u3_1 : Value) (w : World) (Q : Value → World → Prop) : Prop :=
  Q u3_1 w
def flotillaref04_Group_x (C : Comb) (a0 : Value) (w : World) (Q : Value → World → Prop) : Prop :=
  C.loop [(.int .i64 0), (.int .i64 0)] w fun dv_1 vs_1 w again_1 =>
  C.step (sBuiltin .len #[37] 3 [false] [a0]) w fun v7_1 w =>
  C.step (sBin .lss 3 (.tmp 5) (.tmp 7) (vs_1.getD 1 undef) v7_1) w fun v8_1 w =>
  C.bool v8_1
  (C.step (sIndexAddr 37 a0 (vs_1.getD 1 undef)) w fun v14_1 w =>
  C.step (sLoad 22 v14_1) w fun v15_1 w =>
  C.calls 16 #[(vs_1.getD 0 undef), v15_1] w fun v16_1 w =>
  C.step (sBin .add 3 (.tmp 9) (.const (.int .i64 1)) (vs_1.getD 1 undef) (.int .i64 1)) w fun v10_1 w =>
  again_1 [v16_1, v10_1] w)
  (flotillaref04_Group_k1 C (vs_1.getD 0 undef) w Q)
theorem flotillaref04_Group_eq (C : Comb) (a0 : Value) (w : World) (Q : Value → World → Prop) : flotillaref04_Group_x C a0 w Q = FunY Try.prog C 5 Try.f27 [a0] w Q := by kernel_rfl
theorem flotillaref04_Group_sound (a0 : Value) {w : World} {Q : Value → World → Prop} (h : flotillaref04_Group_x (std Try.prog) a0 w Q) : CallsR Try.prog 27 #[a0] w Q :=
  calls_of_funY mixed Try.func27 (Eq.mp (flotillaref04_Group_eq _ a0 w Q) h)

def mode_Allowed_k1 (C : Comb) (w : World) (Q : Value → World → Prop) : Prop :=
  Q (.bool true) w
def mode_Allowed_x (C : Comb) (a0 : Value) (a1 : Value) (w : World) (Q : Value → World → Prop) : Prop :=
  C.step (sBuiltin .len #[37] 3 [false] [a0]) w fun v8_1 w =>
  C.loop [undef, (.bool false), (.int .i64 0)] w fun dv_1 vs_1 w again_1 =>
  C.step (sBin .lss 3 (.tmp 9) (.tmp 8) (vs_1.getD 2 undef) v8_1) w fun v10_1 w =>
  C.bool v10_1
  (C.step (sIndexAddr 37 a0 (vs_1.getD 2 undef)) w fun v11_1 w =>
  C.step (sLoad 22 v11_1) w fun v12_1 w =>
  C.calls 10 #[v12_1, a1] w fun v15_1 w =>
  C.step (sUn .not v15_1) w fun v16_1 w =>
  C.bool v16_1
  (Q (.bool false) w)
  (C.step (sBin .add 3 (.tmp 9) (.const (.int .i64 1)) (vs_1.getD 2 undef) (.int .i64 1)) w fun v17_1 w =>
  again_1 [v12_1, (vs_1.getD 1 undef), v17_1] w))
  (mode_Allowed_k1 C w Q)
theorem mode_Allowed_eq (C : Comb) (a0 : Value) (a1 : Value) (w : World) (Q : Value → World → Prop) : mode_Allowed_x C a0 a1 w Q = FunY Try.prog C 7 Try.f28 [a0, a1] w Q := by kernel_rfl
theorem mode_Allowed_sound (a0 : Value) (a1 : Value) {w : World} {Q : Value → World → Prop} (h : mode_Allowed_x (std Try.prog) a0 a1 w Q) : CallsR Try.prog 28 #[a0, a1] w Q :=
  calls_of_funY mixed Try.func28 (Eq.mp (mode_Allowed_eq _ a0 a1 w Q) h)

def flotillaref04_Allowed_k1 (C : Comb) (w : World) (Q : Value → World → Prop) : Prop :=
  Q (.bool true) w
def flotillaref04_Allowed_x (C : Comb) (a0 : Value) (a1 : Value) (w : World) (Q : Value → World → Prop) : Prop :=
  C.loop [(.bool false), (.int .i64 0)] w fun dv_1 vs_1 w again_1 =>
  C.step (sBuiltin .len #[37] 3 [false] [a0]) w fun v8_1 w =>
  C.step (sBin .lss 3 (.tmp 6) (.tmp 8) (vs_1.getD 1 undef) v8_1) w fun v9_1 w =>
  C.bool v9_1
  (C.step (sIndexAddr 37 a0 (vs_1.getD 1 undef)) w fun v14_1 w =>
  C.step (sLoad 22 v14_1) w fun v15_1 w =>
  C.calls 15 #[v15_1, a1] w fun v17_1 w =>
  C.step (sUn .not v17_1) w fun v18_1 w =>
  C.bool v18_1
  (Q (.bool false) w)
  (C.step (sBin .add 3 (.tmp 10) (.const (.int .i64 1)) (vs_1.getD 1 undef) (.int .i64 1)) w fun v11_1 w =>
  again_1 [(vs_1.getD 0 undef), v11_1] w))
  (flotillaref04_Allowed_k1 C w Q)
theorem flotillaref04_Allowed_eq (C : Comb) (a0 : Value) (a1 : Value) (w : World) (Q : Value → World → Prop) : flotillaref04_Allowed_x C a0 a1 w Q = FunY Try.prog C 6 Try.f29 [a0, a1] w Q := by kernel_rfl
theorem flotillaref04_Allowed_sound (a0 : Value) (a1 : Value) {w : World} {Q : Value → World → Prop} (h : flotillaref04_Allowed_x (std Try.prog) a0 a1 w Q) : CallsR Try.prog 29 #[a0, a1] w Q :=
  calls_of_funY mixed Try.func29 (Eq.mp (flotillaref04_Allowed_eq _ a0 a1 w Q) h)

def mode_table_x (C : Comb) (w : World) (Q : Value → World → Prop) : Prop :=
  C.step (sAlloc 45) w fun v0_1 w =>
  C.step (sBuild 44 [(0, (.bool true)), (1, (.bool true)), (2, (.bool true)), (3, (.bool true)), (4, (.bool true)), (5, (.bool true))]) w fun v1_1 w =>
  C.step (sBuild 44 [(0, (.bool true)), (1, (.bool true)), (2, (.bool true)), (3, (.bool true)), (4, (.bool true)), (5, (.bool false))]) w fun v2_1 w =>
  C.step (sBuild 44 [(0, (.bool true)), (1, (.bool true)), (2, (.bool true)), (3, (.bool false)), (4, (.bool false)), (5, (.bool false))]) w fun v3_1 w =>
  C.step (sBuild 44 [(0, (.bool true)), (1, (.bool true)), (2, (.bool false)), (3, (.bool true)), (4, (.bool false)), (5, (.bool false))]) w fun v4_1 w =>
  C.step (sBuild 44 [(0, (.bool true)), (1, (.bool true)), (2, (.bool false)), (3, (.bool false)), (4, (.bool false)), (5, (.bool false))]) w fun v5_1 w =>
  C.step (sBuild 44 [(0, (.bool true)), (1, (.bool false)), (2, (.bool false)), (3, (.bool false)), (4, (.bool false)), (5, (.bool false))]) w fun v6_1 w =>
  C.step (sBuild 45 [(0, v1_1), (1, v2_1), (2, v3_1), (3, v4_1), (4, v5_1), (5, v6_1)]) w fun v7_1 w =>
  C.step (sStore 45 v0_1 v7_1) w fun vx_1 w =>
  C.loadR 45 v0_1 w fun r_1 =>
  Q r_1 w
theorem mode_table_eq (C : Comb) (w : World) (Q : Value → World → Prop) : mode_table_x C w Q = FunY Try.prog C 0 Try.f30 [] w Q := by kernel_rfl
theorem mode_table_sound {w : World} {Q : Value → World → Prop} (h : mode_table_x (std Try.prog) w Q) : CallsR Try.prog 30 #[] w Q :=
  calls_of_funY mixed Try.func30 (Eq.mp (mode_table_eq _ w Q) h)

def mode_sure_x (C : Comb) (a0 : Value) (w : World) (Q : Value → World → Prop) : Prop :=
  C.calls 12 #[a0] w fun v4_1 w =>
  C.step (sUn .not v4_1) w fun v5_1 w =>
  C.bool v5_1
  (Q (.int .i64 5) w)
  (Q a0 w)
theorem mode_sure_eq (C : Comb) (a0 : Value) (w : World) (Q : Value → World → Prop) : mode_sure_x C a0 w Q = FunY Try.prog C 2 Try.f31 [a0] w Q := by kernel_rfl
theorem mode_sure_sound (a0 : Value) {w : World} {Q : Value → World → Prop} (h : mode_sure_x (std Try.prog) a0 w Q) : CallsR Try.prog 31 #[a0] w Q :=
  calls_of_funY mixed Try.func31 (Eq.mp (mode_sure_eq _ a0 w Q) h)

end Go.Proofs.Ytcglfpfbgefmcaa
