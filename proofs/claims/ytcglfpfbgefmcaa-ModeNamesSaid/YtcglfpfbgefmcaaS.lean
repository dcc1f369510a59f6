/- What the functions of the layer mode compute. -/
import Derived.Test.YtcglfpfbgefmcaaD
import Derived.Test.YtcglfpfbgefmcaaF
namespace Go.Proofs.Ytcglfpfbgefmcaa
open Go Xf Go.RowKit
set_option linter.unusedVariables false
set_option linter.unusedSimpArgs false
set_option maxRecDepth 100000

theorem w64 {a : Int} (h0 : -9223372036854775808 ≤ a) (h1 : a < 9223372036854775808) : IntKind.wrap .i64 a = a := by
  rw [IntKind.wrap_i64]; omega

def sureN (a : Int) : Nat := if 0 ≤ a ∧ a ≤ 5 then a.toNat else 5
theorem sureN_lt (a : Int) : sureN a < 6 := by unfold sureN; split <;> omega
def bes (x y : Nat) : Bool :=
  if x = 0 ∨ y = 0 then true
  else if x = 1 then decide (y ≠ 5)
  else if x = 2 then decide (y = 1 ∨ y = 2)
  else if x = 3 then decide (y = 1 ∨ y = 3)
  else if x = 4 then decide (y = 1)
  else false
def joi (x y : Nat) : Nat := if (x = 3 ∧ y = 2) ∨ (x = 2 ∧ y = 3) then 4 else max x y
def inte (x : Nat) : Nat := if x = 0 then 0 else if x = 1 ∨ x = 3 then 1 else 2
theorem joi_lt {x y : Nat} (hx : x < 6) (hy : y < 6) : joi x y < 6 := by unfold joi; split <;> omega
theorem inte_lt (x : Nat) : inte x < 6 := by unfold inte; split; omega; split <;> omega

theorem six {p : Nat → Prop} (h0 : p 0) (h1 : p 1) (h2 : p 2) (h3 : p 3) (h4 : p 4) (h5 : p 5) {i : Nat} (hi : i < 6) : p i := by
  match i, hi with
  | 0, _ => exact h0
  | 1, _ => exact h1
  | 2, _ => exact h2
  | 3, _ => exact h3
  | 4, _ => exact h4
  | 5, _ => exact h5
theorem all1 {p : Nat → Bool} (h : (List.range 6).all p = true) {i : Nat} (hi : i < 6) : p i = true := List.all_eq_true.1 h i (List.mem_range.2 hi)
theorem all2 {p : Nat → Nat → Bool} (h : (List.range 6).all (fun i => (List.range 6).all (p i)) = true) {i j : Nat} (hi : i < 6) (hj : j < 6) : p i j = true := all1 (all1 h hi) hj
theorem all3 {p : Nat → Nat → Nat → Bool} (h : (List.range 6).all (fun i => (List.range 6).all (fun j => (List.range 6).all (p i j))) = true) {i j k : Nat} (hi : i < 6) (hj : j < 6) (hk : k < 6) : p i j k = true := all1 (all2 h hi hj) hk

def rowV (i : Nat) : List Value := (List.range 6).map fun k => .bool (bes i k)
def tabV : List Value := (List.range 36).map fun k => .bool (bes (k / 6) (k % 6))
theorem idx_tab {i : Nat} (hi : i < 6) (w : World) : (sIndex 45 (.agg tabV.toArray) (.int .i64 i)).run Try.prog w = .ok (.value (.agg (rowV i).toArray)) w := by
  revert i; intro i hi; refine six (p := fun i => (sIndex 45 (.agg tabV.toArray) (.int .i64 (i : Nat))).run Try.prog w = .ok (.value (.agg (rowV i).toArray)) w) ?_ ?_ ?_ ?_ ?_ ?_ hi <;> kernel_rfl
theorem idx_row {i j : Nat} (hi : i < 6) (hj : j < 6) (w : World) : (sIndex 44 (.agg (rowV i).toArray) (.int .i64 j)).run Try.prog w = .ok (.value (.bool (bes i j))) w := by
  refine six (p := fun i => (sIndex 44 (.agg (rowV i).toArray) (.int .i64 (j : Nat))).run Try.prog w = .ok (.value (.bool (bes i j))) w) ?_ ?_ ?_ ?_ ?_ ?_ hi <;>
  · revert hj; revert j; intro j hj
    refine six (p := fun j => (sIndex 44 (.agg (rowV _).toArray) (.int .i64 (j : Nat))).run Try.prog w = .ok (.value (.bool (bes _ j))) w) ?_ ?_ ?_ ?_ ?_ ?_ hj <;> kernel_rfl
theorem eq_row {i j : Nat} (hi : i < 6) (hj : j < 6) (x y : Operand) (w : World) : (sBin .eql 44 x y (.agg (rowV i).toArray) (.agg (rowV j).toArray)).run Try.prog w = .ok (.value (.bool (i == j))) w := by
  refine six (p := fun i => (sBin .eql 44 x y (.agg (rowV i).toArray) (.agg (rowV j).toArray)).run Try.prog w = .ok (.value (.bool (i == j))) w) ?_ ?_ ?_ ?_ ?_ ?_ hi <;>
  · revert hj; revert j; intro j hj
    refine six (p := fun j => (sBin .eql 44 x y (.agg (rowV _).toArray) (.agg (rowV j).toArray)).run Try.prog w = .ok (.value (.bool (_ == j))) w) ?_ ?_ ?_ ?_ ?_ ?_ hj <;> kernel_rfl
theorem row_one (i : Nat) : ∀ u ∈ rowV i, u.oneCell' = true := by
  intro u hu; obtain ⟨k, _, rfl⟩ := List.mem_map.1 hu; rfl
theorem tab_one : ∀ u ∈ tabV, u.oneCell' = true := by
  intro u hu; obtain ⟨k, _, rfl⟩ := List.mem_map.1 hu; rfl

theorem b0 (w : World) : (sBuild 44 [(0, (.bool true)), (1, (.bool true)), (2, (.bool true)), (3, (.bool true)), (4, (.bool true)), (5, (.bool true))]).run Try.prog w = .ok (.value (.agg (rowV 0).toArray)) w := by kernel_rfl
theorem b1 (w : World) : (sBuild 44 [(0, (.bool true)), (1, (.bool true)), (2, (.bool true)), (3, (.bool true)), (4, (.bool true)), (5, (.bool false))]).run Try.prog w = .ok (.value (.agg (rowV 1).toArray)) w := by kernel_rfl
theorem b2 (w : World) : (sBuild 44 [(0, (.bool true)), (1, (.bool true)), (2, (.bool true)), (3, (.bool false)), (4, (.bool false)), (5, (.bool false))]).run Try.prog w = .ok (.value (.agg (rowV 2).toArray)) w := by kernel_rfl
theorem b3 (w : World) : (sBuild 44 [(0, (.bool true)), (1, (.bool true)), (2, (.bool false)), (3, (.bool true)), (4, (.bool false)), (5, (.bool false))]).run Try.prog w = .ok (.value (.agg (rowV 3).toArray)) w := by kernel_rfl
theorem b4 (w : World) : (sBuild 44 [(0, (.bool true)), (1, (.bool true)), (2, (.bool false)), (3, (.bool false)), (4, (.bool false)), (5, (.bool false))]).run Try.prog w = .ok (.value (.agg (rowV 4).toArray)) w := by kernel_rfl
theorem b5 (w : World) : (sBuild 44 [(0, (.bool true)), (1, (.bool false)), (2, (.bool false)), (3, (.bool false)), (4, (.bool false)), (5, (.bool false))]).run Try.prog w = .ok (.value (.agg (rowV 5).toArray)) w := by kernel_rfl
theorem bT (w : World) : (sBuild 45 [(0, .agg (rowV 0).toArray), (1, .agg (rowV 1).toArray), (2, .agg (rowV 2).toArray), (3, .agg (rowV 3).toArray), (4, .agg (rowV 4).toArray), (5, .agg (rowV 5).toArray)]).run Try.prog w = .ok (.value (.agg tabV.toArray)) w := by kernel_rfl

theorem stored_tab {w : World} {g : Nat} {h : List (Nat × Obj)} {z : Value} (hz : z = .agg ((List.range 36).map fun _ => Value.bool false).toArray)
    (hO : Owns w ((g, .cells (z.cells.toList.take 0 ++ tabV ++ z.cells.toList.drop (0 + tabV.length)).toArray 45 (0, 0)) :: h)) : Owns w ((g, .cells tabV.toArray 45 (0, 0)) :: h) := by
  subst hz
  have e : (((Value.agg ((List.range 36).map fun _ => Value.bool false).toArray).cells.toList.take 0 ++ tabV ++ (Value.agg ((List.range 36).map fun _ => Value.bool false).toArray).cells.toList.drop (0 + tabV.length)).toArray) = tabV.toArray := by kernel_rfl
  rwa [e] at hO

theorem table_spec (w : World) : CallsR Try.prog 30 #[] w fun r w' => r = .agg tabV.toArray ∧ Upd w w' [] := by
  apply mode_table_sound
  unfold mode_table_x
  refine st_alloc ze45 (Upd.refl w []) (Owns.nil w) ?_
  intro g w1 hU1 hO1 hg
  rw [step_run (b0 _), step_run (b1 _), step_run (b2 _), step_run (b3 _), step_run (b4 _), step_run (b5 _), step_run (bT _)]
  refine st_storeN (vs := tabV) (by rw [sz45]; rfl) hU1 hO1 0 rfl (by simp [tabV, Value.cells]) tab_one (.inr hg) ?_
  intro w2 hU2 hO2
  have hO2 := stored_tab (by kernel_rfl) hO2
  refine st_loadR (u := .agg tabV.toArray) ?_ ⟨rfl, hU2⟩
  exact run_loadVarN ag45 (by rw [sz45]; rfl) (cells_read (hO2.at_ 0 rfl))

theorem Known_spec (w : World) (a : Int) : CallsR Try.prog 12 #[.int .i64 a] w fun r w' => r = .bool (decide (0 ≤ a ∧ a ≤ 5)) ∧ w' = w := by
  apply mode_Known_sound
  unfold mode_Known_x
  simp (disch := omega) only [PX, BX]
  refine ⟨fun h => ⟨?_, trivial⟩, fun h => ⟨?_, trivial⟩⟩
  · congr 1; apply decide_eq_decide.2; omega
  · congr 1; symm; apply decide_eq_false; omega

theorem sure_spec (w : World) (a : Int) : CallsR Try.prog 31 #[.int .i64 a] w fun r w' => r = .int .i64 (sureN a : Nat) ∧ w' = w := by
  apply mode_sure_sound
  unfold mode_sure_x
  refine st_call (Known_spec w a) ?_
  rintro _ w1 ⟨rfl, rfl⟩
  simp (disch := omega) only [PX, BX]
  unfold sureN
  by_cases h : 0 ≤ a ∧ a ≤ 5
  · rw [if_pos h]
    simp [h, show ((a.toNat : Nat) : Int) = a by omega]
  · rw [if_neg h]
    simp [h]

theorem rSure_spec (w : World) (a : Int) : CallsR Try.prog 24 #[.int .i64 a] w fun r w' => r = .int .i64 (sureN a : Nat) ∧ w' = w := by
  apply flotillaref04_Sure_sound
  unfold flotillaref04_Sure_x
  simp (disch := omega) only [PX, BX]
  unfold sureN
  refine ⟨fun h => ?_, fun h => ⟨fun h2 => ?_, fun h2 => ?_⟩⟩
  · rw [if_neg (by omega)]; exact ⟨rfl, trivial⟩
  · rw [if_neg (by omega)]; exact ⟨rfl, trivial⟩
  · rw [if_pos (by omega), show ((a.toNat : Nat) : Int) = a by omega]; exact ⟨rfl, trivial⟩

theorem Beside_spec (w : World) (a b : Int) : CallsR Try.prog 10 #[.int .i64 a, .int .i64 b] w fun r w' => r = .bool (bes (sureN a) (sureN b)) ∧ Upd w w' [] := by
  apply mode_Beside_sound
  unfold mode_Beside_x
  have hne : ∃ w', (fun w' => Upd w w' []) w' := ⟨w, Upd.refl w []⟩
  refine st_draw (fun w' => Upd w w' []) (Upd.drew w []) ?_
  refine st_call (table_spec _) ?_
  rintro _ w1 ⟨rfl, hU1⟩
  have hU1 := (Upd.drew w []).trans hU1
  refine st_same hU1 ?_
  refine st_call (sure_spec _ a) ?_
  rintro _ w2 ⟨rfl, rfl⟩
  refine st_same hU1 ?_
  rw [stepS_run hne fun w' hw => idx_tab (sureN_lt a) w']
  refine st_call (sure_spec _ b) ?_
  rintro _ w3 ⟨rfl, rfl⟩
  refine st_same hU1 ?_
  rw [stepS_run hne fun w' hw => idx_row (sureN_lt a) (sureN_lt b) w']
  exact ⟨rfl, hU1⟩

end Go.Proofs.Ytcglfpfbgefmcaa
