/- Modes, ported from their own seat. -/
import Derived.Test.YtakifgecgmdjcaaD
import Derived.Test.YtakifgecgmdjcaaF
namespace Go.Proofs.Ytakifgecgmdjcaa
open Go Xf Go.RowKit
set_option linter.unusedVariables false
set_option linter.unusedSimpArgs false
set_option maxRecDepth 100000

theorem w64 {a : Int} (h0 : -9223372036854775808 ≤ a) (h1 : a < 9223372036854775808) : IntKind.wrap .i64 a = a := by
  rw [IntKind.wrap_i64]; omega

def sureN (a : Int) : Nat := if 0 ≤ a ∧ a ≤ 5 then a.toNat else 5
theorem sureN_lt (a : Int) : sureN a < 6 := by unfold sureN; split <;> omega
def bes (x y : Nat) : Bool :=
  if x = 0 ∨ y = 0 then true
  else if x = 1 then decide (y ≠ 5)
  else if x = 2 then decide (y = 1 ∨ y = 2)
  else if x = 3 then decide (y = 1 ∨ y = 3)
  else if x = 4 then decide (y = 1)
  else false
def joi (x y : Nat) : Nat := if (x = 3 ∧ y = 2) ∨ (x = 2 ∧ y = 3) then 4 else max x y
def inte (x : Nat) : Nat := if x = 0 then 0 else if x = 1 ∨ x = 3 then 1 else 2
theorem joi_lt {x y : Nat} (hx : x < 6) (hy : y < 6) : joi x y < 6 := by unfold joi; split <;> omega
theorem inte_lt (x : Nat) : inte x < 6 := by unfold inte; split; omega; split <;> omega

theorem six {p : Nat → Prop} (h0 : p 0) (h1 : p 1) (h2 : p 2) (h3 : p 3) (h4 : p 4) (h5 : p 5) {i : Nat} (hi : i < 6) : p i := by
  match i, hi with
  | 0, _ => exact h0
  | 1, _ => exact h1
  | 2, _ => exact h2
  | 3, _ => exact h3
  | 4, _ => exact h4
  | 5, _ => exact h5
theorem all1 {p : Nat → Bool} (h : (List.range 6).all p = true) {i : Nat} (hi : i < 6) : p i = true := List.all_eq_true.1 h i (List.mem_range.2 hi)
theorem all2 {p : Nat → Nat → Bool} (h : (List.range 6).all (fun i => (List.range 6).all (p i)) = true) {i j : Nat} (hi : i < 6) (hj : j < 6) : p i j = true := all1 (all1 h hi) hj
theorem all3 {p : Nat → Nat → Nat → Bool} (h : (List.range 6).all (fun i => (List.range 6).all (fun j => (List.range 6).all (p i j))) = true) {i j k : Nat} (hi : i < 6) (hj : j < 6) (hk : k < 6) : p i j k = true := all1 (all2 h hi hj) hk

def rowV (i : Nat) : List Value := (List.range 6).map fun k => .bool (bes i k)
def tabV : List Value := (List.range 36).map fun k => .bool (bes (k / 6) (k % 6))
theorem idx_tab {i : Nat} (hi : i < 6) (w : World) : (sIndex 102 (.agg tabV.toArray) (.int .i64 i)).run Try.prog w = .ok (.value (.agg (rowV i).toArray)) w := by
  revert i; intro i hi; refine six (p := fun i => (sIndex 102 (.agg tabV.toArray) (.int .i64 (i : Nat))).run Try.prog w = .ok (.value (.agg (rowV i).toArray)) w) ?_ ?_ ?_ ?_ ?_ ?_ hi <;> kernel_rfl
theorem idx_row {i j : Nat} (hi : i < 6) (hj : j < 6) (w : World) : (sIndex 101 (.agg (rowV i).toArray) (.int .i64 j)).run Try.prog w = .ok (.value (.bool (bes i j))) w := by
  refine six (p := fun i => (sIndex 101 (.agg (rowV i).toArray) (.int .i64 (j : Nat))).run Try.prog w = .ok (.value (.bool (bes i j))) w) ?_ ?_ ?_ ?_ ?_ ?_ hi <;>
  · revert hj; revert j; intro j hj
    refine six (p := fun j => (sIndex 101 (.agg (rowV _).toArray) (.int .i64 (j : Nat))).run Try.prog w = .ok (.value (.bool (bes _ j))) w) ?_ ?_ ?_ ?_ ?_ ?_ hj <;> kernel_rfl
theorem eq_row {i j : Nat} (hi : i < 6) (hj : j < 6) (x y : Operand) (w : World) : (sBin .eql 101 x y (.agg (rowV i).toArray) (.agg (rowV j).toArray)).run Try.prog w = .ok (.value (.bool (i == j))) w := by
  refine six (p := fun i => (sBin .eql 101 x y (.agg (rowV i).toArray) (.agg (rowV j).toArray)).run Try.prog w = .ok (.value (.bool (i == j))) w) ?_ ?_ ?_ ?_ ?_ ?_ hi <;>
  · revert hj; revert j; intro j hj
    refine six (p := fun j => (sBin .eql 101 x y (.agg (rowV _).toArray) (.agg (rowV j).toArray)).run Try.prog w = .ok (.value (.bool (_ == j))) w) ?_ ?_ ?_ ?_ ?_ ?_ hj <;> kernel_rfl
theorem row_one (i : Nat) : ∀ u ∈ rowV i, u.oneCell' = true := by
  intro u hu; obtain ⟨k, _, rfl⟩ := List.mem_map.1 hu; rfl
theorem tab_one : ∀ u ∈ tabV, u.oneCell' = true := by
  intro u hu; obtain ⟨k, _, rfl⟩ := List.mem_map.1 hu; rfl

theorem b0 (w : World) : (sBuild 101 [(0, (.bool true)), (1, (.bool true)), (2, (.bool true)), (3, (.bool true)), (4, (.bool true)), (5, (.bool true))]).run Try.prog w = .ok (.value (.agg (rowV 0).toArray)) w := by kernel_rfl
theorem b1 (w : World) : (sBuild 101 [(0, (.bool true)), (1, (.bool true)), (2, (.bool true)), (3, (.bool true)), (4, (.bool true)), (5, (.bool false))]).run Try.prog w = .ok (.value (.agg (rowV 1).toArray)) w := by kernel_rfl
theorem b2 (w : World) : (sBuild 101 [(0, (.bool true)), (1, (.bool true)), (2, (.bool true)), (3, (.bool false)), (4, (.bool false)), (5, (.bool false))]).run Try.prog w = .ok (.value (.agg (rowV 2).toArray)) w := by kernel_rfl
theorem b3 (w : World) : (sBuild 101 [(0, (.bool true)), (1, (.bool true)), (2, (.bool false)), (3, (.bool true)), (4, (.bool false)), (5, (.bool false))]).run Try.prog w = .ok (.value (.agg (rowV 3).toArray)) w := by kernel_rfl
theorem b4 (w : World) : (sBuild 101 [(0, (.bool true)), (1, (.bool true)), (2, (.bool false)), (3, (.bool false)), (4, (.bool false)), (5, (.bool false))]).run Try.prog w = .ok (.value (.agg (rowV 4).toArray)) w := by kernel_rfl
theorem b5 (w : World) : (sBuild 101 [(0, (.bool true)), (1, (.bool false)), (2, (.bool false)), (3, (.bool false)), (4, (.bool false)), (5, (.bool false))]).run Try.prog w = .ok (.value (.agg (rowV 5).toArray)) w := by kernel_rfl
theorem bT (w : World) : (sBuild 102 [(0, .agg (rowV 0).toArray), (1, .agg (rowV 1).toArray), (2, .agg (rowV 2).toArray), (3, .agg (rowV 3).toArray), (4, .agg (rowV 4).toArray), (5, .agg (rowV 5).toArray)]).run Try.prog w = .ok (.value (.agg tabV.toArray)) w := by kernel_rfl

theorem stored_tab {w : World} {g : Nat} {h : List (Nat × Obj)} {z : Value} (hz : z = .agg ((List.range 36).map fun _ => Value.bool false).toArray)
    (hO : Owns w ((g, .cells (z.cells.toList.take 0 ++ tabV ++ z.cells.toList.drop (0 + tabV.length)).toArray 102 (0, 0)) :: h)) : Owns w ((g, .cells tabV.toArray 102 (0, 0)) :: h) := by
  subst hz
  have e : (((Value.agg ((List.range 36).map fun _ => Value.bool false).toArray).cells.toList.take 0 ++ tabV ++ (Value.agg ((List.range 36).map fun _ => Value.bool false).toArray).cells.toList.drop (0 + tabV.length)).toArray) = tabV.toArray := by kernel_rfl
  rwa [e] at hO

theorem table_spec (w : World) : CallsR Try.prog 53 #[] w fun r w' => r = .agg tabV.toArray ∧ Upd w w' [] := by
  apply mode_table_sound
  unfold mode_table_x
  refine st_alloc ze102 (Upd.refl w []) (Owns.nil w) ?_
  intro g w1 hU1 hO1 hg
  rw [step_run (b0 _), step_run (b1 _), step_run (b2 _), step_run (b3 _), step_run (b4 _), step_run (b5 _), step_run (bT _)]
  refine st_storeN (vs := tabV) (by rw [sz102]; rfl) hU1 hO1 0 rfl (by simp [tabV, Value.cells]) tab_one (.inr hg) ?_
  intro w2 hU2 hO2
  have hO2 := stored_tab (by kernel_rfl) hO2
  refine st_loadR (u := .agg tabV.toArray) ?_ ⟨rfl, hU2⟩
  exact run_loadVarN ag102 (by rw [sz102]; rfl) (cells_read (hO2.at_ 0 rfl))

theorem Known_spec (w : World) (a : Int) : CallsR Try.prog 23 #[.int .i64 a] w fun r w' => r = .bool (decide (0 ≤ a ∧ a ≤ 5)) ∧ w' = w := by
  apply mode_Known_sound
  unfold mode_Known_x
  simp (disch := omega) only [PX, BX]
  refine ⟨fun h => ⟨?_, trivial⟩, fun h => ⟨?_, trivial⟩⟩
  · congr 1; apply decide_eq_decide.2; omega
  · congr 1; symm; apply decide_eq_false; omega

theorem sure_spec (w : World) (a : Int) : CallsR Try.prog 41 #[.int .i64 a] w fun r w' => r = .int .i64 (sureN a : Nat) ∧ w' = w := by
  apply mode_sure_sound
  unfold mode_sure_x
  refine st_call (Known_spec w a) ?_
  rintro _ w1 ⟨rfl, rfl⟩
  simp (disch := omega) only [PX, BX]
  unfold sureN
  by_cases h : 0 ≤ a ∧ a ≤ 5
  · rw [if_pos h]
    simp [h, show ((a.toNat : Nat) : Int) = a by omega]
  · rw [if_neg h]
    simp [h]

theorem rSure_spec (w : World) (a : Int) : CallsR Try.prog 28 #[.int .i64 a] w fun r w' => r = .int .i64 (sureN a : Nat) ∧ w' = w := by
  apply flotillaref04_Sure_sound
  unfold flotillaref04_Sure_x
  simp (disch := omega) only [PX, BX]
  unfold sureN
  refine ⟨fun h => ?_, fun h => ⟨fun h2 => ?_, fun h2 => ?_⟩⟩
  · rw [if_neg (by omega)]; exact ⟨rfl, trivial⟩
  · rw [if_neg (by omega)]; exact ⟨rfl, trivial⟩
  · rw [if_pos (by omega), show ((a.toNat : Nat) : Int) = a by omega]; exact ⟨rfl, trivial⟩

theorem Beside_spec (w : World) (a b : Int) : CallsR Try.prog 42 #[.int .i64 a, .int .i64 b] w fun r w' => r = .bool (bes (sureN a) (sureN b)) ∧ Upd w w' [] := by
  apply mode_Beside_sound
  unfold mode_Beside_x
  have hne : ∃ w', (fun w' => Upd w w' []) w' := ⟨w, Upd.refl w []⟩
  refine st_draw (fun w' => Upd w w' []) (Upd.drew w []) ?_
  refine st_call (table_spec _) ?_
  rintro _ w1 ⟨rfl, hU1⟩
  have hU1 := (Upd.drew w []).trans hU1
  refine st_same hU1 ?_
  refine st_call (sure_spec _ a) ?_
  rintro _ w2 ⟨rfl, rfl⟩
  refine st_same hU1 ?_
  rw [stepS_run hne fun w' hw => idx_tab (sureN_lt a) w']
  refine st_call (sure_spec _ b) ?_
  rintro _ w3 ⟨rfl, rfl⟩
  refine st_same hU1 ?_
  rw [stepS_run hne fun w' hw => idx_row (sureN_lt a) (sureN_lt b) w']
  exact ⟨rfl, hU1⟩


def bothK (x y k : Nat) : List Value := (List.range 6).map fun i => .bool (if i < k then bes x i && bes y i else false)
theorem bothK_len (x y k : Nat) : (bothK x y k).length = 6 := by simp [bothK]
theorem bothK_set (x y k : Nat) (hk : k < 6) : (bothK x y k).set k (.bool (bes x k && bes y k)) = bothK x y (k + 1) := by
  apply List.ext_getElem?
  intro j
  by_cases hj : k = j
  · subst hj
    rw [List.getElem?_set_self (by rw [bothK_len]; exact hk)]
    simp [bothK, hk]
  · rw [List.getElem?_set_ne hj]
    by_cases hj6 : j < 6
    · simp only [bothK, List.getElem?_map, List.getElem?_range hj6, Option.map_some]
      by_cases h : j < k
      · rw [if_pos h, if_pos (by omega)]
      · rw [if_neg h, if_neg (by omega)]
    · rw [List.getElem?_eq_none (by rw [bothK_len]; omega), List.getElem?_eq_none (by rw [bothK_len]; omega)]
theorem bothK_6 {x y : Nat} (hx : x < 6) (hy : y < 6) : bothK x y 6 = rowV (joi x y) := by
  unfold bothK rowV
  apply List.map_congr_left
  intro i hi
  have hi6 := List.mem_range.1 hi
  rw [if_pos hi6]
  have := all3 (p := fun x y i => (bes x i && bes y i) == bes (joi x y) i) (by decide +kernel) hx hy hi6
  congr 1
  exact eq_of_beq this

theorem tab_at {i j : Nat} (hi : i < 6) (hj : j < 6) : tabV.toArray[0 + ((i : Nat) : Int).toNat * 6 + ((j : Nat) : Int).toNat * 1]? = some (.bool (bes i j)) := by
  have h : i * 6 + j < 36 := by omega
  rw [show 0 + ((i : Nat) : Int).toNat * 6 + ((j : Nat) : Int).toNat * 1 = i * 6 + j by omega]
  simp [tabV, h, show (i * 6 + j) / 6 = i by omega, show (i * 6 + j) % 6 = j by omega]

theorem Join_spec (w : World) (a b : Int) : CallsR Try.prog 40 #[.int .i64 a, .int .i64 b] w fun r w' => r = .int .i64 (joi (sureN a) (sureN b) : Nat) ∧ Upd w w' [] := by
  have hx := sureN_lt a
  have hy := sureN_lt b
  have hj := joi_lt hx hy
  apply mode_Join_sound
  unfold mode_Join_x
  refine st_call (table_spec w) ?_
  rintro _ w0 ⟨rfl, hU0⟩
  refine st_alloc ze102 hU0 (Owns.nil w0) ?_
  intro g w1 hU1 hO1 hg
  refine st_storeN (vs := tabV) (by rw [sz102]; rfl) hU1 hO1 0 rfl (by simp [tabV, Value.cells]) tab_one (.inr hg) ?_
  intro w2 hU2 hO2
  have hO2 := stored_tab (by kernel_rfl) hO2
  refine st_alloc ze101 hU2 hO2 ?_
  intro g6 w3 hU3 hO3 hg6
  have hO3' : Owns w3 [(g6, .cells (bothK (sureN a) (sureN b) 0).toArray 101 (0, 0)), (g, .cells tabV.toArray 102 (0, 0))] := hO3
  refine st_loop (fun vs w' => ∃ i : Nat, i ≤ 6 ∧ vs.getD 1 undef = .int .i64 i ∧ Upd w w' [] ∧ Owns w' [(g6, .cells (bothK (sureN a) (sureN b) i).toArray 101 (0, 0)), (g, .cells tabV.toArray 102 (0, 0))])
    (fun vs _ => 6 - (intOf (vs.getD 1 undef)).toNat) ⟨0, by omega, rfl, hU3, hO3'⟩ ?_
  clear hO1 hO2 hO3 hO3' hU0 hU1 hU2 hU3
  rintro dv vs w4 - ⟨i, hi, e1, hU4, hO4⟩
  simp (disch := omega) only [e1, PX, BX]
  refine ⟨fun hlt => ?_, fun hge => ?_⟩
  · have hi' : i < 6 := by omega
    refine st_call (sure_spec _ a) ?_
    rintro _ w5 ⟨rfl, rfl⟩
    rw [step_run (run_idxA u102 sz101 (by omega) (by omega)), add_mk, step_run (run_idxA u101 sz4 (by omega) (by omega)), add_mk]
    refine st_loadB ag4 hO4 1 rfl (tab_at hx hi') ?_
    have goOn : ∀ w5, Upd w w5 [] → Owns w5 [(g6, .cells ((bothK (sureN a) (sureN b) i).toArray.setIfInBounds (0 + ((i : Nat) : Int).toNat * 1) (.bool (bes (sureN a) i && bes (sureN b) i))) 101 (0, 0)), (g, .cells tabV.toArray 102 (0, 0))] →
      mode_Join_k3 (std Try.prog) vs (fun vs' w' => (∃ i : Nat, i ≤ 6 ∧ vs'.getD 1 undef = .int .i64 i ∧ Upd w w' [] ∧ Owns w' [(g6, .cells (bothK (sureN a) (sureN b) i).toArray 101 (0, 0)), (g, .cells tabV.toArray 102 (0, 0))]) ∧ 6 - (intOf (vs'.getD 1 undef)).toNat < 6 - (intOf (Value.int IntKind.i64 (i : Int))).toNat)
        (.int .i64 i) w5 fun r w' => r = .int .i64 (joi (sureN a) (sureN b) : Nat) ∧ Upd w w' [] := by
      intro w5 hU5 hO5
      unfold mode_Join_k3
      simp (disch := omega) only [e1, PX, w64]
      refine ⟨⟨i + 1, by omega, rfl, hU5, ?_⟩, ?_⟩
      · rw [show 0 + ((i : Nat) : Int).toNat * 1 = i by omega] at hO5
        rw [← bothK_set _ _ i hi']
        simpa using hO5
      · simp only [List.getD_cons_succ, List.getD_cons_zero, intOf]; omega
    rw [bool_var]
    refine ⟨fun hb => ?_, fun hb => ?_⟩
    · refine st_call (sure_spec _ b) ?_
      rintro _ w5 ⟨rfl, rfl⟩
      rw [step_run (run_idxA u102 sz101 (by omega) (by omega)), add_mk, step_run (run_idxA u101 sz4 (by omega) (by omega)), add_mk]
      refine st_loadB ag4 hO4 1 rfl (tab_at hy hi') ?_
      rw [step_run (run_idxA u101 sz4 (by omega) (by omega)), add_mk]
      refine st_storeB sz4 rfl hU4 hO4 0 rfl (by simp [bothK_len]; omega) (.inr (Nat.zero_le _)) (.inr hg6) ?_
      intro w6 hU6 hO6
      refine goOn w6 hU6 ?_
      rw [hb, Bool.true_and]
      exact hO6
    · rw [step_run (run_idxA u101 sz4 (by omega) (by omega)), add_mk]
      refine st_storeB sz4 rfl hU4 hO4 0 rfl (by simp [bothK_len]; omega) (.inr (Nat.zero_le _)) (.inr hg6) ?_
      intro w6 hU6 hO6
      refine goOn w6 hU6 ?_
      rw [hb, Bool.false_and]
      exact hO6
  · obtain rfl : i = 6 := by omega
    rw [bothK_6 hx hy] at hO4
    unfold mode_Join_k1
    refine st_loop (fun vs w' => ∃ m : Nat, m ≤ joi (sureN a) (sureN b) ∧ vs.getD 2 undef = .int .i64 m ∧ Upd w w' [] ∧ Owns w' [(g6, .cells (rowV (joi (sureN a) (sureN b))).toArray 101 (0, 0)), (g, .cells tabV.toArray 102 (0, 0))])
      (fun vs _ => 6 - (intOf (vs.getD 2 undef)).toNat) ⟨0, by omega, rfl, hU4, hO4⟩ ?_
    rintro dv vs w5 - ⟨m, hm, e2, hU5, hO5⟩
    have hm6 : m < 6 := by omega
    simp (disch := omega) only [e2, PX, BX]
    refine ⟨fun _ => ?_, fun h => absurd (by omega) h⟩
    have hne : ∃ w', (fun w' => Upd w5 w' []) w' := ⟨w5, Upd.refl w5 []⟩
    refine st_draw (fun w' => Upd w5 w' []) (Upd.drew w5 []) ?_
    rw [stepS_run hne fun w' hw => run_idxA u102 sz101 (by omega) (by omega), add_mk]
    have hrow : ∀ w', Upd w5 w' [] → (sLoad 101 (.pointer (some ⟨g, 0 + ((m : Nat) : Int).toNat * 6, none⟩))).run Try.prog w' = .ok (.value (.agg (rowV m).toArray)) w' := fun w' hw =>
      run_sLoad (run_loadVarN ag101 (by rw [sz101]; simp [rowV]) fun j v hj => by
        have hj6 : j < 6 := by have := (List.getElem?_eq_some_iff.1 hj).1; simpa [rowV] using this
        rw [add_mk, cell_at ((hO5.ext hw).at_ 1 rfl)]
        have := tab_at hm6 hj6
        rw [show 0 + ((m : Nat) : Int).toNat * 6 + ((j : Nat) : Int).toNat * 1 = 0 + ((m : Nat) : Int).toNat * 6 + j by omega] at this
        rw [this]
        simp [rowV, hj6] at hj
        rw [hj])
    have hboth : ∀ w', Upd w5 w' [] → (sLoad 101 (.pointer (some ⟨g6, 0, none⟩))).run Try.prog w' = .ok (.value (.agg (rowV (joi (sureN a) (sureN b))).toArray)) w' := fun w' hw =>
      run_sLoad (run_loadVarN ag101 (by rw [sz101]; simp [rowV]) (cells_read ((hO5.ext hw).at_ 0 rfl)))
    rw [stepS_run hne hrow, stepS_run hne hboth, stepS_run hne fun w' hw => eq_row hm6 hj _ _ w', bool_var]
    refine ⟨fun he => ?_, fun he => ?_⟩
    · rw [eq_of_beq he]
      exact ⟨rfl, hU5.trans (Upd.drew w5 [])⟩
    · simp (disch := omega) only [PX, w64]
      have hne2 : m ≠ joi (sureN a) (sureN b) := by
        intro h; rw [h, beq_self_eq_true] at he; cases he
      refine ⟨⟨m + 1, by omega, rfl, hU5.trans (Upd.drew w5 []), hO5.ext (Upd.drew w5 [])⟩, ?_⟩
      simp only [List.getD_cons_succ, List.getD_cons_zero, intOf]; omega

def cov (x y : Nat) : Bool := joi x y == x

theorem Covers_spec (w : World) (a b : Int) : CallsR Try.prog 24 #[.int .i64 a, .int .i64 b] w fun r w' => r = .bool (cov (sureN a) (sureN b)) ∧ Upd w w' [] := by
  apply mode_Covers_sound
  unfold mode_Covers_x
  refine st_call (Join_spec w a b) ?_
  rintro _ w1 ⟨rfl, hU1⟩
  refine st_call (sure_spec w1 a) ?_
  rintro _ w2 ⟨rfl, rfl⟩
  simp (disch := omega) only [PX]
  refine ⟨?_, hU1⟩
  congr 1
  unfold cov
  rw [show (joi (sureN a) (sureN b) == sureN a) = decide (joi (sureN a) (sureN b) = sureN a) from rfl]
  apply decide_eq_decide.2
  omega


theorem bes_comm {x y : Nat} (hx : x < 6) (hy : y < 6) : bes x y = bes y x := eq_of_beq (all2 (p := fun x y => bes x y == bes y x) (by decide +kernel) hx hy)
theorem rBeside_tail (w : World) {x y : Nat} (hx : x < 6) (hy : y < 6) (hxy : x ≤ y) {K : Value → World → Prop} (hk : K (.bool (bes x y)) w) : flotillaref04_Beside_k1 (std Try.prog) (.int .i64 x) (.int .i64 y) w K := by
  unfold flotillaref04_Beside_k1
  simp (disch := omega) only [PX, BX]
  unfold bes at hk
  have bd : ∀ {p q : Prop} [Decidable p] [Decidable q], (p ↔ q) → decide p = decide q := fun h => decide_eq_decide.2 h
  refine ⟨fun h => ?_, fun h => ⟨fun h1 => ?_, fun h1 => ⟨fun h2 => ?_, fun h2 => ⟨fun h3 => ?_, fun h3 => ?_⟩⟩⟩⟩
  · rw [if_pos (by omega)] at hk; exact hk
  · rw [if_neg (by omega), if_pos (by omega)] at hk; rw [bd (show ¬((y : Int) = 5) ↔ y ≠ 5 by omega)]; exact hk
  · rw [if_neg (by omega), if_neg (by omega), if_pos (by omega)] at hk; rw [bd (show ((y : Int) = 2) ↔ (y = 1 ∨ y = 2) by omega)]; exact hk
  · rw [if_neg (by omega), if_neg (by omega), if_neg (by omega), if_pos (by omega)] at hk; rw [bd (show ((y : Int) = 3) ↔ (y = 1 ∨ y = 3) by omega)]; exact hk
  · rw [if_neg (by omega), if_neg (by omega), if_neg (by omega), if_neg (by omega)] at hk
    by_cases h4 : x = 4
    · rw [if_pos h4, decide_eq_false (by omega)] at hk; exact hk
    · rw [if_neg h4] at hk; exact hk

theorem rBeside_spec (w : World) (a b : Int) : CallsR Try.prog 31 #[.int .i64 a, .int .i64 b] w fun r w' => r = .bool (bes (sureN a) (sureN b)) ∧ w' = w := by
  apply flotillaref04_Beside_sound
  unfold flotillaref04_Beside_x
  refine st_call (rSure_spec w a) ?_
  rintro _ w1 ⟨rfl, rfl⟩
  refine st_call (rSure_spec w1 b) ?_
  rintro _ w2 ⟨rfl, rfl⟩
  simp (disch := omega) only [PX, BX]
  refine ⟨fun h => rBeside_tail w2 (sureN_lt b) (sureN_lt a) (by omega) ⟨?_, rfl⟩, fun h => rBeside_tail w2 (sureN_lt a) (sureN_lt b) (by omega) ⟨rfl, rfl⟩⟩
  rw [bes_comm (sureN_lt b) (sureN_lt a)]

theorem rCovers_spec (w : World) (a b : Int) : CallsR Try.prog 12 #[.int .i64 a, .int .i64 b] w fun r w' => r = .bool (cov (sureN a) (sureN b)) ∧ w' = w := by
  apply flotillaref04_Covers_sound
  unfold flotillaref04_Covers_x
  refine st_call (rSure_spec w a) ?_
  rintro _ w1 ⟨rfl, rfl⟩
  refine st_call (rSure_spec w1 b) ?_
  rintro _ w2 ⟨rfl, rfl⟩
  have hx := sureN_lt a
  have hy := sureN_lt b
  generalize sureN a = x at hx
  generalize sureN b = y at hy
  have key := all2 (p := fun x y => cov x y == (decide (y ≤ x) && !(decide (x = 3) && decide (y = 2)))) (by decide +kernel) hx hy
  have key := eq_of_beq key
  rw [key]
  simp (disch := omega) only [PX, BX, flotillaref04_Covers_k1]
  refine ⟨fun h => ⟨fun h3 => ?_, fun h3 => ?_⟩, fun h => ?_⟩
  · rw [decide_eq_true (show y ≤ x by omega), decide_eq_true (show x = 3 by omega), Bool.true_and, Bool.true_and]
    refine ⟨?_, trivial⟩
    congr 2
    exact decide_eq_decide.2 (by omega)
  · rw [decide_eq_true (show y ≤ x by omega), decide_eq_false (show ¬ x = 3 by omega)]
    exact ⟨rfl, trivial⟩
  · rw [decide_eq_false (show ¬ y ≤ x by omega)]
    exact ⟨rfl, trivial⟩


end Go.Proofs.Ytakifgecgmdjcaa
