/- Joins, and what is built of them. -/
import Derived.Test.YtcglfpfbgefmcaaS
namespace Go.Proofs.Ytcglfpfbgefmcaa
open Go Xf Go.RowKit
set_option linter.unusedVariables false
set_option linter.unusedSimpArgs false
set_option maxRecDepth 100000

def bothK (x y k : Nat) : List Value := (List.range 6).map fun i => .bool (if i < k then bes x i && bes y i else false)
theorem bothK_len (x y k : Nat) : (bothK x y k).length = 6 := by simp [bothK]
theorem bothK_set (x y k : Nat) (hk : k < 6) : (bothK x y k).set k (.bool (bes x k && bes y k)) = bothK x y (k + 1) := by
  apply List.ext_getElem?
  intro j
  by_cases hj : k = j
  · subst hj
    rw [List.getElem?_set_self (by rw [bothK_len]; exact hk)]
    simp [bothK, hk]
  · rw [List.getElem?_set_ne hj]
    by_cases hj6 : j < 6
    · simp only [bothK, List.getElem?_map, List.getElem?_range hj6, Option.map_some]
      by_cases h : j < k
      · rw [if_pos h, if_pos (by omega)]
      · rw [if_neg h, if_neg (by omega)]
    · rw [List.getElem?_eq_none (by rw [bothK_len]; omega), List.getElem?_eq_none (by rw [bothK_len]; omega)]
theorem bothK_6 {x y : Nat} (hx : x < 6) (hy : y < 6) : bothK x y 6 = rowV (joi x y) := by
  unfold bothK rowV
  apply List.map_congr_left
  intro i hi
  have hi6 := List.mem_range.1 hi
  rw [if_pos hi6]
  have := all3 (p := fun x y i => (bes x i && bes y i) == bes (joi x y) i) (by decide +kernel) hx hy hi6
  congr 1
  exact eq_of_beq this

theorem tab_at {i j : Nat} (hi : i < 6) (hj : j < 6) : tabV.toArray[0 + ((i : Nat) : Int).toNat * 6 + ((j : Nat) : Int).toNat * 1]? = some (.bool (bes i j)) := by
  have h : i * 6 + j < 36 := by omega
  rw [show 0 + ((i : Nat) : Int).toNat * 6 + ((j : Nat) : Int).toNat * 1 = i * 6 + j by omega]
  simp [tabV, h, show (i * 6 + j) / 6 = i by omega, show (i * 6 + j) % 6 = j by omega]

theorem Join_spec (w : World) (a b : Int) : CallsR Try.prog 11 #[.int .i64 a, .int .i64 b] w fun r w' => r = .int .i64 (joi (sureN a) (sureN b) : Nat) ∧ Upd w w' [] := by
  have hx := sureN_lt a
  have hy := sureN_lt b
  have hj := joi_lt hx hy
  apply mode_Join_sound
  unfold mode_Join_x
  refine st_call (table_spec w) ?_
  rintro _ w0 ⟨rfl, hU0⟩
  refine st_alloc ze45 hU0 (Owns.nil w0) ?_
  intro g w1 hU1 hO1 hg
  refine st_storeN (vs := tabV) (by rw [sz45]; rfl) hU1 hO1 0 rfl (by simp [tabV, Value.cells]) tab_one (.inr hg) ?_
  intro w2 hU2 hO2
  have hO2 := stored_tab (by kernel_rfl) hO2
  refine st_alloc ze44 hU2 hO2 ?_
  intro g6 w3 hU3 hO3 hg6
  have hO3' : Owns w3 [(g6, .cells (bothK (sureN a) (sureN b) 0).toArray 44 (0, 0)), (g, .cells tabV.toArray 45 (0, 0))] := hO3
  refine st_loop (fun vs w' => ∃ i : Nat, i ≤ 6 ∧ vs.getD 1 undef = .int .i64 i ∧ Upd w w' [] ∧ Owns w' [(g6, .cells (bothK (sureN a) (sureN b) i).toArray 44 (0, 0)), (g, .cells tabV.toArray 45 (0, 0))])
    (fun vs _ => 6 - (intOf (vs.getD 1 undef)).toNat) ⟨0, by omega, rfl, hU3, hO3'⟩ ?_
  clear hO1 hO2 hO3 hO3' hU0 hU1 hU2 hU3
  rintro dv vs w4 - ⟨i, hi, e1, hU4, hO4⟩
  simp (disch := omega) only [e1, PX, BX]
  refine ⟨fun hlt => ?_, fun hge => ?_⟩
  · have hi' : i < 6 := by omega
    refine st_call (sure_spec _ a) ?_
    rintro _ w5 ⟨rfl, rfl⟩
    rw [step_run (run_idxA u45 sz44 (by omega) (by omega)), add_mk, step_run (run_idxA u44 sz4 (by omega) (by omega)), add_mk]
    refine st_loadB ag4 hO4 1 rfl (tab_at hx hi') ?_
    have goOn : ∀ w5, Upd w w5 [] → Owns w5 [(g6, .cells ((bothK (sureN a) (sureN b) i).toArray.setIfInBounds (0 + ((i : Nat) : Int).toNat * 1) (.bool (bes (sureN a) i && bes (sureN b) i))) 44 (0, 0)), (g, .cells tabV.toArray 45 (0, 0))] →
      mode_Join_k3 (std Try.prog) vs (fun vs' w' => (∃ i : Nat, i ≤ 6 ∧ vs'.getD 1 undef = .int .i64 i ∧ Upd w w' [] ∧ Owns w' [(g6, .cells (bothK (sureN a) (sureN b) i).toArray 44 (0, 0)), (g, .cells tabV.toArray 45 (0, 0))]) ∧ 6 - (intOf (vs'.getD 1 undef)).toNat < 6 - (intOf (Value.int IntKind.i64 (i : Int))).toNat)
        (.int .i64 i) w5 fun r w' => r = .int .i64 (joi (sureN a) (sureN b) : Nat) ∧ Upd w w' [] := by
      intro w5 hU5 hO5
      unfold mode_Join_k3
      simp (disch := omega) only [e1, PX, w64]
      refine ⟨⟨i + 1, by omega, rfl, hU5, ?_⟩, ?_⟩
      · rw [show 0 + ((i : Nat) : Int).toNat * 1 = i by omega] at hO5
        rw [← bothK_set _ _ i hi']
        simpa using hO5
      · simp only [List.getD_cons_succ, List.getD_cons_zero, intOf]; omega
    rw [bool_var]
    refine ⟨fun hb => ?_, fun hb => ?_⟩
    · refine st_call (sure_spec _ b) ?_
      rintro _ w5 ⟨rfl, rfl⟩
      rw [step_run (run_idxA u45 sz44 (by omega) (by omega)), add_mk, step_run (run_idxA u44 sz4 (by omega) (by omega)), add_mk]
      refine st_loadB ag4 hO4 1 rfl (tab_at hy hi') ?_
      rw [step_run (run_idxA u44 sz4 (by omega) (by omega)), add_mk]
      refine st_storeB sz4 rfl hU4 hO4 0 rfl (by simp [bothK_len]; omega) (.inr (Nat.zero_le _)) (.inr hg6) ?_
      intro w6 hU6 hO6
      refine goOn w6 hU6 ?_
      rw [hb, Bool.true_and]
      exact hO6
    · rw [step_run (run_idxA u44 sz4 (by omega) (by omega)), add_mk]
      refine st_storeB sz4 rfl hU4 hO4 0 rfl (by simp [bothK_len]; omega) (.inr (Nat.zero_le _)) (.inr hg6) ?_
      intro w6 hU6 hO6
      refine goOn w6 hU6 ?_
      rw [hb, Bool.false_and]
      exact hO6
  · obtain rfl : i = 6 := by omega
    rw [bothK_6 hx hy] at hO4
    unfold mode_Join_k1
    refine st_loop (fun vs w' => ∃ m : Nat, m ≤ joi (sureN a) (sureN b) ∧ vs.getD 2 undef = .int .i64 m ∧ Upd w w' [] ∧ Owns w' [(g6, .cells (rowV (joi (sureN a) (sureN b))).toArray 44 (0, 0)), (g, .cells tabV.toArray 45 (0, 0))])
      (fun vs _ => 6 - (intOf (vs.getD 2 undef)).toNat) ⟨0, by omega, rfl, hU4, hO4⟩ ?_
    rintro dv vs w5 - ⟨m, hm, e2, hU5, hO5⟩
    have hm6 : m < 6 := by omega
    simp (disch := omega) only [e2, PX, BX]
    refine ⟨fun _ => ?_, fun h => absurd (by omega) h⟩
    have hne : ∃ w', (fun w' => Upd w5 w' []) w' := ⟨w5, Upd.refl w5 []⟩
    refine st_draw (fun w' => Upd w5 w' []) (Upd.drew w5 []) ?_
    rw [stepS_run hne fun w' hw => run_idxA u45 sz44 (by omega) (by omega), add_mk]
    have hrow : ∀ w', Upd w5 w' [] → (sLoad 44 (.pointer (some ⟨g, 0 + ((m : Nat) : Int).toNat * 6, none⟩))).run Try.prog w' = .ok (.value (.agg (rowV m).toArray)) w' := fun w' hw =>
      run_sLoad (run_loadVarN ag44 (by rw [sz44]; simp [rowV]) fun j v hj => by
        have hj6 : j < 6 := by have := (List.getElem?_eq_some_iff.1 hj).1; simpa [rowV] using this
        rw [add_mk, cell_at ((hO5.ext hw).at_ 1 rfl)]
        have := tab_at hm6 hj6
        rw [show 0 + ((m : Nat) : Int).toNat * 6 + ((j : Nat) : Int).toNat * 1 = 0 + ((m : Nat) : Int).toNat * 6 + j by omega] at this
        rw [this]
        simp [rowV, hj6] at hj
        rw [hj])
    have hboth : ∀ w', Upd w5 w' [] → (sLoad 44 (.pointer (some ⟨g6, 0, none⟩))).run Try.prog w' = .ok (.value (.agg (rowV (joi (sureN a) (sureN b))).toArray)) w' := fun w' hw =>
      run_sLoad (run_loadVarN ag44 (by rw [sz44]; simp [rowV]) (cells_read ((hO5.ext hw).at_ 0 rfl)))
    rw [stepS_run hne hrow, stepS_run hne hboth, stepS_run hne fun w' hw => eq_row hm6 hj _ _ w', bool_var]
    refine ⟨fun he => ?_, fun he => ?_⟩
    · rw [eq_of_beq he]
      exact ⟨rfl, hU5.trans (Upd.drew w5 [])⟩
    · simp (disch := omega) only [PX, w64]
      have hne2 : m ≠ joi (sureN a) (sureN b) := by
        intro h; rw [h, beq_self_eq_true] at he; cases he
      refine ⟨⟨m + 1, by omega, rfl, hU5.trans (Upd.drew w5 []), hO5.ext (Upd.drew w5 [])⟩, ?_⟩
      simp only [List.getD_cons_succ, List.getD_cons_zero, intOf]; omega

def cov (x y : Nat) : Bool := joi x y == x

theorem Covers_spec (w : World) (a b : Int) : CallsR Try.prog 17 #[.int .i64 a, .int .i64 b] w fun r w' => r = .bool (cov (sureN a) (sureN b)) ∧ Upd w w' [] := by
  apply mode_Covers_sound
  unfold mode_Covers_x
  refine st_call (Join_spec w a b) ?_
  rintro _ w1 ⟨rfl, hU1⟩
  refine st_call (sure_spec w1 a) ?_
  rintro _ w2 ⟨rfl, rfl⟩
  simp (disch := omega) only [PX]
  refine ⟨?_, hU1⟩
  congr 1
  unfold cov
  rw [show (joi (sureN a) (sureN b) == sureN a) = decide (joi (sureN a) (sureN b) = sureN a) from rfl]
  apply decide_eq_decide.2
  omega

theorem Intent_spec (w : World) (a : Int) : CallsR Try.prog 14 #[.int .i64 a] w fun r w' => r = .int .i64 (inte (sureN a) : Nat) ∧ w' = w := by
  apply mode_Intent_sound
  unfold mode_Intent_x
  refine st_call (sure_spec w a) ?_
  rintro _ w1 ⟨rfl, rfl⟩
  have hx := sureN_lt a
  generalize sureN a = x at hx
  simp (disch := omega) only [PX, BX, mode_Intent_k1]
  unfold inte
  refine ⟨fun h => ?_, fun h => ⟨fun h1 => ⟨fun h2 => ?_, fun h2 => ?_⟩, fun h1 => ⟨fun h2 => ?_, fun h2 => ?_⟩⟩⟩
  · rw [if_pos (by omega)]; exact ⟨rfl, trivial⟩
  · rw [if_neg (by omega), if_pos (by omega)]; exact ⟨rfl, trivial⟩
  · omega
  · rw [if_neg (by omega), if_pos (by omega)]; exact ⟨rfl, trivial⟩
  · rw [if_neg (by omega), if_neg (by omega)]; exact ⟨rfl, trivial⟩

theorem sureN_of {x : Nat} (h : x < 6) : sureN (x : Int) = x := by unfold sureN; rw [if_pos (by omega)]; omega

theorem lives_spec (w : World) : CallsR Try.prog 13 #[] w fun r w' => r = .bool true ∧ Upd w w' [] := by
  apply flotillalaw04_lives_sound
  unfold flotillalaw04_lives_x
  refine st_call (Join_spec w 2 3) ?_
  rintro _ w1 ⟨rfl, hU1⟩
  rw [show joi (sureN 2) (sureN 3) = 4 by decide]
  simp (disch := omega) only [PX, BX]
  refine ⟨fun _ => ?_, fun h => absurd rfl h⟩
  refine st_call (Beside_spec w1 2 3) ?_
  rintro _ w2 ⟨rfl, hU2⟩
  rw [show bes (sureN 2) (sureN 3) = false by decide]
  simp (disch := omega) only [PX, BX]
  refine st_call (Intent_spec w2 3) ?_
  rintro _ w3 ⟨rfl, rfl⟩
  rw [show inte (sureN 3) = 1 by decide]
  simp (disch := omega) only [PX, BX]
  exact ⟨rfl, hU1.trans hU2⟩

end Go.Proofs.Ytcglfpfbgefmcaa
