/- The document's answers. -/
import Derived.Test.YtcglfpfbgefmcaaS3
namespace Go.Proofs.Ytcglfpfbgefmcaa
open Go Xf Go.RowKit
set_option linter.unusedVariables false
set_option linter.unusedSimpArgs false
set_option maxRecDepth 100000

theorem rBeside_tail (w : World) {x y : Nat} (hx : x < 6) (hy : y < 6) (hxy : x ≤ y) {K : Value → World → Prop} (hk : K (.bool (bes x y)) w) : flotillaref04_Beside_k1 (std Try.prog) (.int .i64 x) (.int .i64 y) w K := by
  unfold flotillaref04_Beside_k1
  simp (disch := omega) only [PX, BX]
  unfold bes at hk
  have bd : ∀ {p q : Prop} [Decidable p] [Decidable q], (p ↔ q) → decide p = decide q := fun h => decide_eq_decide.2 h
  refine ⟨fun h => ?_, fun h => ⟨fun h1 => ?_, fun h1 => ⟨fun h2 => ?_, fun h2 => ⟨fun h3 => ?_, fun h3 => ?_⟩⟩⟩⟩
  · rw [if_pos (by omega)] at hk; exact hk
  · rw [if_neg (by omega), if_pos (by omega)] at hk; rw [bd (show ¬((y : Int) = 5) ↔ y ≠ 5 by omega)]; exact hk
  · rw [if_neg (by omega), if_neg (by omega), if_pos (by omega)] at hk; rw [bd (show ((y : Int) = 2) ↔ (y = 1 ∨ y = 2) by omega)]; exact hk
  · rw [if_neg (by omega), if_neg (by omega), if_neg (by omega), if_pos (by omega)] at hk; rw [bd (show ((y : Int) = 3) ↔ (y = 1 ∨ y = 3) by omega)]; exact hk
  · rw [if_neg (by omega), if_neg (by omega), if_neg (by omega), if_neg (by omega)] at hk
    by_cases h4 : x = 4
    · rw [if_pos h4, decide_eq_false (by omega)] at hk; exact hk
    · rw [if_neg h4] at hk; exact hk

theorem rBeside_spec (w : World) (a b : Int) : CallsR Try.prog 15 #[.int .i64 a, .int .i64 b] w fun r w' => r = .bool (bes (sureN a) (sureN b)) ∧ w' = w := by
  apply flotillaref04_Beside_sound
  unfold flotillaref04_Beside_x
  refine st_call (rSure_spec w a) ?_
  rintro _ w1 ⟨rfl, rfl⟩
  refine st_call (rSure_spec w1 b) ?_
  rintro _ w2 ⟨rfl, rfl⟩
  simp (disch := omega) only [PX, BX]
  refine ⟨fun h => rBeside_tail w2 (sureN_lt b) (sureN_lt a) (by omega) ⟨?_, rfl⟩, fun h => rBeside_tail w2 (sureN_lt a) (sureN_lt b) (by omega) ⟨rfl, rfl⟩⟩
  rw [bes_comm (sureN_lt b) (sureN_lt a)]

theorem rCovers_spec (w : World) (a b : Int) : CallsR Try.prog 18 #[.int .i64 a, .int .i64 b] w fun r w' => r = .bool (cov (sureN a) (sureN b)) ∧ w' = w := by
  apply flotillaref04_Covers_sound
  unfold flotillaref04_Covers_x
  refine st_call (rSure_spec w a) ?_
  rintro _ w1 ⟨rfl, rfl⟩
  refine st_call (rSure_spec w1 b) ?_
  rintro _ w2 ⟨rfl, rfl⟩
  have hx := sureN_lt a
  have hy := sureN_lt b
  generalize sureN a = x at hx
  generalize sureN b = y at hy
  have key := all2 (p := fun x y => cov x y == (decide (y ≤ x) && !(decide (x = 3) && decide (y = 2)))) (by decide +kernel) hx hy
  have key := eq_of_beq key
  rw [key]
  simp (disch := omega) only [PX, BX, flotillaref04_Covers_k1]
  refine ⟨fun h => ⟨fun h3 => ?_, fun h3 => ?_⟩, fun h => ?_⟩
  · rw [decide_eq_true (show y ≤ x by omega), decide_eq_true (show x = 3 by omega), Bool.true_and, Bool.true_and]
    refine ⟨?_, trivial⟩
    congr 2
    exact decide_eq_decide.2 (by omega)
  · rw [decide_eq_true (show y ≤ x by omega), decide_eq_false (show ¬ x = 3 by omega)]
    exact ⟨rfl, trivial⟩
  · rw [decide_eq_false (show ¬ y ≤ x by omega)]
    exact ⟨rfl, trivial⟩

theorem rIntent_spec (w : World) (a : Int) : CallsR Try.prog 19 #[.int .i64 a] w fun r w' => r = .int .i64 (inte (sureN a) : Nat) ∧ w' = w := by
  apply flotillaref04_Intent_sound
  unfold flotillaref04_Intent_x
  refine st_call (rSure_spec w a) ?_
  rintro _ w1 ⟨rfl, rfl⟩
  have hx := sureN_lt a
  generalize sureN a = x at hx
  simp (disch := omega) only [PX, BX, flotillaref04_Intent_k1]
  unfold inte
  refine ⟨fun h => ?_, fun h => ⟨fun h1 => ⟨fun h2 => ?_, fun h2 => ?_⟩, fun h1 => ⟨fun h2 => ?_, fun h2 => ?_⟩⟩⟩
  · rw [if_pos (by omega)]; exact ⟨rfl, trivial⟩
  · rw [if_neg (by omega), if_pos (by omega)]; exact ⟨rfl, trivial⟩
  · omega
  · rw [if_neg (by omega), if_pos (by omega)]; exact ⟨rfl, trivial⟩
  · rw [if_neg (by omega), if_neg (by omega)]; exact ⟨rfl, trivial⟩

/-- the least that covers both: none below it does -/
theorem cov_below {x y m : Nat} (hx : x < 6) (hy : y < 6) (hm : m < 6) (h1 : cov m x = true) (h2 : cov m y = true) : joi x y ≤ m := by
  have := all3 (p := fun x y m => !(cov m x && cov m y) || decide (joi x y ≤ m)) (by decide +kernel) hx hy hm
  simpa [h1, h2] using this

theorem rJoin_spec (w : World) (a b : Int) : CallsR Try.prog 16 #[.int .i64 a, .int .i64 b] w fun r w' => r = .int .i64 (joi (sureN a) (sureN b) : Nat) ∧ w' = w := by
  have hx := sureN_lt a
  have hy := sureN_lt b
  have hj := joi_lt hx hy
  apply flotillaref04_Join_sound
  unfold flotillaref04_Join_x
  refine st_loop (fun vs w' => ∃ m : Nat, m ≤ joi (sureN a) (sureN b) ∧ m ≤ 5 ∧ vs.getD 1 undef = .int .i64 m ∧ w' = w) (fun vs _ => 6 - (intOf (vs.getD 1 undef)).toNat) ⟨0, by omega, by omega, rfl, rfl⟩ ?_
  rintro dv vs w1 - ⟨m, hm, hm5, e1, rfl⟩
  simp (disch := omega) only [e1, PX, BX]
  refine ⟨fun hlt => ?_, fun hge => ?_⟩
  · have hm6 : m < 6 := by omega
    have goOn : ¬ m = joi (sureN a) (sureN b) → flotillaref04_Join_k2 (std Try.prog) vs (fun vs' w' => (∃ m : Nat, m ≤ joi (sureN a) (sureN b) ∧ m ≤ 5 ∧ vs'.getD 1 undef = .int .i64 m ∧ w' = w1) ∧ 6 - (intOf (vs'.getD 1 undef)).toNat < 6 - (intOf (Value.int IntKind.i64 (m : Int))).toNat)
        (vs.getD 0 undef) w1 fun r w' => r = .int .i64 (joi (sureN a) (sureN b) : Nat) ∧ w' = w1 := by
      intro hne
      unfold flotillaref04_Join_k2
      simp (disch := omega) only [e1, PX, w64]
      refine ⟨⟨m + 1, by omega, by omega, rfl, trivial⟩, ?_⟩
      simp only [List.getD_cons_succ, List.getD_cons_zero, intOf]; omega
    refine st_call (rCovers_spec w1 m a) ?_
    rintro _ w2 ⟨rfl, rfl⟩
    rw [sureN_of hm6, bool_var]
    refine ⟨fun h1 => ?_, fun h1 => goOn ?_⟩
    · refine st_call (rCovers_spec w2 m b) ?_
      rintro _ w3 ⟨rfl, rfl⟩
      rw [sureN_of hm6, bool_var]
      refine ⟨fun h2 => ?_, fun h2 => goOn ?_⟩
      · have := cov_below hx hy hm6 h1 h2
        have he : m = joi (sureN a) (sureN b) := by omega
        rw [he]; exact ⟨rfl, rfl⟩
      · intro he; rw [he, cov_r hx hy] at h2; cases h2
    · intro he; rw [he, cov_l hx hy] at h1; cases h1
  · unfold flotillaref04_Join_k1
    rw [show joi (sureN a) (sureN b) = 5 by omega]
    exact ⟨rfl, rfl⟩

theorem ModeTells_spec (w : World) (a b : Int) : CallsR Try.prog 5 #[.int .i64 a, .int .i64 b] w fun r w' => r = .bool true ∧ Upd w w' [] := by
  apply flotillalaw04_ModeTells_sound
  unfold flotillalaw04_ModeTells_x
  refine st_call (Known_spec w a) ?_
  rintro _ w0 ⟨rfl, rfl⟩
  have tail : ∀ (r : Bool), r = decide (0 ≤ a ∧ a ≤ 5) → (std Try.prog).step (sBin .eql 4 (.tmp 10) (.tmp 16) (.bool (decide (0 ≤ a ∧ a ≤ 5))) (.bool r)) w0 fun v17_1 w =>
      (std Try.prog).bool v17_1
      ((std Try.prog).calls 10 #[.int .i64 a, .int .i64 b] w fun v21_1 w =>
      (std Try.prog).calls 15 #[.int .i64 a, .int .i64 b] w fun v24_1 w =>
      (std Try.prog).step (sBin .eql 4 (.tmp 21) (.tmp 24) v21_1 v24_1) w fun v25_1 w =>
      (std Try.prog).bool v25_1
      ((std Try.prog).calls 11 #[.int .i64 a, .int .i64 b] w fun v30_1 w =>
      (std Try.prog).calls 16 #[.int .i64 a, .int .i64 b] w fun v33_1 w =>
      (std Try.prog).step (sBin .eql 22 (.tmp 30) (.tmp 33) v30_1 v33_1) w fun v34_1 w =>
      (std Try.prog).bool v34_1
      ((std Try.prog).calls 17 #[.int .i64 a, .int .i64 b] w fun v39_1 w =>
      (std Try.prog).calls 18 #[.int .i64 a, .int .i64 b] w fun v42_1 w =>
      (std Try.prog).step (sBin .eql 4 (.tmp 39) (.tmp 42) v39_1 v42_1) w fun v43_1 w =>
      (std Try.prog).bool v43_1
      ((std Try.prog).calls 14 #[.int .i64 a] w fun v47_1 w =>
      (std Try.prog).calls 19 #[.int .i64 a] w fun v49_1 w =>
      (std Try.prog).step (sBin .eql 22 (.tmp 47) (.tmp 49) v47_1 v49_1) w fun v50_1 w =>
      (std Try.prog).bool v50_1
      ((std Try.prog).calls 13 #[] w fun v53_1 w =>
      flotillalaw04_ModeTells_k1 (std Try.prog) v53_1 w fun r w' => r = .bool true ∧ Upd w0 w' [])
      (flotillalaw04_ModeTells_k2 (std Try.prog) w fun r w' => r = .bool true ∧ Upd w0 w' []))
      (flotillalaw04_ModeTells_k2 (std Try.prog) w fun r w' => r = .bool true ∧ Upd w0 w' []))
      (flotillalaw04_ModeTells_k2 (std Try.prog) w fun r w' => r = .bool true ∧ Upd w0 w' []))
      (flotillalaw04_ModeTells_k2 (std Try.prog) w fun r w' => r = .bool true ∧ Upd w0 w' []))
      (flotillalaw04_ModeTells_k2 (std Try.prog) w fun r w' => r = .bool true ∧ Upd w0 w' []) := by
    intro r hr
    rw [hr]
    simp (disch := omega) only [PX, BX, beq_self_eq_true]
    refine st_call (Beside_spec w0 a b) ?_
    rintro _ w1 ⟨rfl, hU1⟩
    refine st_call (rBeside_spec w1 a b) ?_
    rintro _ w2 ⟨rfl, rfl⟩
    simp (disch := omega) only [PX, BX, beq_self_eq_true]
    refine st_call (Join_spec w2 a b) ?_
    rintro _ w3 ⟨rfl, hU3⟩
    refine st_call (rJoin_spec w3 a b) ?_
    rintro _ w4 ⟨rfl, rfl⟩
    simp (disch := omega) only [PX, BX]
    refine ⟨fun _ => ?_, fun h => absurd trivial h⟩
    refine st_call (Covers_spec w4 a b) ?_
    rintro _ w5 ⟨rfl, hU5⟩
    refine st_call (rCovers_spec w5 a b) ?_
    rintro _ w6 ⟨rfl, rfl⟩
    simp (disch := omega) only [PX, BX, beq_self_eq_true]
    refine st_call (Intent_spec w6 a) ?_
    rintro _ w7 ⟨rfl, rfl⟩
    refine st_call (rIntent_spec w7 a) ?_
    rintro _ w8 ⟨rfl, rfl⟩
    simp (disch := omega) only [PX, BX]
    refine ⟨fun _ => ?_, fun h => absurd trivial h⟩
    exact st_call (lives_spec w8) fun v w9 h => ⟨h.1, (hU1.trans hU3).trans (hU5.trans h.2)⟩
  rw [px_geq, bool_dec]
  refine ⟨fun h => ?_, fun h => ?_⟩
  · rw [px_leq]
    exact tail _ (decide_eq_decide.2 (by omega))
  · exact tail false (decide_eq_false (by omega)).symm

end Go.Proofs.Ytcglfpfbgefmcaa
