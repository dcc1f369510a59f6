/- Laws of two and three modes, without the document's answer. -/
import Derived.Test.YtcglfpfbgefmcaaS2
namespace Go.Proofs.Ytcglfpfbgefmcaa
open Go Xf Go.RowKit
set_option linter.unusedVariables false
set_option linter.unusedSimpArgs false
set_option maxRecDepth 100000

theorem bes_comm {x y : Nat} (hx : x < 6) (hy : y < 6) : bes x y = bes y x := eq_of_beq (all2 (p := fun x y => bes x y == bes y x) (by decide +kernel) hx hy)
theorem joi_comm (x y : Nat) : joi x y = joi y x := by unfold joi; split <;> split <;> omega
theorem joi_self (x : Nat) : joi x x = x := by unfold joi; rw [if_neg (by omega)]; omega
theorem joi_zero (x : Nat) : joi x 0 = x := by unfold joi; rw [if_neg (by omega)]; omega
theorem joi_assoc {x y z : Nat} (hx : x < 6) (hy : y < 6) (hz : z < 6) : joi (joi x y) z = joi x (joi y z) := eq_of_beq (all3 (p := fun x y z => joi (joi x y) z == joi x (joi y z)) (by decide +kernel) hx hy hz)
theorem cov_l {x y : Nat} (hx : x < 6) (hy : y < 6) : cov (joi x y) x = true := all2 (p := fun x y => cov (joi x y) x) (by decide +kernel) hx hy
theorem cov_r {x y : Nat} (hx : x < 6) (hy : y < 6) : cov (joi x y) y = true := all2 (p := fun x y => cov (joi x y) y) (by decide +kernel) hx hy
theorem cov_join {x y z : Nat} (hx : x < 6) (hy : y < 6) (hz : z < 6) (h1 : cov z x = true) (h2 : cov z y = true) : cov z (joi x y) = true := by
  have := all3 (p := fun x y z => !(cov z x && cov z y) || cov z (joi x y)) (by decide +kernel) hx hy hz
  simpa [h1, h2] using this
theorem sure_joi (a b : Int) : sureN ((joi (sureN a) (sureN b) : Nat) : Int) = joi (sureN a) (sureN b) := sureN_of (joi_lt (sureN_lt a) (sureN_lt b))

theorem ModeTurned_spec (w : World) (a b : Int) : CallsR Try.prog 3 #[.int .i64 a, .int .i64 b] w fun r w' => r = .bool true ∧ Upd w w' [] := by
  apply flotillalaw04_ModeTurned_sound
  unfold flotillalaw04_ModeTurned_x
  refine st_call (Beside_spec w a b) ?_
  rintro _ w1 ⟨rfl, hU1⟩
  refine st_call (Beside_spec w1 b a) ?_
  rintro _ w2 ⟨rfl, hU2⟩
  rw [bes_comm (sureN_lt b) (sureN_lt a)]
  simp (disch := omega) only [PX, BX]
  rw [bool_var]
  refine ⟨fun _ => ?_, fun h => by simp at h⟩
  refine st_call (Join_spec w2 a b) ?_
  rintro _ w3 ⟨rfl, hU3⟩
  refine st_call (Join_spec w3 b a) ?_
  rintro _ w4 ⟨rfl, hU4⟩
  rw [joi_comm (sureN b)]
  simp (disch := omega) only [PX, BX]
  refine ⟨fun h => absurd rfl h, fun _ => ?_⟩
  refine st_call (Known_spec w4 a) ?_
  rintro _ w5 ⟨rfl, rfl⟩
  have hU := ((hU1.trans hU2).trans hU3).trans hU4
  simp (disch := omega) only [PX, BX]
  refine ⟨fun hk => ?_, fun hk => ?_⟩
  · have hsure : ((sureN a : Nat) : Int) = a := by unfold sureN; rw [if_pos hk]; omega
    refine st_call (Join_spec w5 a a) ?_
    rintro _ w6 ⟨rfl, hU6⟩
    rw [joi_self, hsure]
    simp (disch := omega) only [PX, BX]
    refine ⟨fun _ => ?_, fun h => absurd trivial h⟩
    refine st_call (Join_spec w6 a 0) ?_
    rintro _ w7 ⟨rfl, hU7⟩
    rw [show sureN 0 = 0 by decide, joi_zero, hsure]
    simp (disch := omega) only [PX, BX]
    refine ⟨fun _ => ?_, fun h => absurd trivial h⟩
    refine st_call (lives_spec w7) ?_
    rintro _ w8 ⟨rfl, hU8⟩
    exact ⟨rfl, ((hU.trans hU6).trans hU7).trans hU8⟩
  · refine st_call (lives_spec w5) ?_
    rintro _ w8 ⟨rfl, hU8⟩
    exact ⟨rfl, hU.trans hU8⟩

theorem ModeTogether_spec (w : World) (a b c : Int) : CallsR Try.prog 6 #[.int .i64 a, .int .i64 b, .int .i64 c] w fun r w' => r = .bool true ∧ Upd w w' [] := by
  have hx := sureN_lt a
  have hy := sureN_lt b
  have hz := sureN_lt c
  apply flotillalaw04_ModeTogether_sound
  unfold flotillalaw04_ModeTogether_x
  refine st_call (Join_spec w a b) ?_
  rintro _ w1 ⟨rfl, hU1⟩
  refine st_call (Join_spec w1 _ c) ?_
  rintro _ w2 ⟨rfl, hU2⟩
  refine st_call (Join_spec w2 b c) ?_
  rintro _ w3 ⟨rfl, hU3⟩
  refine st_call (Join_spec w3 a _) ?_
  rintro _ w4 ⟨rfl, hU4⟩
  rw [sure_joi, sure_joi, joi_assoc hx hy hz]
  simp (disch := omega) only [PX, BX]
  refine ⟨fun h => absurd rfl h, fun _ => ?_⟩
  have hU := ((hU1.trans hU2).trans hU3).trans hU4
  refine st_call (Covers_spec w4 _ a) ?_
  rintro _ w5 ⟨rfl, hU5⟩
  rw [sure_joi, cov_l hx hy]
  simp (disch := omega) only [PX, BX, Bool.not_true]
  refine st_call (Covers_spec w5 _ b) ?_
  rintro _ w6 ⟨rfl, hU6⟩
  rw [sure_joi, cov_r hx hy]
  simp (disch := omega) only [PX, BX, Bool.not_true]
  have hU := (hU.trans hU5).trans hU6
  refine st_call (Covers_spec w6 c a) ?_
  rintro _ w7 ⟨rfl, hU7⟩
  simp (disch := omega) only [PX, BX]
  have hU := hU.trans hU7
  have fin : ∀ w7, Upd w w7 [] → (std Try.prog).calls 13 #[] w7 fun r w' => r = .bool true ∧ Upd w w' [] := fun w7 hU7 =>
    st_call (lives_spec w7) fun v w8 h => ⟨h.1, hU7.trans h.2⟩
  rw [bool_var]
  refine ⟨fun h1 => ?_, fun h1 => fin w7 hU⟩
  refine st_call (Covers_spec w7 c b) ?_
  rintro _ w8 ⟨rfl, hU8⟩
  simp (disch := omega) only [PX, BX]
  have hU := hU.trans hU8
  rw [bool_var]
  refine ⟨fun h2 => ?_, fun h2 => fin w8 hU⟩
  refine st_call (Covers_spec w8 c _) ?_
  rintro _ w9 ⟨rfl, hU9⟩
  rw [sure_joi, cov_join hx hy hz h1 h2, bool_true]
  exact fin w9 (hU.trans hU9)

theorem above_tail (W w3 : World) (a : Int) (r : Bool) (hU : Upd W w3 []) (hr : r = bes 3 (inte (sureN a))) (F : World → Prop) :
    (std Try.prog).calls 14 #[.int .i64 a] w3 fun v27_1 w =>
      (std Try.prog).calls 10 #[(.int .i64 3), v27_1] w fun v28_1 w =>
      (std Try.prog).step (sBin .eql 4 (.tmp 28) (.tmp 29) v28_1 (.bool r)) w fun v30_1 w =>
      (std Try.prog).bool v30_1
      ((std Try.prog).calls 14 #[.int .i64 a] w fun v33_1 w =>
      (std Try.prog).calls 11 #[v33_1, (.int .i64 1)] w fun v34_1 w =>
      (std Try.prog).calls 10 #[(.int .i64 5), v34_1] w fun v35_1 w =>
      (std Try.prog).step (sUn .not v35_1) w fun v36_1 w =>
      (std Try.prog).bool v36_1
      ((std Try.prog).calls 13 #[] w fun v39_1 w' => v39_1 = .bool true ∧ Upd W w' [])
      (F w)) (F w) := by
  refine st_call (Intent_spec w3 a) ?_
  rintro _ w4 ⟨rfl, rfl⟩
  refine st_call (Beside_spec w4 3 _) ?_
  rintro _ w5 ⟨rfl, hU5⟩
  rw [sureN_of (inte_lt _), show sureN 3 = 3 by decide, ← hr]
  simp (disch := omega) only [PX, BX, beq_self_eq_true]
  refine st_call (Intent_spec w5 a) ?_
  rintro _ w6 ⟨rfl, rfl⟩
  refine st_call (Join_spec w6 _ 1) ?_
  rintro _ w7 ⟨rfl, hU7⟩
  refine st_call (Beside_spec w7 5 _) ?_
  rintro _ w8 ⟨rfl, hU8⟩
  have h5 : bes 5 (joi (inte (sureN a)) 1) = false := by
    have := all1 (p := fun x => !bes 5 (joi (inte x) 1)) (by decide +kernel) (sureN_lt a)
    simpa using this
  rw [sureN_of (inte_lt _), show sureN 1 = 1 by decide, sureN_of (joi_lt (inte_lt _) (by omega)), show sureN 5 = 5 by decide, h5]
  simp (disch := omega) only [PX, BX, Bool.not_false]
  exact st_call (lives_spec w8) fun v w9 h => ⟨h.1, ((hU.trans hU5).trans hU7).trans (hU8.trans h.2)⟩

theorem ModeAbove_spec (w : World) (a b : Int) : CallsR Try.prog 4 #[.int .i64 a, .int .i64 b] w fun r w' => r = .bool true ∧ Upd w w' [] := by
  have hx := sureN_lt a
  have hy := sureN_lt b
  have hix := inte_lt (sureN a)
  apply flotillalaw04_ModeAbove_sound
  unfold flotillalaw04_ModeAbove_x
  refine st_call (Intent_spec w a) ?_
  rintro _ w1 ⟨rfl, rfl⟩
  refine st_call (Intent_spec w1 b) ?_
  rintro _ w2 ⟨rfl, rfl⟩
  refine st_call (Beside_spec w2 _ _) ?_
  rintro _ w3 ⟨rfl, hU⟩
  rw [sureN_of (inte_lt _), sureN_of (inte_lt _), all2 (p := fun x y => bes (inte x) (inte y)) (by decide +kernel) hx hy]
  simp (disch := omega) only [PX, BX, Bool.not_true]
  refine ⟨fun h0 => ?_, fun h0 => ⟨fun h1 => ?_, fun h1 => ?_⟩⟩
  · subst h0
    exact above_tail _ w3 0 true hU (by decide) fun w' => flotillalaw04_ModeAbove_k2 (std Try.prog) w' _
  · subst h1
    exact above_tail _ w3 1 true hU (by decide) fun w' => flotillalaw04_ModeAbove_k2 (std Try.prog) w' _
  · refine above_tail _ w3 a (decide (a = 3)) hU ?_ fun w' => flotillalaw04_ModeAbove_k3 (std Try.prog) w' _
    by_cases h3 : a = 3
    · subst h3; decide
    · have hk : sureN a = 2 ∨ sureN a = 4 ∨ sureN a = 5 := by unfold sureN; split <;> omega
      rw [decide_eq_false h3]
      rcases hk with h | h | h <;> rw [h] <;> decide

end Go.Proofs.Ytcglfpfbgefmcaa
