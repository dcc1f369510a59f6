/- New rings; the example. -/
import Derived.Test.YtnghnolpohahpaaS6
namespace Go.Proofs.Ytnghnolpohahpaa
open Go Xf Go.RowKit
set_option linter.unusedVariables false
set_option linter.unusedSimpArgs false
set_option maxRecDepth 100000

def newK (n k : Nat) : List Fr := (List.range n).map fun i => if i < k then ⟨-1, false, 0⟩ else ⟨0, false, 0⟩
theorem newK_len (n k : Nat) : (newK n k).length = n := by simp [newK]
theorem newK_at (n k i : Nat) (hi : i < (newK n k).length) : (newK n k)[i] = if i < k then ⟨-1, false, 0⟩ else ⟨0, false, 0⟩ := by simp [newK]
theorem newK_succ (n k : Nat) (hk : k < n) : (newK n k).set k ⟨-1, false, 0⟩ = newK n (k + 1) := by
  apply List.ext_getElem
  · simp [newK]
  · intro j h1 h2
    rw [List.getElem_set, newK_at, newK_at]
    by_cases h : k = j
    · rw [if_pos h, if_pos (by omega)]
    · rw [if_neg h]
      by_cases hj : j < k
      · rw [if_pos hj, if_pos (by omega)]
      · rw [if_neg hj, if_neg (by omega)]
theorem made0 (n : Nat) (h1 : 1 ≤ n) (h2 : n ≤ 16) : madeCells (Value.agg #[.int .i64 0, .bool false, .int .i64 0]).cells (n * 3) = (framesV (newK n 0)).toArray := by
  rcases (by omega : n = 1 ∨ n = 2 ∨ n = 3 ∨ n = 4 ∨ n = 5 ∨ n = 6 ∨ n = 7 ∨ n = 8 ∨ n = 9 ∨ n = 10 ∨ n = 11 ∨ n = 12 ∨ n = 13 ∨ n = 14 ∨ n = 15 ∨ n = 16) with rfl | rfl | rfl | rfl | rfl | rfl | rfl | rfl | rfl | rfl | rfl | rfl | rfl | rfl | rfl | rfl <;> kernel_rfl

def newR (n : Int) : Nat ⊕ (List Fr × Int) := if n < 1 ∨ 16 < n then .inl 1 else .inr (newK n.toNat n.toNat, 0)

theorem New_spec (w : World) (n : Int) : CallsR Try.prog 9 #[.int .i64 n] w fun r w' => RingE w w' r (newR n) := by
  apply clock_New_sound
  unfold clock_New_x
  refine st_alloc ze24 (Upd.refl w []) (Owns.nil w) ?_
  intro g2 w1 hU1 hO1 hg2
  simp (disch := omega) only [PX, BX]
  have bad : n < 1 ∨ 16 < n → (std Try.prog).step (sBuild 24 []) w1 fun v => fun u => (std Try.prog).step (sStore 24 (.pointer (some ⟨g2, 0, none⟩)) v) u fun _ u => (std Try.prog).loadR 24 (.pointer (some ⟨g2, 0, none⟩)) u fun r => RingE w u (.tuple #[r, .int .i64 1]) (newR n) := by
    intro h
    rw [step_run (build0 _)]
    refine st_ring hU1 hO1 0 rfl rfl rfl (.inr hg2) ?_
    intro w2 hU2 hO2 d0 d1
    refine ldr24 d0 d1 ?_
    unfold newR; rw [if_pos h]
    exact ⟨rfl, hU2⟩
  refine ⟨fun h => bad (.inl h), fun h1 => ⟨fun h => bad (.inr h), fun h16 => ?_⟩⟩
  obtain ⟨m, rfl⟩ : ∃ m : Nat, n = m := ⟨n.toNat, by omega⟩
  obtain ⟨i, hi, hz, hs, hb⟩ := inf31
  refine st_make u22 hi hz hs hb (by omega) (by omega) hU1 hO1 ?_
  intro g3 w3 hU3 hO3 hg3
  rw [made0 m (by omega) (by omega)] at hO3
  rw [step_run (show (sBuild 24 [(0, .slice (some ⟨g3, 0, none⟩) m m)]).run Try.prog w3 = .ok (.value (.agg #[.slice (some ⟨g3, 0, none⟩) m m, .int .i64 0])) w3 by kernel_rfl)]
  refine st_alloc ze24 hU3 hO3 ?_
  intro g4 w4 hU4 hO4 hg4
  refine st_ring hU4 hO4 0 rfl rfl rfl (.inr hg4) ?_
  intro w5 hU5 hO5 d0 d1
  simp (disch := first | assumption | omega) only [PX, BX, LX, add_mk, Nat.reduceAdd]
  refine st_loop (fun vs w' => ∃ k : Nat, k ≤ m ∧ vs.getD 1 undef = .int .i64 k ∧ Upd w w' [] ∧ Owns w' [(g4, .cells #[.slice (some ⟨g3, 0, none⟩) m m, .int .i64 0] 24 (0, 0)), (g3, .cells (framesV (newK m k)).toArray 31 (0, 0)), (g2, .cells #[.slice none 0 0, .int .i64 0] 24 (0, 0))])
    (fun vs _ => m - (intOf (vs.getD 1 undef)).toNat) ⟨0, by omega, rfl, hU5, hO5⟩ ?_
  rintro dv vs w6 - ⟨k, hk, e1, hU6, hO6⟩
  simp (disch := omega) only [e1, PX, BX]
  refine ⟨fun hlt => ?_, fun hge => ?_⟩
  · have c0 : w6.cell? ⟨g4, 0, none⟩ = some (.slice (some ⟨g3, 0, none⟩) m m) := cell_at (hO6.at_ 0 rfl)
    simp (disch := first | assumption | omega) only [PX, BX, LX, add_mk, Nat.reduceAdd]
    rw [step_run (run_idxS u22 sz31 (by omega) (by omega)), add_mk, show 0 + ((k : Nat) : Int).toNat * 3 = k * 3 by omega]
    simp (disch := first | assumption | omega) only [PX]
    refine st_storeB sz3 rfl hU6 hO6 1 rfl (by simp [framesV_len, newK_len]; omega) (.inr (Nat.zero_le _)) (.inr hg3) ?_
    intro w7 hU7 hO7
    have e : (framesV (newK m k)).toArray.setIfInBounds (k * 3) (.int .i64 (-1)) = (framesV (newK m (k + 1))).toArray := by
      rw [List.setIfInBounds_toArray]
      have := framesV_set1 (newK m k) k 0 (by rw [newK_len]; omega) (by omega) (.int .i64 (-1)) ⟨-1, false, 0⟩ (by rw [newK_at, if_neg (by omega)]; rfl)
      rw [Nat.add_zero] at this
      rw [this, newK_succ m k (by omega)]
    rw [e] at hO7
    simp (disch := omega) only [PX, w64]
    refine ⟨⟨k + 1, by omega, rfl, hU7, hO7⟩, ?_⟩
    simp only [List.getD_cons_succ, List.getD_cons_zero, intOf]; omega
  · obtain rfl : k = m := by omega
    unfold clock_New_k1
    have c0 : w6.cell? ⟨g4, 0, none⟩ = some (.slice (some ⟨g3, 0, none⟩) k k) := cell_at (hO6.at_ 0 rfl)
    have c1 : w6.cell? ⟨g4, 1, none⟩ = some (.int .i64 0) := cell_at (hO6.at_ 0 rfl)
    rw [ld24 c0 c1]
    refine st_ring hU6 hO6 2 rfl rfl rfl (.inr hg2) ?_
    intro w7 hU7 hO7 d0 d1
    refine ldr24 d0 d1 ?_
    unfold newR
    rw [if_neg (by omega), show ((k : Nat) : Int).toNat = k by omega]
    exact ⟨g3, _, ⟨by rw [newK_len], by rw [newK_len]; unfold maxLen; omega, hO7.sub (by simp), hU7, hg3⟩, rfl⟩

theorem may_ex : May [⟨4, true, 0⟩, ⟨7, false, 0⟩] 0 := by
  refine ⟨by decide, by decide, by decide, by decide, fun i hi => ?_⟩
  match i, hi with
  | 0, _ => exact ⟨(by unfold okF; decide : okF ⟨4, true, 0⟩), fun k hk => by omega⟩
  | 1, _ => exact ⟨(by unfold okF; decide : okF ⟨7, false, 0⟩), fun k hk _ => by
      obtain rfl : k = 0 := by omega
      show (4 : Int) ≠ 7
      decide⟩
theorem next_ex : nextR [⟨4, true, 0⟩, ⟨7, false, 0⟩] 0 = .inr (1, [⟨4, false, 0⟩, ⟨7, false, 0⟩], 0) := by
  unfold nextR
  rw [if_pos may_ex]
  rfl

theorem lives_spec (w : World) : CallsR Try.prog 10 #[] w fun r w' => r = .bool true ∧ Upd w w' [] := by
  apply flotillalaw14_lives_sound
  unfold flotillalaw14_lives_x
  rw [step_run (show (sBuild 31 [(0, .int .i64 4), (1, .bool true)]).run Try.prog w = .ok (.value (.agg (frV ⟨4, true, 0⟩).toArray)) w by kernel_rfl)]
  rw [step_run (show (sBuild 31 [(0, .int .i64 7)]).run Try.prog w = .ok (.value (.agg (frV ⟨7, false, 0⟩).toArray)) w by kernel_rfl)]
  refine st_newRow (e := 31) (cs := (framesV [⟨4, true, 0⟩, ⟨7, false, 0⟩]).toArray) (n := 2) (c := 2) (fun w => by kernel_rfl) (Upd.refl w []) (Owns.nil w) ?_
  intro g w1 hU1 hO1 hg
  rw [step_run (show (sBuild 24 [(0, .slice (some ⟨g, 0, none⟩) 2 2)]).run Try.prog w1 = .ok (.value (.agg #[.slice (some ⟨g, 0, none⟩) 2 2, .int .i64 0])) w1 by kernel_rfl)]
  refine st_call (Next_spec w1 _ [⟨4, true, 0⟩, ⟨7, false, 0⟩] 0 ⟨_, _, rfl, by decide, rd_own rfl (hO1.at_ 0 rfl)⟩) ?_
  rw [next_ex]
  rintro _ w2 ⟨g3, _, ⟨rfl, hm, hO2, hU2, hg3⟩, rfl⟩
  rw [px_ext30, px_ext31, px_ext32]
  have hU2 := hU1.trans hU2
  refine st_alloc ze24 hU2 hO2 ?_
  intro g4 w3 hU3 hO3 hg4
  refine st_ring hU3 hO3 0 rfl rfl rfl (.inr hg4) ?_
  intro w4 hU4 hO4 d0 d1
  have f0 : w4.cell? ⟨g3, 0, none⟩ = some (.int .i64 4) := cell_at (hO4.at_ 1 rfl)
  have f1 : w4.cell? ⟨g3, 1, none⟩ = some (.bool false) := cell_at (hO4.at_ 1 rfl)
  simp (disch := first | assumption | omega) only [PX, BX, LX, add_mk, Nat.reduceAdd]
  refine ⟨fun _ => ⟨fun _ => ⟨fun _ => ?_, fun h => absurd rfl h⟩, fun h => absurd trivial h⟩, fun h => absurd rfl h⟩
  rw [step_run (run_idxS u22 sz31 (by decide) (by decide))]
  simp (disch := first | assumption | omega) only [PX, BX, LX, add_mk, Nat.reduceAdd, Int.toNat_zero, Nat.zero_mul, Bool.not_false]
  rw [step_run (run_idxS u22 sz31 (by decide) (by decide))]
  simp (disch := first | assumption | omega) only [PX, BX, LX, add_mk, Nat.reduceAdd, Int.toNat_zero, Nat.zero_mul]
  exact ⟨fun _ => ⟨rfl, hU4⟩, fun h => absurd trivial h⟩

end Go.Proofs.Ytnghnolpohahpaa
