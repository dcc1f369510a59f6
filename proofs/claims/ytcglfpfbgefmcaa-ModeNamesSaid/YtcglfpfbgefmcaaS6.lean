/- Names. -/
import Derived.Test.YtcglfpfbgefmcaaS5
namespace Go.Proofs.Ytcglfpfbgefmcaa
open Go Xf Go.RowKit
set_option linter.unusedVariables false
set_option linter.unusedSimpArgs false
set_option maxRecDepth 100000

def nm (i : Nat) : List UInt8 := match i with
  | 0 => [110, 111, 110, 101] | 1 => [105, 115] | 2 => [105, 120] | 3 => [115] | 4 => [115, 105, 120] | _ => [120]
def nmV : List Value := (List.range 6).map fun i => .string ⟨(nm i).toArray⟩
theorem nm_inj {i j : Nat} (hi : i < 6) (hj : j < 6) (h : nm i = nm j) : i = j := by
  have := all2 (p := fun i j => !(nm i == nm j) || i == j) (by decide +kernel) hi hj
  rw [h] at this
  simpa using this
theorem nb (w : World) : (sBuild 47 [(0, (.string ⟨#[110, 111, 110, 101]⟩)), (1, (.string ⟨#[105, 115]⟩)), (2, (.string ⟨#[105, 120]⟩)), (3, (.string ⟨#[115]⟩)), (4, (.string ⟨#[115, 105, 120]⟩)), (5, (.string ⟨#[120]⟩))]).run Try.prog w = .ok (.value (.agg nmV.toArray)) w := by kernel_rfl
theorem nsb (w : World) : (sBuildSlice 48 6 [(0, (.string ⟨#[110, 111, 110, 101]⟩)), (1, (.string ⟨#[105, 115]⟩)), (2, (.string ⟨#[105, 120]⟩)), (3, (.string ⟨#[115]⟩)), (4, (.string ⟨#[115, 105, 120]⟩)), (5, (.string ⟨#[120]⟩))]).run Try.prog w = .ok (.value (.slice (some ⟨w.heap.size, 0, none⟩) 6 6)) (w.alloc (.cells nmV.toArray 9)) := by kernel_rfl
theorem idx_nm {i : Nat} (hi : i < 6) (w : World) : (sIndex 47 (.agg nmV.toArray) (.int .i64 i)).run Try.prog w = .ok (.value (.string ⟨(nm i).toArray⟩)) w := by
  refine six (p := fun i => (sIndex 47 (.agg nmV.toArray) (.int .i64 (i : Nat))).run Try.prog w = .ok (.value (.string ⟨(nm i).toArray⟩)) w) ?_ ?_ ?_ ?_ ?_ ?_ hi <;> kernel_rfl

theorem Name_spec (w : World) (a : Int) : CallsR Try.prog 22 #[.int .i64 a] w fun r w' => r = .string ⟨(nm (sureN a)).toArray⟩ ∧ w' = w := by
  apply mode_Name_sound
  unfold mode_Name_x
  rw [step_run (nb w)]
  refine st_call (sure_spec w a) ?_
  rintro _ w1 ⟨rfl, rfl⟩
  rw [step_run (idx_nm (sureN_lt a) w1)]
  exact ⟨rfl, rfl⟩

theorem rName_spec (w : World) (a : Int) : CallsR Try.prog 23 #[.int .i64 a] w fun r w' => r = .string ⟨(nm (sureN a)).toArray⟩ ∧ Upd w w' [] := by
  apply flotillaref04_Name_sound
  unfold flotillaref04_Name_x
  refine st_newRow nsb (Upd.refl w []) (Owns.nil w) ?_
  intro g w1 hU1 hO1 hg
  refine st_call (rSure_spec w1 a) ?_
  rintro _ w2 ⟨rfl, rfl⟩
  have hx := sureN_lt a
  rw [step_run (run_idxS u48 sz9 (by omega) (by omega)), add_mk]
  refine st_loadB ag9 hO1 0 rfl (v := .string ⟨(nm (sureN a)).toArray⟩) ?_ ⟨rfl, hU1⟩
  rw [show 0 + ((sureN a : Nat) : Int).toNat * 1 = sureN a by omega]
  simp [nmV, hx]

/-- the mode of a name: the first of the six that has it -/
def parN (s : List UInt8) : Nat × Nat := match (List.range 6).find? fun i => decide (nm i = s) with
  | some i => (i, 0)
  | none => (0, 5)
theorem find_at {s : List UInt8} {m : Nat} (hm : m < 6) (hbelow : ∀ k, k < m → nm k ≠ s) (h : nm m = s) : parN s = (m, 0) := by
  have : (List.range 6).find? (fun i => decide (nm i = s)) = some m := by
    rw [List.find?_eq_some_iff_append]
    refine ⟨by simpa using h, List.range m, (List.range (6 - m - 1)).map (m + 1 + ·), ?_, fun k hk => ?_⟩
    · exact six (p := fun m => List.range 6 = List.range m ++ m :: (List.range (6 - m - 1)).map (m + 1 + ·)) (by decide) (by decide) (by decide) (by decide) (by decide) (by decide) hm
    · simpa using hbelow k (List.mem_range.1 hk)
  unfold parN
  rw [this]
theorem find_no {s : List UInt8} (h : ∀ k, k < 6 → nm k ≠ s) : parN s = (0, 5) := by
  have : (List.range 6).find? (fun i => decide (nm i = s)) = none := by
    rw [List.find?_eq_none]
    intro k hk
    simpa using h k (List.mem_range.1 hk)
  unfold parN
  rw [this]
theorem parN_nm {i : Nat} (hi : i < 6) : parN (nm i) = (i, 0) := find_at hi (fun k hk h => by have := nm_inj (by omega) hi h; omega) rfl

theorem Parse_spec (w : World) (s : List UInt8) : CallsR Try.prog 20 #[.string ⟨s.toArray⟩] w fun r w' => r = .tuple #[.int .i64 (parN s).1, .int .i64 (parN s).2] ∧ w' = w := by
  apply mode_Parse_sound
  unfold mode_Parse_x
  refine st_loop (fun vs w' => ∃ m : Nat, m ≤ 6 ∧ (∀ k, k < m → nm k ≠ s) ∧ vs.getD 2 undef = .int .i64 m ∧ w' = w) (fun vs _ => 6 - (intOf (vs.getD 2 undef)).toNat) ⟨0, by omega, fun k hk => by omega, rfl, rfl⟩ ?_
  rintro dv vs w1 - ⟨m, hm, hb, e2, rfl⟩
  simp (disch := omega) only [e2, PX, BX]
  refine ⟨fun hlt => ?_, fun hge => ?_⟩
  · have hm6 : m < 6 := by omega
    refine st_call (Name_spec w1 _) ?_
    rintro _ w2 ⟨rfl, rfl⟩
    rw [sureN_of hm6]
    simp (disch := omega) only [PX, BX, w64, mk_inj]
    refine ⟨fun h => ?_, fun h => ⟨⟨m + 1, by omega, fun k hk => ?_, rfl, trivial⟩, ?_⟩⟩
    · rw [find_at hm6 hb h]; exact ⟨rfl, trivial⟩
    · by_cases hk2 : k < m
      · exact hb k hk2
      · obtain rfl : k = m := by omega
        exact h
    · simp only [List.getD_cons_succ, List.getD_cons_zero, intOf]; omega
  · obtain rfl : m = 6 := by omega
    unfold mode_Parse_k1
    rw [find_no hb]
    exact ⟨rfl, rfl⟩

theorem rParse_spec (w : World) (s : List UInt8) : CallsR Try.prog 21 #[.string ⟨s.toArray⟩] w fun r w' => r = .tuple #[.int .i64 (parN s).1, .int .i64 (parN s).2] ∧ Upd w w' [] := by
  apply flotillaref04_Parse_sound
  unfold flotillaref04_Parse_x
  refine st_loop (fun vs w' => ∃ m : Nat, m ≤ 6 ∧ (∀ k, k < m → nm k ≠ s) ∧ vs.getD 2 undef = .int .i64 m ∧ Upd w w' []) (fun vs _ => 6 - (intOf (vs.getD 2 undef)).toNat) ⟨0, by omega, fun k hk => by omega, rfl, Upd.refl w []⟩ ?_
  rintro dv vs w1 - ⟨m, hm, hb, e2, hU⟩
  simp (disch := omega) only [e2, PX, BX]
  refine ⟨fun hlt => ?_, fun hge => ?_⟩
  · have hm6 : m < 6 := by omega
    refine st_call (rName_spec w1 _) ?_
    rintro _ w2 ⟨rfl, hU2⟩
    rw [sureN_of hm6]
    simp (disch := omega) only [PX, BX, w64, mk_inj]
    refine ⟨fun h => ?_, fun h => ⟨⟨m + 1, by omega, fun k hk => ?_, rfl, hU.trans hU2⟩, ?_⟩⟩
    · rw [find_at hm6 hb h]; exact ⟨rfl, hU.trans hU2⟩
    · by_cases hk2 : k < m
      · exact hb k hk2
      · obtain rfl : k = m := by omega
        exact h
    · simp only [List.getD_cons_succ, List.getD_cons_zero, intOf]; omega
  · obtain rfl : m = 6 := by omega
    unfold flotillaref04_Parse_k1
    rw [find_no hb]
    exact ⟨rfl, hU⟩

theorem ModeNames_spec (w : World) (a : Int) (s : List UInt8) : CallsR Try.prog 7 #[.int .i64 a, .string ⟨s.toArray⟩] w fun r w' => r = .bool true ∧ Upd w w' [] := by
  apply flotillalaw04_ModeNames_sound
  unfold flotillalaw04_ModeNames_x
  refine st_call (Parse_spec w s) ?_
  rintro _ w1 ⟨rfl, rfl⟩
  rw [px_ext20, px_ext21]
  refine st_call (rParse_spec w1 s) ?_
  rintro _ w2 ⟨rfl, hU2⟩
  rw [px_ext20, px_ext21]
  refine st_call (Name_spec w2 a) ?_
  rintro _ w3 ⟨rfl, rfl⟩
  refine st_call (Parse_spec w3 _) ?_
  rintro _ w4 ⟨rfl, rfl⟩
  rw [px_ext20, px_ext21, parN_nm (sureN_lt a)]
  refine st_call (Name_spec w4 a) ?_
  rintro _ w5 ⟨rfl, rfl⟩
  refine st_call (rName_spec w5 a) ?_
  rintro _ w6 ⟨rfl, hU6⟩
  simp (disch := omega) only [PX, BX]
  refine ⟨fun _ => ⟨fun _ => ⟨fun _ => ⟨fun _ => ?_, fun h => absurd rfl h⟩, fun h => absurd trivial h⟩, fun h => absurd trivial h⟩, fun h => absurd trivial h⟩
  refine st_call (rSure_spec w6 a) ?_
  rintro _ w7 ⟨rfl, rfl⟩
  simp (disch := omega) only [PX, BX]
  refine ⟨fun _ => ?_, fun h => absurd trivial h⟩
  exact st_call (lives_spec w7) fun v w8 h => ⟨h.1, (hU2.trans hU6).trans h.2⟩

end Go.Proofs.Ytcglfpfbgefmcaa
