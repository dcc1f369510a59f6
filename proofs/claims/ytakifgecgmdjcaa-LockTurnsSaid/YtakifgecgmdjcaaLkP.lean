/- Locks: lives. -/
import Derived.Test.YtakifgecgmdjcaaLkO
namespace Go.Proofs.Ytakifgecgmdjcaa
open Go Xf Go.RowKit
set_option linter.unusedVariables false
set_option linter.unusedSimpArgs false
set_option maxRecDepth 100000

def lv1 (n : Nat) : Tb := ⟨[([97], (n, ⟨[(1, 3)], [], []⟩))], []⟩
def lv2 (n : Nat) : Tb := ⟨[([97], (n, ⟨[(1, 3)], [], [2]⟩))], [(2, ⟨[97], 5⟩)]⟩
def lv3 (n : Nat) : Tb := ⟨[([97], (n, ⟨[(1, 3)], [], [2, 3]⟩))], [(2, ⟨[97], 5⟩), (3, ⟨[97], 3⟩)]⟩
theorem lv1_eq (n : Nat) : askT ⟨[], []⟩ n 1 ⟨[97], 3⟩ = (lv1 n, true, 0) := by rfl
theorem lv2_eq (n m : Nat) : askT (lv1 n) m 2 ⟨[97], 5⟩ = (lv2 n, false, 0) := by rfl
theorem lv3_eq (n m : Nat) : askT (lv2 n) m 3 ⟨[97], 3⟩ = (lv3 n, false, 0) := by rfl
theorem lv4_eq (n : Nat) : (goneT (lv3 n) 1 true).2 = [(2, ⟨[97], 5⟩)] := by
  unfold goneT
  have : sortS ((lv3 n).names.map (·.1)) = [[97]] := by simp [sortS, lv3]
  rw [this]
  rfl
theorem build_want (a : UInt8) (m : Int) (w : World) : (sBuild 30 [(0, .string ⟨#[a]⟩), (1, .int .i64 m)]).run Try.prog w = .ok (.value (wtV ⟨[a], m⟩)) w := by kernel_rfl
theorem ok_lv {T : Tb} {l : List LOp} (h : Reach l T) (hl : l.length ≤ 500) : okT T 500 := h.ok.mono hl
section
variable {W w w' : World} {F G : List (Nat × Obj)} {T : Tb} {g : Nat} {K : Value → World → Prop}
theorem lives_spec (hU : Upd W w []) (hO : Owns w F) : CallsR Try.prog 13 #[] w fun u w' => u = .bool true ∧ Upd W w' [] := by
  apply flotillalaw13_lives_sound
  unfold flotillalaw13_lives_x
  refine st_call (New_spec hU hO) ?_
  rintro _ w1 ⟨g, rfl, hg, h1⟩
  simp (disch := first | assumption | omega) only [PX, BX]
  rw [step_run (build_want _ _ _)]
  have ok1 : okT (⟨[], []⟩ : Tb) 0 := okT.empty 0
  refine st_call (Ask_spec h1 1 ⟨[97], 3⟩ (ask_small ok1 (by omega) _) (by simp)) ?_
  rintro _ w2 ⟨n, rfl, h2⟩
  have ok2 := askT_ok n 1 ⟨[97], 3⟩ ok1
  rw [lv1_eq] at h2 ok2 ⊢
  unfold askV
  simp (disch := first | assumption | omega) only [PX]
  rw [step_run (build_want _ _ _)]
  refine st_call (Ask_spec h2 2 ⟨[97], 5⟩ (ask_small ok2 (by omega) _) (by simp)) ?_
  rintro _ w3 ⟨m, rfl, h3⟩
  have ok3 := askT_ok m 2 ⟨[97], 5⟩ ok2
  rw [lv2_eq] at h3 ok3 ⊢
  unfold askV
  simp (disch := first | assumption | omega) only [PX]
  rw [step_run (build_want _ _ _)]
  refine st_call (Ask_spec h3 3 ⟨[97], 3⟩ (ask_small ok3 (by omega) _) (by simp)) ?_
  rintro _ w4 ⟨m', rfl, h4⟩
  have ok4 := askT_ok m' 3 ⟨[97], 3⟩ ok3
  rw [lv3_eq] at h4 ok4 ⊢
  unfold askV
  simp (disch := first | assumption | omega) only [PX]
  refine st_call (Free_spec h4 ok4 (by omega) 1) ?_
  rintro u w5 ⟨hl, hr, hT, -⟩
  rw [lv4_eq] at hr
  have hrd := hr.rd (F := F) hT.owns
  obtain ⟨A, c, rfl, hc, -, hx⟩ := hrd
  obtain ⟨a, rfl, ha⟩ := hx 0 (.int .i64 2) rfl
  obtain ⟨a', ha', hb⟩ := hx 2 (.int .i64 5) rfl
  injection ha' with ha'
  subst ha'
  simp (disch := first | assumption | omega) only [PX, BX, LX, List.length_singleton, if_true]
  refine ⟨fun _ => ⟨fun _ => ⟨fun _ => ⟨fun _ => ?_, fun h => absurd rfl h⟩, fun h => absurd trivial h⟩, fun h => absurd trivial h⟩, fun h => absurd trivial h⟩
  have hi : (sIndexAddr 36 (.slice (some a) 1 c) (.int .i64 0)).run Try.prog w5 = .ok (.value (.pointer (some (a.add 0)))) w5 := run_idxS (i := 0) u36 sz76 (by omega) (by omega)
  rw [step_run hi]
  simp (disch := first | assumption | omega) only [PX, BX, LX, add_add', Nat.zero_add]
  refine ⟨fun _ => ?_, fun h => absurd trivial h⟩
  rw [step_run hi]
  simp (disch := first | assumption | omega) only [PX, BX, LX, add_add', Nat.zero_add, Nat.reduceAdd]
  exact ⟨rfl, hT.1⟩
end
end Go.Proofs.Ytakifgecgmdjcaa
