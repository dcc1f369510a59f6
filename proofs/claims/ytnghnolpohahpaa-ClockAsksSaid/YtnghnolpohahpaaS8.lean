/- New rings are the document's. -/
import Derived.Test.YtnghnolpohahpaaS7
import Derived.Test.YtnghnolpohahpaaE
namespace Go.Proofs.Ytnghnolpohahpaa
open Go Xf Go.RowKit
set_option maxRecDepth 100000
set_option linter.unusedVariables false
set_option linter.unusedSimpArgs false
theorem eqF_frame (a b : Fr) (w : World) : (eqF3 9999 (frV a).toArray (frV b).toArray [(true, 3, 0), (true, 4, 1), (true, 3, 2)]).run Try.prog w = .ok (decide (a = b)) w := by
  have p0 : ∀ f : Fr, (part 3 (frV f).toArray 0).run Try.prog w = .ok (.int .i64 f.page) w := fun f => by kernel_rfl
  have p1 : ∀ f : Fr, (part 4 (frV f).toArray 1).run Try.prog w = .ok (.bool f.used) w := fun f => by kernel_rfl
  have p2 : ∀ f : Fr, (part 3 (frV f).toArray 2).run Try.prog w = .ok (.int .i64 f.pins) w := fun f => by kernel_rfl
  have e0 : ∀ x y : Int, (Op.equalIn 9999 3 (.int .i64 x) (.int .i64 y)).run Try.prog w = .ok (x == y) w := fun x y => run_equalIn_int w 9998 3 .i64 .i64 x y u3
  have e1 : ∀ x y : Bool, (Op.equalIn 9999 4 (.bool x) (.bool y)).run Try.prog w = .ok (x == y) w := fun x y => run_equalIn_bool' w 9998 4 x y u4
  simp only [eqF3, Sem.run_bind, p0, p1, p2, e0, e1, Result.andThen_ok]
  obtain ⟨a0, a1, a2⟩ := a
  obtain ⟨b0, b1, b2⟩ := b
  simp only [Fr.mk.injEq]
  by_cases h0 : a0 = b0 <;> by_cases h1 : a1 = b1 <;> by_cases h2 : a2 = b2 <;> simp [h0, h1, h2, Sem.run_bind, e1, p0, p1, p2, e0]

theorem frame_eq (a b : Fr) (w : World) : (∀ x y : Operand, (sBin .eql 31 x y (.agg (frV a).toArray) (.agg (frV b).toArray)).run Try.prog w = .ok (.value (.bool (decide (a = b)))) w) ∧ (∀ x y : Operand, (sBin .neq 31 x y (.agg (frV a).toArray) (.agg (frV b).toArray)).run Try.prog w = .ok (.value (.bool (!decide (a = b)))) w) :=
  run_eqS (l := [(true, 3, 0), (true, 4, 1), (true, 3, 2)]) (by kernel_rfl) (by kernel_rfl) (by kernel_rfl) (by kernel_rfl) (eqF_frame a b w)

theorem may_new (n : Nat) (h1 : 1 ≤ n) (h2 : n ≤ 16) : May (newK n n) 0 := by
  refine ⟨by rw [newK_len]; exact h1, by rw [newK_len]; exact h2, by omega, by rw [newK_len]; omega, fun i hi => ?_⟩
  have hi' := hi
  rw [newK_len] at hi'
  rw [newK_at, if_pos hi']
  exact ⟨(by unfold okF; decide : okF ⟨-1, false, 0⟩), fun k hk h => by simp at h⟩

theorem ClockNews_spec (w : World) (n : Int) : CallsR Try.prog 3 #[.int .i64 n] w fun r w' => r = .bool true ∧ Upd w w' [] := by
  apply flotillalaw14_ClockNews_sound
  unfold flotillalaw14_ClockNews_x
  refine st_call (New_spec w n) ?_
  intro r w1 hr
  by_cases hn : n < 1 ∨ 16 < n
  · unfold newR at hr
    rw [if_pos hn] at hr
    obtain ⟨rfl, hU1⟩ := hr
    rw [px_ext20, px_ext21]
    refine st_alloc ze24 hU1 (Owns.nil w1) ?_
    intro g w2 hU2 hO2 hg
    refine st_ring hU2 hO2 0 rfl rfl rfl (.inr hg) ?_
    intro w3 hU3 hO3 d0 d1
    simp (disch := first | assumption | omega) only [PX, BX, LX, add_mk, Nat.reduceAdd]
    have fin : (std Try.prog).calls 10 #[] w3 fun v29_1 w_1 => v29_1 = .bool true ∧ Upd w w_1 [] := st_call (lives_spec w3) fun v w4 h => ⟨h.1, hU3.trans h.2⟩
    refine ⟨fun _ => ⟨fun _ => ⟨fun _ => fin, fun h => absurd rfl h⟩, fun h => absurd rfl h⟩, fun h1 => ⟨fun _ => ⟨fun _ => ⟨fun _ => fin, fun h => absurd rfl h⟩, fun h => absurd rfl h⟩, fun h2 => ?_⟩⟩
    exact absurd hn (by omega)
  · unfold newR at hr
    rw [if_neg hn] at hr
    obtain ⟨g3, _, ⟨rfl, hm, hO1, hU1, hg3⟩, rfl⟩ := hr
    obtain ⟨m, rfl⟩ : ∃ m : Nat, n = m := ⟨n.toNat, by omega⟩
    simp only [show ((m : Nat) : Int).toNat = m by omega, newK_len] at hO1 hm ⊢
    rw [px_ext20, px_ext21]
    refine st_alloc ze24 hU1 hO1 ?_
    intro g w2 hU2 hO2 hg
    refine st_ring hU2 hO2 0 rfl rfl rfl (.inr hg) ?_
    intro w3 hU3 hO3 d0 d1
    simp (disch := first | assumption | omega) only [PX, BX, LX, add_mk, Nat.reduceAdd, ld24]
    refine ⟨fun h => absurd h (by omega), fun _ => ⟨fun h => absurd h (by omega), fun _ => ⟨fun h => absurd rfl h, fun _ => ⟨fun h => absurd rfl h, fun _ => ⟨fun h => absurd rfl h, fun _ => ?_⟩⟩⟩⟩⟩
    have hn1 : 1 ≤ m := by omega
    have hn2 : m ≤ 16 := by omega
    refine st_call (Check_spec w3 _ (newK m m) 0 ⟨some ⟨g3, 0, none⟩, m, by rw [newK_len], by rw [newK_len]; unfold maxLen; omega, by rw [newK_len]; exact rd_own (newK_len m m) (hO3.at_ 1 rfl)⟩) ?_
    rintro _ w4 ⟨rfl, hU4⟩
    have hO4 := hO3.ext hU4
    have hU4 := hU3.trans hU4
    rw [if_pos (may_new m hn1 hn2), px_neq, bool_dec]
    refine ⟨fun h => absurd rfl h, fun _ => ?_⟩
    refine st_loop (fun vs w' => ∃ i : Nat, i ≤ m ∧ vs.getD 1 undef = .int .i64 i ∧ w' = w4) (fun vs _ => m - (intOf (vs.getD 1 undef)).toNat) ⟨0, by omega, rfl, rfl⟩ ?_
    rintro dv vs w5 - ⟨i, hi, e1, rfl⟩
    simp (disch := omega) only [e1, PX, BX]
    refine ⟨fun hlt => ?_, fun hge => ?_⟩
    · have c0 : w5.cell? ⟨g, 0, none⟩ = some (.slice (some ⟨g3, 0, none⟩) m m) := cell_at (hO4.at_ 0 rfl)
      simp (disch := first | assumption | omega) only [PX, BX, LX, add_mk, Nat.reduceAdd]
      have hil : i < (newK m m).length := by rw [newK_len]; omega
      obtain ⟨a, ha, f0, f1, f2⟩ := frame_run (A := some ⟨g3, 0, none⟩) (n := m) (c := m) (w := w5) (rd_own (newK_len m m) (hO4.at_ 1 rfl)) (Upd.refl w5 []) hil
      injection ha with ha
      subst ha
      rw [step_run (run_idxS u22 sz31 (by omega) (by omega))]
      refine ld_frame f0 f1 f2 ?_
      rw [step_run (show (sBuild 31 [(0, .int .i64 (-1))]).run Try.prog w5 = .ok (.value (.agg (frV ⟨-1, false, 0⟩).toArray)) w5 by kernel_rfl)]
      rw [step_run ((frame_eq _ _ _).2 _ _), newK_at, if_pos (by omega)]
      simp (disch := first | assumption | omega) only [PX, BX, decide_true, Bool.not_true, w64]
      refine ⟨⟨i + 1, by omega, rfl, trivial⟩, ?_⟩
      simp only [List.getD_cons_succ, List.getD_cons_zero, intOf]; omega
    · unfold flotillalaw14_ClockNews_k4
      exact st_call (lives_spec w5) fun v w6 h => ⟨h.1, hU4.trans h.2⟩
end Go.Proofs.Ytnghnolpohahpaa
