/- Locks: LockTurns, put together. -/
import Derived.Test.YtakifgecgmdjcaaLkAN
namespace Go.Proofs.Ytakifgecgmdjcaa
open Go Xf Go.RowKit
set_option linter.unusedVariables false
set_option linter.unusedSimpArgs false
set_option maxRecDepth 100000

theorem LockTurns_spec (W : World) {v0 : Value} {ops : List LOp} {o : LOp} (h0 : RdS W opV 4 v0 ops) (hops : ∀ o ∈ ops, okO o) (ho : okO o) :
    CallsR Try.prog 5 #[v0, .agg (opV o).toArray] W fun r w' => r = .bool true ∧ Upd W w' [] := by
  apply flotillalaw13_LockTurns_sound
  unfold flotillalaw13_LockTurns_x
  refine st_box (Upd.refl W []) (Owns.nil W) ?_
  intro b3 w0 hU0 hO0 hb3
  have hO0 : Owns w0 [opBx b3 o] := hO0
  refine st_call (led_spec h0 hU0 hO0) ?_
  rintro _ w1 ⟨g, T, rfl, hg, hR, hT⟩
  have hfine : Fine T 60 := (hR.fine fun o ho => hops o (List.mem_of_mem_take ho)).mono (List.length_take_le ..)
  simp (disch := first | assumption | omega) only [PX, BX]
  rw [step_run (run_sLoad (op_boxload (hT.at_ (List.mem_cons_self ..))))]
  refine st_call (short_spec o w1) ?_
  rintro _ w2 ⟨rfl, hU2⟩
  have hT2 := hT.upd hU2
  simp (disch := first | assumption | omega) only [PX, BX]
  rw [bool_var]
  refine ⟨fun hs => ?_, fun hs => ?_⟩
  rotate_left
  · exact Turns_lives hT2.1 fun w' h => ⟨rfl, h⟩
  refine st_call (Txns_spec hT2 hfine (by omega)) ?_
  rintro v31 w3 ⟨L, ⟨hL, hrL, hT3, -⟩, hlt, hmem, hLl⟩
  obtain ⟨A, c, rfl⟩ := RowH.sl' hrL
  refine st_loop (fun vs w' => ∃ (i : Nat) (ah : List Int) (hA : List (Nat × Obj)), i ≤ L.length ∧ vs.getD 1 undef = .int .i64 i ∧ RowH 3 1 (vs.getD 0 undef) ah.length (intsV .i64 ah) hA ∧ TbAt W [] (hA ++ (hL ++ [opBx b3 o])) T g w' ∧ (∀ p ∈ hA, p.1 ∈ [] ∨ W.heap.size ≤ p.1) ∧ ah.length ≤ i ∧ ∀ y ∈ ah, ∃ wy, aGet T.waits y = some wy ∧ wy.name = o.want.name) (fun vs _ => L.length - (intOf (vs.getD 1 undef)).toNat) ⟨0, [], [], Nat.zero_le _, rfl, RowH.nil_ _ _, hT3, fun p hp => (by cases hp), Nat.le_refl _, fun y hy => (by cases hy)⟩ ?_
  rintro dv vs w4 - ⟨i, ah, hA, hi, e1, hrA, hT4, hmA, hal, hah⟩
  simp (disch := first | assumption | omega) only [e1, PX, BX]
  refine ⟨fun hlti => ?_, fun hge => ?_⟩
  rotate_left
  · exact Turns_k1 hT4 hfine (by omega) ho hs (by simp) hrA (fun p hp => List.mem_append_left _ hp) (by omega) hah
  have hi' : i < L.length := by omega
  obtain ⟨a, c', he1, hc⟩ := int_at (hT4.rdI hrL fun p hp => List.mem_append_right _ (List.mem_append_left _ hp)) hi'
  injection he1 with q1 q2 q3
  subst q1
  simp (disch := first | assumption | omega) only [PX, LX, Nat.mul_one]
  refine st_call (Waits_spec hT4 L[i]) ?_
  rintro _ w5 ⟨rfl, hT5⟩
  simp (disch := first | assumption | omega) only [PX]
  refine st_talloc ze_want hT5 ?_
  intro b9 w6 hT6 hb9
  have hisw : (aGet T.waits L[i]).isSome = true → aGet T.waits L[i] = some ((aGet T.waits L[i]).getD ⟨[], 0⟩) := fun h => by
    obtain ⟨x, hx⟩ := Option.isSome_iff_exists.1 h
    rw [hx]; rfl
  generalize (aGet T.waits L[i]).getD ⟨[], 0⟩ = wt at hisw
  refine st_tstoreN (vs := [strV wt.name, .int .i64 wt.mode]) (by rw [sz30]; rfl) hT6 rfl (by simp [Value.oneCell']) (.inr hb9) ?_
  intro w7 hT7
  have hT7 : TbAt W [] (wtBx b9 wt :: (hA ++ (hL ++ [opBx b3 o]))) T g w7 := hT7
  have hT7' := hT7.weak (List.sublist_cons_self ..)
  have skip : ∀ {w' : World} Q, TbAt W [] (hA ++ (hL ++ [opBx b3 o])) T g w' → flotillalaw13_LockTurns_k6 (std Try.prog) vs (fun vs' w' => (∃ (i : Nat) (ah : List Int) (hA : List (Nat × Obj)), i ≤ L.length ∧ vs'.getD 1 undef = .int .i64 i ∧ RowH 3 1 (vs'.getD 0 undef) ah.length (intsV .i64 ah) hA ∧ TbAt W [] (hA ++ (hL ++ [opBx b3 o])) T g w' ∧ (∀ p ∈ hA, p.1 ∈ [] ∨ W.heap.size ≤ p.1) ∧ ah.length ≤ i ∧ ∀ y ∈ ah, ∃ wy, aGet T.waits y = some wy ∧ wy.name = o.want.name) ∧ L.length - (intOf (vs'.getD 1 undef)).toNat < L.length - (intOf (Value.int .i64 i)).toNat) (vs.getD 0 undef) w' Q := fun {w'} Q h => by
    unfold flotillalaw13_LockTurns_k6
    simp (disch := omega) only [e1, PX, w64]
    refine ⟨⟨i + 1, ah, hA, by omega, rfl, hrA, h, hmA, by omega, hah⟩, ?_⟩
    simp only [List.getD_cons_succ, List.getD_cons_zero, intOf]; omega
  rw [bool_var]
  refine ⟨fun his => ?_, fun his => skip _ hT7'⟩
  obtain ⟨b0, b1⟩ := wt_cells (hT7.at_ (List.mem_cons_self ..))
  obtain ⟨c0, c1, c2, c3⟩ := op_cells (o := o) (b := b3) (hT7.at_ (List.mem_cons_of_mem _ (List.mem_append_right _ (List.mem_append_right _ (List.mem_singleton.2 rfl)))))
  simp (disch := first | assumption | omega) only [PX, BX, LX, add_mk, Nat.reduceAdd, mk_inj]
  refine ⟨fun hnm => ?_, fun hnm => skip _ hT7'⟩
  obtain ⟨a, c', he1, hc⟩ := int_at (hT7'.rdI hrL fun p hp => List.mem_append_right _ (List.mem_append_left _ hp)) hi'
  injection he1 with q1 q2 q3
  injection q1 with q1
  subst q1
  simp (disch := first | assumption | omega) only [PX, LX, Nat.mul_one]
  refine hT7'.push hrA hmA (by omega) L[i] ?_
  intro v' hA' w8 hrA' hT8 hmA'
  unfold flotillalaw13_LockTurns_k6
  simp (disch := omega) only [e1, PX, w64]
  refine ⟨⟨i + 1, _, hA', by omega, rfl, hrA', hT8, hmA', by rw [List.length_append, List.length_singleton]; omega, fun y hy => ?_⟩, ?_⟩
  · rcases List.mem_append.1 hy with hy | hy
    · exact hah y hy
    · rw [List.mem_singleton] at hy; subst hy; exact ⟨wt, hisw his, hnm⟩
  · simp only [List.getD_cons_succ, List.getD_cons_zero, intOf]; omega
end Go.Proofs.Ytakifgecgmdjcaa
