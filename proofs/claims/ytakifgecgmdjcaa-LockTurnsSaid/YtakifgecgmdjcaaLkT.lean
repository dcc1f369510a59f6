/- Locks: LockStays, put together. -/
import Derived.Test.YtakifgecgmdjcaaLkR
namespace Go.Proofs.Ytakifgecgmdjcaa
open Go Xf Go.RowKit
set_option linter.unusedVariables false
set_option linter.unusedSimpArgs false
set_option maxRecDepth 100000

section
variable {W w w' : World} {F G : List (Nat × Obj)} {T T' : Tb} {g : Nat} {K : Value → World → Prop}
/-- one more step -/
theorem Stays_k3 {B : Nat} {ops : List LOp} {v1 : Value} {i : Nat} {hl : List (Nat × Obj)} {txn : Int} {vs : List Value} {again : List Value → World → Prop} {Q : Value → World → Prop} (hops : RdS W opV 4 v1 ops) (hi : i < ops.length) (hT : TbAt W [] hl T g w) (e1 : vs.getD 1 undef = .int .i64 i) (hok : okT T B) (hB : B ≤ 499) (hs : shortB ops[i] = true) (hne : ¬ (ops[i].kind = 1 ∧ ops[i].txn = txn))
    (hk : ∀ new w', TbAt W [] hl (stepT T new ops[i]) g w' → flotillalaw13_LockStays_k4 (std Try.prog) (.int .i64 txn) (.pointer (some ⟨g, 0, none⟩)) vs again w' Q) :
    flotillalaw13_LockStays_k3 (std Try.prog) v1 (.int .i64 txn) (.pointer (some ⟨g, 0, none⟩)) vs again w Q := by
  obtain ⟨a, c, rfl, hcell⟩ := op_at hops hi
  have hmax : ops.length ≤ 9223372036854775807 := by obtain ⟨_, _, h1, h2, -⟩ := hops; exact Nat.le_trans h2 (by decide)
  unfold flotillalaw13_LockStays_k3
  have k0 := hcell w hT.1 0 _ rfl
  have k1 := hcell w hT.1 1 _ rfl
  simp (disch := first | assumption | omega) only [e1, PX, BX, LX, add_add']
  unfold stepT at hk
  refine ⟨fun hk0 => ?_, fun hk0 => ⟨fun hk1 => ?_, fun hk1 => ⟨fun hk2 => ?_, fun hk2 => ?_⟩⟩⟩
  · simp only [if_pos hk0] at hk
    have hTd := hT.upd (Upd.drew w [])
    have hex : ∃ w', (fun w' => Upd W w' []) w' := ⟨_, hTd.1⟩
    have s1 : ∀ w', Upd W w' [] → w'.cell? (a.add (i * 4 + 1)) = some (.int .i64 ops[i].txn) := fun w' h => hcell w' h 1 _ rfl
    refine st_draw (fun w' => Upd W w' []) hTd.1 ?_
    simp (disch := first | exact hex | assumption | omega) only [SX, SLX, add_add']
    rw [stepS_run hex fun w' hw => run_sLoad (op_want (hcell w' hw))]
    refine st_call (Ask_spec hTd _ _ (ask_small hok (by omega) _) (by unfold shortB at hs; simp at hs; omega)) ?_
    rintro _ w4 ⟨new, rfl, hT4⟩
    exact st_keepT (fun _ => True) trivial (hk new w4 hT4)
  · simp only [if_neg hk0, if_pos hk1] at hk
    refine st_call (Free_spec hT hok (by omega) _) ?_
    intro _ w4 hG
    exact hk 0 w4 hG.tb
  · simp only [if_neg hk0, if_neg hk1, if_pos hk2] at hk
    refine st_call (Cancel_spec hT hok (by omega) _) ?_
    intro _ w4 hG
    exact hk 0 w4 hG.tb
  · simp only [if_neg hk0, if_neg hk1, if_neg hk2] at hk
    exact hk 0 w hT
theorem LockStays_spec (W : World) {v0 v1 : Value} {ops more : List LOp} (h0 : RdS W opV 4 v0 ops) (h1 : RdS W opV 4 v1 more) (txn : Int) :
    CallsR Try.prog 3 #[v0, v1, .int .i64 txn] W fun r w' => r = .bool true ∧ Upd W w' [] := by
  apply flotillalaw13_LockStays_sound
  unfold flotillalaw13_LockStays_x
  refine st_call (led_spec h0 (Upd.refl W []) (Owns.nil W)) ?_
  rintro _ w1 ⟨g, T, rfl, hg, hR, hT⟩
  simp (disch := first | assumption | omega) only [PX, BX]
  have hok : okT T 60 := hR.ok.mono (List.length_take_le ..)
  refine st_call (Held_spec hT hok (by omega) txn) ?_
  rintro v w2 hH
  obtain ⟨A, c, rfl, hmax, -⟩ := id h1
  have hmx : more.length ≤ 9223372036854775807 := Nat.le_trans hmax (by decide)
  refine st_loop (fun vs w' => ∃ (i : Nat) (T : Tb), i ≤ more.length ∧ i ≤ 40 ∧ vs.getD 1 undef = .int .i64 i ∧ okT T (60 + i) ∧ HeldPost W [] [] (heldT T txn) T g (vs.getD 0 undef) w') (fun vs _ => more.length - (intOf (vs.getD 1 undef)).toNat) ⟨0, T, Nat.zero_le _, Nat.zero_le _, rfl, hok, hH⟩ ?_
  rintro dv vs w3 - ⟨i, T, hi, hi40, e1, hok, hH⟩
  have fin : flotillalaw13_LockStays_k1 (std Try.prog) w3 fun r w' => r = .bool true ∧ Upd W w' [] := by
    unfold flotillalaw13_LockStays_k1
    obtain ⟨hl, -, hT, -⟩ := hH
    exact st_call (lives_spec hT.1 (Owns.nil w3)) fun _ _ h => h
  simp (disch := first | assumption | omega) only [e1, PX, BX]
  refine ⟨fun hlt => ⟨fun hlt4 => ?_, fun hge4 => fin⟩, fun hge => fin⟩
  have hi' : i < more.length := by omega
  obtain ⟨hl, hr, hT, hm⟩ := hH
  rw [List.append_nil] at hT
  obtain ⟨a, c', hac, hcell⟩ := op_at h1 hi'
  injection hac with q1 q2 q3
  subst q1
  have again : ∀ {v' : Value} {w' : World} {T' : Tb}, okT T' (60 + i + 1) → HeldPost W [] [] (heldT T' txn) T' g v' w' → ∀ Q, flotillalaw13_LockStays_k2 (std Try.prog) vs (fun vs' w' => (∃ (i : Nat) (T : Tb), i ≤ more.length ∧ i ≤ 40 ∧ vs'.getD 1 undef = .int .i64 i ∧ okT T (60 + i) ∧ HeldPost W [] [] (heldT T txn) T g (vs'.getD 0 undef) w') ∧ more.length - (intOf (vs'.getD 1 undef)).toNat < more.length - (intOf (Value.int .i64 i)).toNat) v' w' Q := fun {v'} {w'} {T'} hok' hH' Q => by
    unfold flotillalaw13_LockStays_k2
    simp (disch := omega) only [e1, PX, w64]
    refine ⟨⟨i + 1, T', by omega, by omega, rfl, hok', hH'⟩, ?_⟩
    simp only [List.getD_cons_succ, List.getD_cons_zero, intOf]; omega
  have hok1 : okT T (60 + i + 1) := hok.mono (by omega)
  simp (disch := first | assumption | omega) only [PX]
  rw [step_run (run_sLoad (op_load (hcell w3 hT.1)))]
  refine st_call (short_spec more[i] w3) ?_
  rintro _ w4 ⟨rfl, hU4⟩
  have hT4 := hT.upd hU4
  have hH4 : HeldPost W [] [] (heldT T txn) T g (vs.getD 0 undef) w4 := ⟨hl, hr, by rw [List.append_nil]; exact hT4, hm⟩
  simp only [PX]
  rw [bool_var]
  refine ⟨fun hs => again hok1 hH4 _, fun hs => ?_⟩
  have hs : shortB more[i] = true := by simpa using hs
  have k0 := hcell w4 hT4.1 0 _ rfl
  have k1 := hcell w4 hT4.1 1 _ rfl
  simp (disch := first | assumption | omega) only [PX, BX, LX, add_add']
  have go : ¬ (more[i].kind = 1 ∧ more[i].txn = txn) → ∀ Q, flotillalaw13_LockStays_k3 (std Try.prog) (.slice (some a) more.length c) (.int .i64 txn) (.pointer (some ⟨g, 0, none⟩)) vs (fun vs' w' => (∃ (i : Nat) (T : Tb), i ≤ more.length ∧ i ≤ 40 ∧ vs'.getD 1 undef = .int .i64 i ∧ okT T (60 + i) ∧ HeldPost W [] [] (heldT T txn) T g (vs'.getD 0 undef) w') ∧ more.length - (intOf (vs'.getD 1 undef)).toNat < more.length - (intOf (Value.int .i64 i)).toNat) w4 Q := fun hne Q => by
    refine Stays_k3 h1 hi' hT4 e1 hok (by omega) hs hne ?_
    intro new w5 hT5
    have hok5 := stepT_ok new more[i] hok
    refine Stays_k4 hT5 hr (Nat.le_trans (heldT_len hok txn) (by omega)) hok5 (by omega) (fun s => stepT_le hok new more[i] txn hne s) ?_
    intro v' w' hH'
    exact again hok5 hH' Q
  refine ⟨fun hk1 => ⟨fun ht => again hok1 hH4 _, fun ht => go (fun h => ht h.2) _⟩, fun hk1 => go (fun h => hk1 h.1) _⟩
end
end Go.Proofs.Ytakifgecgmdjcaa
