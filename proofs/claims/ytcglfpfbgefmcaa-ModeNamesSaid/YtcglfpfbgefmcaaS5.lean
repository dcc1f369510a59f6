/- Lists of modes. -/
import Derived.Test.YtcglfpfbgefmcaaS4
import Derived.Test.YtcglfpfbgefmcaaQ
namespace Go.Proofs.Ytcglfpfbgefmcaa
open Go Xf Go.RowKit
set_option linter.unusedVariables false
set_option linter.unusedSimpArgs false
set_option maxRecDepth 100000

theorem e_row (w : World) : (sBuildSlice 37 0 []).run Try.prog w = .ok (.value (.slice (some ⟨w.heap.size, 0, none⟩) 0 0)) (w.alloc (.cells #[] 22)) := by kernel_rfl
theorem o_row (q : Int) (w : World) : (sBuildSlice 37 1 [(0, .int .i64 q)]).run Try.prog w = .ok (.value (.slice (some ⟨w.heap.size, 0, none⟩) 1 1)) (w.alloc (.cells #[.int .i64 q] 22)) := by kernel_rfl

/-- new memory that reads as numbers -/
def NewInts (w w' : World) (v : Value) (l : List Int) : Prop := ∃ h, RowH 22 1 v l.length (intsV .i64 l) h ∧ Owns w' h ∧ Upd w w' []
theorem NewInts.rd {w w' : World} {v : Value} {l : List Int} (h : NewInts w w' v l) : Rd w' 1 v l.length (intsV .i64 l) := by
  obtain ⟨h, hr, hO, _⟩ := h
  exact hr.rd (F := []) (by simpa using hO)

theorem modes_spec (w : World) (v : Value) (l : List Int) (hl : l.length ≤ maxLen) (hr : Rd w 1 v l.length (intsV .i64 l)) :
    CallsR Try.prog 25 #[v] w fun r w' => NewInts w w' r (l.take 60) := by
  apply flotillalaw04_modes_sound
  unfold flotillalaw04_modes_x
  unfold maxLen at hl
  have hr' := hr
  obtain ⟨A, c, rfl, -⟩ := hr'
  refine st_newRow e_row (Upd.refl w []) (Owns.nil w) ?_
  intro g w1 hU1 hO1 hg
  refine st_loop (fun vs w' => ∃ (i : Nat) (h : List (Nat × Obj)), i ≤ 60 ∧ i ≤ l.length ∧ vs.getD 1 undef = .int .i64 i ∧ RowH 22 1 (vs.getD 0 undef) i (intsV .i64 (l.take i)) h ∧ Owns w' h ∧ Upd w w' [] ∧ ∀ p ∈ h, w.heap.size ≤ p.1)
    (fun vs _ => 60 - (intOf (vs.getD 1 undef)).toNat) ⟨0, [_], by omega, by omega, rfl, row_nil 22 g, hO1, hU1, fun p hp => by simp at hp; subst hp; exact hg⟩ ?_
  rintro dv vs w2 - ⟨i, h, hi, hil, e1, hrow, hO, hU, hh⟩
  have fin : (i = 60 ∨ i = l.length) → flotillalaw04_modes_k1 (std Try.prog) (vs.getD 0 undef) w2 fun r w' => NewInts w w' r (l.take 60) := by
    intro he
    have ht : l.take 60 = l.take i := by
      rcases he with rfl | he
      · rfl
      · rw [List.take_of_length_le (by omega), List.take_of_length_le (by omega)]
    unfold flotillalaw04_modes_k1
    refine ⟨h, ?_, hO, hU⟩
    rw [ht, List.length_take, Nat.min_eq_left hil]
    exact hrow
  simp (disch := omega) only [e1, PX, BX]
  refine ⟨fun hlt => ⟨fun h60 => ?_, fun h60 => fin (by omega)⟩, fun hge => fin (by omega)⟩
  have hlt' : i < l.length := by omega
  obtain ⟨A', c', a, he, ha, hcell⟩ := hr.cell hU (i := i) (u := .int .i64 l[i]) (by simp [intsV, hlt'])
  injection he with he _ _
  subst he ha
  rw [step_run (run_idxS u36 sz3 (by omega) (by omega))]
  refine st_load ag3 hcell ?_
  refine st_newRow (o_row _) hU hO ?_
  intro g3 w3 hU3 hO3 hg3
  obtain ⟨inf, hi1, hz, hs, hb⟩ := inf22
  refine st_append (F := [(g3, _)]) u37 hi1 hz hs hb rfl (by omega) hrow (hO3.perm (by simpa using List.perm_append_comm (l₁ := [_]) (l₂ := h))) hU3 (fun p hp => .inr (hh p hp)) (rd_row (n := 1) (c := 1) (xs := intsV .i64 [l[i]]) (hO3.at_ 0 rfl) rfl (by omega) rfl) (intsV_one _ _) (by unfold maxLen; omega) (by omega) ?_
  intro v4 w4 h4 hr4 hO4 hU4 hh4
  simp (disch := omega) only [PX, w64]
  refine ⟨⟨i + 1, h4, by omega, by omega, rfl, ?_, hO4.sub (List.sublist_append_left _ _), hU4, fun p hp => (hh4 p hp).resolve_left (by simp)⟩, ?_⟩
  · rw [List.take_succ_eq_append_getElem hlt', ← intsV_append]; exact hr4
  · simp only [List.getD_cons_succ, List.getD_cons_zero, intOf]; omega

def grp (l : List Int) : Nat := l.foldl (fun m x => joi m (sureN x)) 0
theorem grp_lt (l : List Int) : grp l < 6 := by
  unfold grp
  suffices ∀ m, m < 6 → l.foldl (fun m x => joi m (sureN x)) m < 6 from this 0 (by omega)
  induction l with
  | nil => intro m h; exact h
  | cons x l ih => intro m h; exact ih _ (joi_lt h (sureN_lt x))
theorem grp_snoc (l : List Int) (x : Int) : grp (l ++ [x]) = joi (grp l) (sureN x) := by unfold grp; rw [List.foldl_append]; rfl
def allow (l : List Int) (m : Int) : Bool := l.all fun h => bes (sureN h) (sureN m)
theorem allow_snoc (l : List Int) (x m : Int) : allow (l ++ [x]) m = (allow l m && bes (sureN x) (sureN m)) := by unfold allow; rw [List.all_append]; simp
/-- what goes beside each is what goes beside the join -/
theorem allow_grp (l : List Int) (m : Int) : allow l m = bes (grp l) (sureN m) := by
  have hm := sureN_lt m
  suffices ∀ k, k < 6 → (bes k (sureN m) && l.all fun h => bes (sureN h) (sureN m)) = bes (l.foldl (fun m x => joi m (sureN x)) k) (sureN m) by
    have h := this 0 (by omega)
    rw [show bes 0 (sureN m) = true by unfold bes; simp] at h
    exact h
  induction l with
  | nil => intro k hk; simp
  | cons x l ih =>
    intro k hk
    rw [List.foldl_cons, ← ih _ (joi_lt hk (sureN_lt x)), List.all_cons, ← Bool.and_assoc]
    congr 1
    exact eq_of_beq (all3 (p := fun x y i => (bes x i && bes y i) == bes (joi x y) i) (by decide +kernel) hk (sureN_lt x) hm)

section
variable {w : World} {v : Value} {l : List Int}

theorem Group_spec (w : World) (v : Value) (l : List Int) (hl : l.length ≤ 60) (hr : Rd w 1 v l.length (intsV .i64 l)) :
    CallsR Try.prog 26 #[v] w fun r w' => r = .int .i64 (grp l : Nat) ∧ Upd w w' [] := by
  apply mode_Group_sound
  unfold mode_Group_x
  have hr' := hr
  obtain ⟨A, c, rfl, -⟩ := hr'
  simp (disch := omega) only [PX]
  refine st_loop (fun vs w' => ∃ i : Nat, i ≤ l.length ∧ vs.getD 1 undef = .int .i64 (grp (l.take i) : Nat) ∧ vs.getD 2 undef = .int .i64 i ∧ Upd w w' [])
    (fun vs _ => 60 - (intOf (vs.getD 2 undef)).toNat) ⟨0, by omega, rfl, rfl, Upd.refl w []⟩ ?_
  rintro dv vs w1 - ⟨i, hi, e1, e2, hU⟩
  simp (disch := omega) only [e1, e2, PX, BX]
  refine ⟨fun hlt => ?_, fun hge => ?_⟩
  · have hlt' : i < l.length := by omega
    obtain ⟨A', c', a, he, ha, hcell⟩ := hr.cell hU (i := i) (u := .int .i64 l[i]) (by simp [intsV, hlt'])
    injection he with he _ _
    subst he ha
    rw [step_run (run_idxS u37 sz22 (by omega) (by omega))]
    refine st_load ag22 hcell ?_
    refine st_call (Join_spec w1 _ _) ?_
    rintro _ w2 ⟨rfl, hU2⟩
    rw [sureN_of (grp_lt _)]
    simp (disch := omega) only [PX, w64]
    refine ⟨⟨i + 1, by omega, ?_, rfl, hU.trans hU2⟩, ?_⟩
    · rw [List.take_succ_eq_append_getElem hlt', grp_snoc]; rfl
    · simp only [List.getD_cons_succ, List.getD_cons_zero, intOf]; omega
  · obtain rfl : i = l.length := by omega
    unfold mode_Group_k1
    rw [List.take_length]
    exact ⟨rfl, hU⟩

theorem rGroup_spec (w : World) (v : Value) (l : List Int) (hl : l.length ≤ 60) (hr : Rd w 1 v l.length (intsV .i64 l)) :
    CallsR Try.prog 27 #[v] w fun r w' => r = .int .i64 (grp l : Nat) ∧ Upd w w' [] := by
  apply flotillaref04_Group_sound
  unfold flotillaref04_Group_x
  have hr' := hr
  obtain ⟨A, c, rfl, -⟩ := hr'
  refine st_loop (fun vs w' => ∃ i : Nat, i ≤ l.length ∧ vs.getD 0 undef = .int .i64 (grp (l.take i) : Nat) ∧ vs.getD 1 undef = .int .i64 i ∧ Upd w w' [])
    (fun vs _ => 60 - (intOf (vs.getD 1 undef)).toNat) ⟨0, by omega, rfl, rfl, Upd.refl w []⟩ ?_
  rintro dv vs w1 - ⟨i, hi, e1, e2, hU⟩
  simp (disch := omega) only [e1, e2, PX, BX]
  refine ⟨fun hlt => ?_, fun hge => ?_⟩
  · have hlt' : i < l.length := by omega
    obtain ⟨A', c', a, he, ha, hcell⟩ := hr.cell hU (i := i) (u := .int .i64 l[i]) (by simp [intsV, hlt'])
    injection he with he _ _
    subst he ha
    rw [step_run (run_idxS u37 sz22 (by omega) (by omega))]
    refine st_load ag22 hcell ?_
    refine st_call (rJoin_spec w1 _ _) ?_
    rintro _ w2 ⟨rfl, rfl⟩
    rw [sureN_of (grp_lt _)]
    simp (disch := omega) only [PX, w64]
    refine ⟨⟨i + 1, by omega, ?_, rfl, hU⟩, ?_⟩
    · rw [List.take_succ_eq_append_getElem hlt', grp_snoc]; rfl
    · simp only [List.getD_cons_succ, List.getD_cons_zero, intOf]; omega
  · obtain rfl : i = l.length := by omega
    unfold flotillaref04_Group_k1
    rw [List.take_length]
    exact ⟨rfl, hU⟩

theorem allow_false {l : List Int} {i : Nat} (hi : i < l.length) {m : Int} (h : bes (sureN l[i]) (sureN m) = false) : allow l m = false := by
  unfold allow
  rw [List.all_eq_false]
  exact ⟨l[i], List.getElem_mem hi, by simp [h]⟩

theorem Allowed_spec (w : World) (v : Value) (l : List Int) (m : Int) (hl : l.length ≤ 60) (hr : Rd w 1 v l.length (intsV .i64 l)) :
    CallsR Try.prog 28 #[v, .int .i64 m] w fun r w' => r = .bool (allow l m) ∧ Upd w w' [] := by
  apply mode_Allowed_sound
  unfold mode_Allowed_x
  have hr' := hr
  obtain ⟨A, c, rfl, -⟩ := hr'
  simp (disch := omega) only [PX]
  refine st_loop (fun vs w' => ∃ i : Nat, i ≤ l.length ∧ allow (l.take i) m = true ∧ vs.getD 2 undef = .int .i64 i ∧ Upd w w' [])
    (fun vs _ => 60 - (intOf (vs.getD 2 undef)).toNat) ⟨0, by omega, rfl, rfl, Upd.refl w []⟩ ?_
  rintro dv vs w1 - ⟨i, hi, hall, e2, hU⟩
  simp (disch := omega) only [e2, PX, BX]
  refine ⟨fun hlt => ?_, fun hge => ?_⟩
  · have hlt' : i < l.length := by omega
    obtain ⟨A', c', a, he, ha, hcell⟩ := hr.cell hU (i := i) (u := .int .i64 l[i]) (by simp [intsV, hlt'])
    injection he with he _ _
    subst he ha
    rw [step_run (run_idxS u37 sz22 (by omega) (by omega))]
    refine st_load ag22 hcell ?_
    refine st_call (Beside_spec w1 _ _) ?_
    rintro _ w2 ⟨rfl, hU2⟩
    simp (disch := omega) only [PX, BX, w64]
    rw [bool_var]
    refine ⟨fun h => ⟨⟨i + 1, by omega, ?_, rfl, hU.trans hU2⟩, ?_⟩, fun h => ⟨?_, hU.trans hU2⟩⟩
    · rw [List.take_succ_eq_append_getElem hlt', allow_snoc, hall, h]; rfl
    · simp only [List.getD_cons_succ, List.getD_cons_zero, intOf]; omega
    · rw [allow_false hlt' h]
  · obtain rfl : i = l.length := by omega
    unfold mode_Allowed_k1
    rw [List.take_length] at hall
    rw [hall]
    exact ⟨rfl, hU⟩

theorem rAllowed_spec (w : World) (v : Value) (l : List Int) (m : Int) (hl : l.length ≤ 60) (hr : Rd w 1 v l.length (intsV .i64 l)) :
    CallsR Try.prog 29 #[v, .int .i64 m] w fun r w' => r = .bool (allow l m) ∧ Upd w w' [] := by
  apply flotillaref04_Allowed_sound
  unfold flotillaref04_Allowed_x
  have hr' := hr
  obtain ⟨A, c, rfl, -⟩ := hr'
  refine st_loop (fun vs w' => ∃ i : Nat, i ≤ l.length ∧ allow (l.take i) m = true ∧ vs.getD 1 undef = .int .i64 i ∧ Upd w w' [])
    (fun vs _ => 60 - (intOf (vs.getD 1 undef)).toNat) ⟨0, by omega, rfl, rfl, Upd.refl w []⟩ ?_
  rintro dv vs w1 - ⟨i, hi, hall, e2, hU⟩
  simp (disch := omega) only [e2, PX, BX]
  refine ⟨fun hlt => ?_, fun hge => ?_⟩
  · have hlt' : i < l.length := by omega
    obtain ⟨A', c', a, he, ha, hcell⟩ := hr.cell hU (i := i) (u := .int .i64 l[i]) (by simp [intsV, hlt'])
    injection he with he _ _
    subst he ha
    rw [step_run (run_idxS u37 sz22 (by omega) (by omega))]
    refine st_load ag22 hcell ?_
    refine st_call (rBeside_spec w1 _ _) ?_
    rintro _ w2 ⟨rfl, rfl⟩
    simp (disch := omega) only [PX, BX, w64]
    rw [bool_var]
    refine ⟨fun h => ⟨⟨i + 1, by omega, ?_, rfl, hU⟩, ?_⟩, fun h => ⟨?_, hU⟩⟩
    · rw [List.take_succ_eq_append_getElem hlt', allow_snoc, hall, h]; rfl
    · simp only [List.getD_cons_succ, List.getD_cons_zero, intOf]; omega
    · rw [allow_false hlt' h]
  · obtain rfl : i = l.length := by omega
    unfold flotillaref04_Allowed_k1
    rw [List.take_length] at hall
    rw [hall]
    exact ⟨rfl, hU⟩
end

theorem ModeJoins_spec (w : World) (v : Value) (l : List Int) (m : Int) (hl : l.length ≤ maxLen) (hr : Rd w 1 v l.length (intsV .i64 l)) :
    CallsR Try.prog 9 #[v, .int .i64 m] w fun r w' => r = .bool true ∧ Upd w w' [] := by
  apply flotillalaw04_ModeJoins_sound
  unfold flotillalaw04_ModeJoins_x
  refine st_call (modes_spec w v l hl hr) ?_
  rintro x w1 hN
  have hx := hN.rd
  obtain ⟨_, _, _, hU1⟩ := hN
  have hl6 : (l.take 60).length ≤ 60 := by simp; omega
  refine st_call (Allowed_spec w1 x _ m hl6 hx) ?_
  rintro _ w2 ⟨rfl, hU2⟩
  refine st_call (Group_spec w2 x _ hl6 (hx.mono hU2)) ?_
  rintro _ w3 ⟨rfl, hU3⟩
  refine st_call (Beside_spec w3 _ m) ?_
  rintro _ w4 ⟨rfl, hU4⟩
  rw [sureN_of (grp_lt _), allow_grp]
  simp (disch := omega) only [PX, BX, beq_self_eq_true]
  exact st_call (lives_spec w4) fun v w5 h => ⟨h.1, ((hU1.trans hU2).trans hU3).trans (hU4.trans h.2)⟩

theorem ModeGroups_spec (w : World) (v : Value) (l : List Int) (m : Int) (hl : l.length ≤ maxLen) (hr : Rd w 1 v l.length (intsV .i64 l)) :
    CallsR Try.prog 8 #[v, .int .i64 m] w fun r w' => r = .bool true ∧ Upd w w' [] := by
  apply flotillalaw04_ModeGroups_sound
  unfold flotillalaw04_ModeGroups_x
  refine st_call (modes_spec w v l hl hr) ?_
  rintro x w1 hN
  have hx := hN.rd
  obtain ⟨_, _, _, hU1⟩ := hN
  have hl6 : (l.take 60).length ≤ 60 := by simp; omega
  refine st_call (Group_spec w1 x _ hl6 hx) ?_
  rintro _ w2 ⟨rfl, hU2⟩
  refine st_call (rGroup_spec w2 x _ hl6 (hx.mono hU2)) ?_
  rintro _ w3 ⟨rfl, hU3⟩
  simp (disch := omega) only [PX, BX]
  refine ⟨fun _ => ?_, fun h => absurd trivial h⟩
  have hU := (hU1.trans hU2).trans hU3
  refine st_call (Allowed_spec w3 x _ m hl6 (hx.mono (hU2.trans hU3))) ?_
  rintro _ w4 ⟨rfl, hU4⟩
  refine st_call (rAllowed_spec w4 x _ m hl6 (hx.mono ((hU2.trans hU3).trans hU4))) ?_
  rintro _ w5 ⟨rfl, hU5⟩
  simp (disch := omega) only [PX, BX, beq_self_eq_true]
  exact st_call (lives_spec w5) fun v w6 h => ⟨h.1, (hU.trans hU4).trans (hU5.trans h.2)⟩

end Go.Proofs.Ytcglfpfbgefmcaa
