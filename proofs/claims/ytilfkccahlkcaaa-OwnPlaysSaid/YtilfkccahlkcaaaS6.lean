/- Fail. -/
import Derived.Test.YtilfkccahlkcaaaS5
namespace Go.Proofs.Ytilfkccahlkcaaa
open Go Xf Go.RowKit
set_option linter.unusedVariables false
set_option linter.unusedSimpArgs false
set_option maxRecDepth 100000

def failX (inst : Int) (x : Lf) : Lf := if x.owner = inst then ⟨0, true, false, x.fast, without x.waits inst⟩ else { x with waits := without x.waits inst }
def failL (xs : List Lf) (inst : Int) : List Lf × List Int := if 1 ≤ inst ∧ inst ≤ 8 then (xs.map (failX inst), hasUp xs inst xs.length) else (xs, [])

section
variable {W w : World} {F : List (Nat × Obj)} {gb : Nat} {xs : List Lf}
theorem BookI.sub {F' : List (Nat × Obj)} {vl : Value} {hl : List (Nat × Obj)} {bs : List LB} (h : BookI W F gb vl hl bs w) (hs : F'.Sublist F) : BookI W F' gb vl hl bs w :=
  h.ext (h.own.sub (List.Sublist.append (List.Sublist.refl _) (List.Sublist.append (List.Sublist.refl _) hs))) h.upd
theorem Bk.sub {F' : List (Nat × Obj)} (h : Bk W F gb xs w) (hs : F'.Sublist F) : Bk W F' gb xs w := by
  obtain ⟨vl, hl, bs, hB, hx⟩ := h
  exact ⟨vl, hl, bs, hB.sub hs, hx⟩
theorem BookI.perm {F' : List (Nat × Obj)} {vl : Value} {hl : List (Nat × Obj)} {bs : List LB} (h : BookI W F gb vl hl bs w) (hs : F.Perm F') : BookI W F' gb vl hl bs w :=
  h.ext (h.own.perm (List.Perm.append_left _ (List.Perm.append_left _ hs))) h.upd
theorem Bk.perm {F' : List (Nat × Obj)} (h : Bk W F gb xs w) (hs : F.Perm F') : Bk W F' gb xs w := by
  obtain ⟨vl, hl, bs, hB, hx⟩ := h
  exact ⟨vl, hl, bs, hB.perm hs, hx⟩

theorem Fail_spec (h : Bk W F gb xs w) (hn : xs.length ≤ 100) (hN : ∀ x ∈ xs, x.waits.length ≤ 900) (inst : Int) : CallsR Try.prog 13 #[.pointer (some ⟨gb, 0, none⟩), .int .i64 inst] w fun r w' => ∃ hr, RowH 3 1 r (failL xs inst).2.length (intsV .i64 (failL xs inst).2) hr ∧ Bk W (hr ++ F) gb (failL xs inst).1 w' ∧ ∀ p ∈ hr, W.heap.size ≤ p.1 := by
  obtain ⟨vl, hl, bs, hB, rfl⟩ := h
  apply own_Book_Fail_sound
  unfold own_Book_Fail_x
  refine st_box hB.upd hB.own ?_
  intro gc w1 hU1 hO1 hgc
  have hB : BookI W ((gc, .cells #[.int .i64 inst] 3 (0, 0)) :: F) gb vl hl bs w1 := hB.join (hr := [(gc, .cells #[.int .i64 inst] 3 (0, 0))]) hO1 hU1
  have hcw : ∀ {w' : World} {F'} {vl hl bs}, BookI W (F' ++ ((gc, .cells #[.int .i64 inst] 3 (0, 0)) :: F)) gb vl hl bs w' → w'.cell? ⟨gc, 0, none⟩ = some (.int .i64 inst) := fun h => cell_at (h.own.2 (gc, Obj.cells #[.int .i64 inst] 3 (0, 0)) (List.mem_append_right _ (List.mem_append_right _ (List.mem_append_right _ (.head _)))))
  have cb := hcw (F' := []) hB
  simp (disch := first | assumption | omega) only [NP, BX, LX]
  refine st_call (known_spec inst w1) ?_
  rintro _ w2 ⟨rfl, he⟩
  subst w2
  simp only [PX]
  rw [bool_not, bool_dec]
  refine ⟨fun hk => ?_, fun hk => ?_⟩
  rotate_left
  · unfold failL
    rw [if_neg hk]
    exact ⟨[], RowH.nil_ _ _, ⟨vl, hl, bs, hB.sub (.cons _ (List.Sublist.refl _)), rfl⟩, fun p hp => by cases hp⟩
  have hB0 := hB.cellB
  obtain ⟨A, c, hv⟩ := hB.len
  subst hv
  rw [List.length_map] at hn
  simp (disch := first | assumption | omega) only [PX, BX, LX, add_mk, Nat.zero_add]
  generalize hxs : bs.map LB.x = xs at *
  have hxl : bs.length = xs.length := by rw [← hxs, List.length_map]
  rw [hxl] at hn hB ⊢
  refine st_loop (fun vs w' => ∃ (i : Nat) (hr : List (Nat × Obj)) (bs : List LB), i ≤ xs.length ∧ vs.getD 3 undef = .int .i64 i ∧ RowH 3 1 (vs.getD 2 undef) (hasUp xs inst i).length (intsV .i64 (hasUp xs inst i)) hr ∧ BookI W (hr ++ ((gc, .cells #[.int .i64 inst] 3 (0, 0)) :: F)) gb (.slice A xs.length c) hl bs w' ∧ bs.length = xs.length ∧ (∀ (j : Nat) (h1 : j < bs.length) (h2 : j < xs.length), bs[j].x = if j < i then failX inst xs[j] else xs[j]) ∧ ∀ p ∈ hr, W.heap.size ≤ p.1)
    (fun vs _ => xs.length - (intOf (vs.getD 3 undef)).toNat) ⟨0, [], bs, by omega, rfl, RowH.nil_ _ _, hB, hxl, fun j h1 h2 => by rw [if_neg (by omega)]; subst hxs; simp, fun p hp => by cases hp⟩ ?_
  clear hB hB0 hxs hxl cb hO1 hU1
  rintro dv vs w2 - ⟨i, hr, bs, hi, e3, hrow, hB, hbl, hbx, hhr⟩
  simp (disch := omega) only [e3, PX, BX]
  refine ⟨fun hlt => ?_, fun hge => ?_⟩
  · have hlt' : i < xs.length := by omega
    have hib : i < bs.length := by omega
    obtain ⟨a, c', he, hc⟩ := hB.pt hib
    injection he with he1 _ _
    subst he1
    obtain ⟨v, hh, hrw, hO, hU, hhs, hg⟩ := hB.focus hib
    have hx : bs[i].x = xs[i] := by rw [hbx i hib hlt', if_neg (by omega)]
    have c4 : w2.cell? ⟨bs[i].g, 4, none⟩ = some v := cell_at (hO.at_ 0 rfl)
    have hN1 := hN xs[i] (List.getElem_mem hlt')
    simp (disch := first | assumption | omega) only [PX, LX, Nat.mul_one, LB.p, BX, add_mk, Nat.zero_add]
    rw [step_run (mk_is gc w2)]
    have hP : ((bs[i].g, leafO bs[i].x v) :: (hh ++ restB (hr ++ ((gc, .cells #[.int .i64 inst] 3 (0, 0)) :: F)) gb (.slice (some a) xs.length c) hl bs i)).Perm (hh ++ ((bs[i].g, leafO bs[i].x v) :: restB (hr ++ ((gc, .cells #[.int .i64 inst] 3 (0, 0)) :: F)) gb (.slice (some a) xs.length c) hl bs i)) := List.perm_middle.symm
    refine st_call (DeleteFunc_spec (inst := inst) hU hrw (hO.perm hP) hhs (.tail _ (List.mem_append_right _ (List.mem_append_right _ (List.mem_append_right _ (.head _))))) (by rw [hx]; omega)) ?_
    rintro v3 w3 ⟨h3, hr3, hO3, hU3, hh3⟩
    have hO3 := hO3.perm List.perm_middle
    refine st_storeB sz36 hr3.one hU3 hO3 0 rfl (by simp [leafO, cellsL]) (.inr (Nat.zero_le _)) (.inr hg) ?_
    intro w4 hU4 hO4
    let H := (bs[i].g, leafO { xs[i] with waits := without xs[i].waits inst } v3) :: (h3 ++ restB (hr ++ ((gc, .cells #[.int .i64 inst] 3 (0, 0)) :: F)) gb (.slice (some a) xs.length c) hl bs i)
    have hO4 : Owns w4 H := by
      simp only [H, ← hx]
      exact hO4
    have hS : SU W H w4.drew := SU.drew hU4 hO4
    have hne : ∃ w', SU W H w' := ⟨_, hS⟩
    have d0 : ∀ w', SU W H w' → w'.cell? ⟨bs[i].g, 0, none⟩ = some (.int .i64 xs[i].owner) := fun w' h => cell_at (h.2.at_ 0 rfl)
    have dc : ∀ w', SU W H w' → w'.cell? ⟨gc, 0, none⟩ = some (.int .i64 inst) := fun w' h => cell_at (h.2.2 (gc, Obj.cells #[.int .i64 inst] 3 (0, 0)) (.tail _ (List.mem_append_right _ (List.mem_append_right _ (List.mem_append_right _ (List.mem_append_right _ (.head _)))))))
    have hr3' : RowO 3 v3 (without xs[i].waits inst).length (intsV .i64 (without xs[i].waits inst)) h3 := by rw [← hx]; exact hr3
    have hne9 : (without xs[i].waits inst).length ≤ 900 := Nat.le_trans (without_len _ _) hN1
    refine st_draw (SU W H) hS ?_
    simp (disch := first | assumption | omega) only [SX, SLX, BX]
    have step : ∀ (x' : Lf) (w5 : World) (hL : LeafI W (restB (hr ++ ((gc, .cells #[.int .i64 inst] 3 (0, 0)) :: F)) gb (.slice (some a) xs.length c) hl bs i) bs[i].g x' w5), x' = failX inst xs[i] → ∃ bs' : List LB, BookI W (hr ++ ((gc, .cells #[.int .i64 inst] 3 (0, 0)) :: F)) gb (.slice (some a) xs.length c) hl bs' w5 ∧ bs'.length = xs.length ∧ (∀ (j : Nat) (h1 : j < bs'.length) (h2 : j < xs.length), bs'[j].x = if j < i + 1 then failX inst xs[j] else xs[j]) := by
      intro x' w5 hL hx'
      obtain ⟨b', hbx', _, hB'⟩ := hB.back (ho := []) hib hL
      refine ⟨bs.set i b', hB', by rw [List.length_set]; exact hbl, fun j h1 h2 => ?_⟩
      rw [List.getElem_set]
      split
      · rename_i he; subst he
        rw [if_pos (by omega), hbx', hx']
      · rename_i he
        rw [hbx j (by simpa using h1) h2]
        by_cases hji : j < i
        · rw [if_pos hji, if_pos (by omega)]
        · rw [if_neg hji, if_neg (by omega)]
    have hat : lfAt xs (i : Int) = xs[i] := lfAt_nat hlt'
    refine ⟨fun ho => ?_, fun ho => ?_⟩
    · have hup : hasUp xs inst (i + 1) = hasUp xs inst i ++ [(i : Int)] := by rw [hasUp_succ, hat, if_pos ho]
      refine st_storeB sz3 rfl hS.1 hS.2 0 rfl (by simp [leafO, cellsL]) (.inr (Nat.zero_le _)) (.inr hg) ?_
      intro w5 hU5 hO5
      have hO5 : Owns w5 ((bs[i].g, leafO { xs[i] with waits := without xs[i].waits inst, owner := 0 } v3) :: (h3 ++ restB (hr ++ ((gc, .cells #[.int .i64 inst] 3 (0, 0)) :: F)) gb (.slice (some a) xs.length c) hl bs i)) := hO5
      refine st_storeB sz4 rfl hU5 hO5 0 rfl (by simp [leafO, cellsL]) (.inr (Nat.zero_le _)) (.inr hg) ?_
      intro w6 hU6 hO6
      have hO6 : Owns w6 ((bs[i].g, leafO { xs[i] with waits := without xs[i].waits inst, owner := 0, called := false } v3) :: (h3 ++ restB (hr ++ ((gc, .cells #[.int .i64 inst] 3 (0, 0)) :: F)) gb (.slice (some a) xs.length c) hl bs i)) := hO6
      refine st_storeB sz4 rfl hU6 hO6 0 rfl (by simp [leafO, cellsL]) (.inr (Nat.zero_le _)) (.inr hg) ?_
      intro w7 hU7 hO7
      obtain ⟨bs', hB', hbl', hbx'⟩ := step ⟨0, true, false, xs[i].fast, without xs[i].waits inst⟩ w7 ⟨v3, h3, hr3', hO7, hU7, hh3, hg⟩ (by unfold failX; rw [if_pos ho])
      refine st_newRow (a_row36 i) hB'.upd hB'.own ?_
      intro g2 w8 hU8 hO8 hg2
      have hrd2 : Rd w8 1 (.slice (some ⟨g2, 0, none⟩) 1 1) 1 (intsV .i64 [(i : Int)]) := rd_row (hO8.at_ 0 rfl) rfl (by omega) rfl
      obtain ⟨inf, hi1, hz1, hs, hb⟩ := inf3
      have hlen := hasUp_len xs inst i
      have hP2 : ∀ (B : List (Nat × Obj)), (((g2, Obj.cells #[.int .i64 (i : Int)] 3 (0, 0)) :: (bs'.flatMap LB.blk ++ (restO gb (.slice (some a) xs.length c) hl ++ (hr ++ B))))).Perm (hr ++ ((g2, Obj.cells #[.int .i64 (i : Int)] 3 (0, 0)) :: (bs'.flatMap LB.blk ++ (restO gb (.slice (some a) xs.length c) hl ++ B)))) := by
        intro B
        refine (List.Perm.cons _ ?_).trans List.perm_middle.symm
        refine List.Perm.trans (List.Perm.append_left _ (List.perm_append_comm_assoc _ hr _)) ?_
        exact List.perm_append_comm_assoc _ hr _
      refine st_append (ks := []) u36 hi1 hz1 hs hb rfl (by omega) hrow (hO8.perm (hP2 _)) hU8 (fun q hq => .inr (hhr q hq)) hrd2 (intsV_one _ _) (by unfold maxLen; omega) (by omega) ?_
      intro v9 w9 h9 hr9 hO9 hU9 hh9
      unfold own_Book_Fail_k2
      simp (disch := omega) only [e3, PX, w64]
      refine ⟨⟨i + 1, h9, bs', by omega, rfl, ?_, ?_, hbl', hbx', fun q hq => (hh9 q hq).resolve_left (by simp)⟩, ?_⟩
      · rw [hup, List.length_append]
        rw [intsV_append] at hr9
        exact hr9
      · have hBF : BookI W ((gc, .cells #[.int .i64 inst] 3 (0, 0)) :: F) gb (.slice (some a) xs.length c) hl bs' w7 := hB'.sub (List.sublist_append_right _ _)
        exact hBF.join (hO9.sub (List.Sublist.append (List.Sublist.refl _) (.cons _ (List.Sublist.refl _)))) hU9
      · simp only [List.getD_cons_zero, List.getD_cons_succ, intOf]; omega
    · have hup : hasUp xs inst (i + 1) = hasUp xs inst i := by rw [hasUp_succ, hat, if_neg ho, List.append_nil]
      obtain ⟨bs', hB', hbl', hbx'⟩ := step { xs[i] with waits := without xs[i].waits inst } w4.drew ⟨v3, h3, hr3', hS.2, hS.1, hh3, hg⟩ (by unfold failX; rw [if_neg ho])
      unfold own_Book_Fail_k2
      simp (disch := omega) only [e3, PX, w64]
      refine ⟨⟨i + 1, hr, bs', by omega, rfl, ?_, hB', hbl', hbx', hhr⟩, ?_⟩
      · rw [hup]; exact hrow
      · simp only [List.getD_cons_zero, List.getD_cons_succ, intOf]; omega
  · have : i = xs.length := by omega
    subst this
    unfold own_Book_Fail_k1 failL
    rw [if_pos hk]
    refine ⟨hr, hrow, ⟨_, _, bs, hB.sub (List.Sublist.append (List.Sublist.refl _) (.cons _ (List.Sublist.refl _))), ?_⟩, hhr⟩
    apply List.ext_getElem (by simp [hbl])
    intro j h1 h2
    simp only [List.getElem_map]
    have h3 : j < xs.length := by simpa using h2
    rw [hbx j (by simpa using h1) h3, if_pos h3]
end
end Go.Proofs.Ytilfkccahlkcaaa
