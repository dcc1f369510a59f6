/- Books: Back, Mend, Has. -/
import Derived.Test.YtilfkccahlkcaaaS3
namespace Go.Proofs.Ytilfkccahlkcaaa
open Go Xf Go.RowKit
set_option linter.unusedVariables false
set_option linter.unusedSimpArgs false
set_option maxRecDepth 100000

/-- the places of the leaves that an instance has -/
def hasUp (xs : List Lf) (inst : Int) (k : Nat) : List Int := ((List.range k).filter fun (i : Nat) => decide ((lfAt xs (i : Int)).owner = inst)).map fun (i : Nat) => (i : Int)
theorem hasUp_succ (xs : List Lf) (inst : Int) (k : Nat) : hasUp xs inst (k + 1) = hasUp xs inst k ++ (if (lfAt xs (k : Int)).owner = inst then [(k : Int)] else []) := by
  unfold hasUp
  rw [List.range_succ, List.filter_append, List.map_append]
  congr 1
  by_cases h : (lfAt xs (k : Int)).owner = inst <;> simp [h]
theorem hasUp_len (xs : List Lf) (inst : Int) (k : Nat) : (hasUp xs inst k).length ≤ k := by
  unfold hasUp
  rw [List.length_map]
  exact Nat.le_trans (List.length_filter_le _ _) (by simp)
def hasL (xs : List Lf) (inst : Int) : List Int := if 1 ≤ inst ∧ inst ≤ 8 then hasUp xs inst xs.length else []

section
variable {W w : World} {F : List (Nat × Obj)} {gb : Nat} {xs : List Lf}
theorem Back_spec (h : Bk W F gb xs w) (hN : ∀ x ∈ xs, x.waits.length ≤ 900) (page inst : Int) : CallsR Try.prog 12 #[.pointer (some ⟨gb, 0, none⟩), .int .i64 page, .int .i64 inst] w fun r w' => OpR W F gb (backL xs page inst) r w' := by
  have hbk := h
  obtain ⟨vl, hl, bs, hB, rfl⟩ := h
  apply own_Book_Back_sound
  unfold own_Book_Back_x
  refine st_call (find_spec hB page) ?_
  rintro r w1 ⟨he, hc⟩
  subst w1
  rcases hc with ⟨i, hi, rfl, rfl⟩ | ⟨hn, rfl⟩
  rotate_left
  · simp only [NP, BX]
    exact OpR.no hbk (by unfold backL; rw [if_neg (by rintro ⟨h1, h2, _⟩; rw [List.length_map] at h2; exact hn ⟨h1, h2⟩)])
  simp only [LB.p, NP, BX]
  refine st_call (known_spec inst w) ?_
  rintro _ w1 ⟨rfl, he⟩
  subst w1
  simp only [PX]
  rw [bool_not, bool_dec]
  refine ⟨fun hk => ?_, fun hk => OpR.no hbk (by unfold backL; rw [if_neg (by rintro ⟨_, _, h3, h4⟩; exact hk ⟨h3, h4⟩)])⟩
  obtain ⟨v, hh, hrow, hO, hU, hhs, hg⟩ := hB.focus hi
  have hw9 : bs[i].x.waits.length ≤ 900 := hN _ (List.mem_map.2 ⟨bs[i], List.getElem_mem hi, rfl⟩)
  have hnl : backL (bs.map LB.x) (i : Int) inst = if bs[i].x.owner = inst then ((bs.map LB.x).set i (serveL i { bs[i].x with owner := 0, called := false }).1, (serveL i { bs[i].x with owner := 0, called := false }).2, 0) else (bs.map LB.x, [], 10) := by
    unfold backL
    rw [if_pos ⟨by omega, by rw [List.length_map]; omega, hk.1, hk.2⟩, lfAt_nat (by simpa using hi), List.getElem_map, Int.toNat_natCast]
  have c0 : w.cell? ⟨bs[i].g, 0, none⟩ = some (.int .i64 bs[i].x.owner) := cell_at (hO.at_ 0 rfl)
  simp (disch := first | assumption | omega) only [PX, BX, LX, add_mk, Nat.zero_add]
  refine ⟨fun h0 => OpR.no hbk (by rw [hnl, if_neg h0]), fun h0 => ?_⟩
  have h0 : bs[i].x.owner = inst := Decidable.byContradiction h0
  rw [if_pos h0] at hnl
  refine st_storeB sz3 rfl hU hO 0 rfl (by simp [leafO, cellsL]) (.inr (Nat.zero_le _)) (.inr hg) ?_
  intro w2 hU2 hO2
  have hO2 : Owns w2 ((bs[i].g, leafO { bs[i].x with owner := 0 } v) :: (hh ++ restB F gb vl hl bs i)) := hO2
  refine st_storeB sz4 rfl hU2 hO2 0 rfl (by simp [leafO, cellsL]) (.inr (Nat.zero_le _)) (.inr hg) ?_
  intro w3 hU3 hO3
  have hL : LeafI W (restB F gb vl hl bs i) bs[i].g { bs[i].x with owner := 0, called := false } w3 := ⟨v, hh, hrow, hO3, hU3, hhs, hg⟩
  refine st_call (serve_spec i (by simp; omega) hL) ?_
  rintro ro w6 ⟨ho, hor, hL6, hho⟩
  exact OpR.yes hB hi hL6 hor hho hnl

theorem Mend_spec (h : Bk W F gb xs w) (hN : ∀ x ∈ xs, x.waits.length ≤ 900) (page : Int) : CallsR Try.prog 14 #[.pointer (some ⟨gb, 0, none⟩), .int .i64 page] w fun r w' => OpR W F gb (mendL xs page) r w' := by
  have hbk := h
  obtain ⟨vl, hl, bs, hB, rfl⟩ := h
  apply own_Book_Mend_sound
  unfold own_Book_Mend_x
  refine st_call (find_spec hB page) ?_
  rintro r w1 ⟨he, hc⟩
  subst w1
  rcases hc with ⟨i, hi, rfl, rfl⟩ | ⟨hn, rfl⟩
  rotate_left
  · simp only [NP, BX]
    exact OpR.no hbk (by unfold mendL; rw [if_neg (by rintro ⟨h1, h2⟩; rw [List.length_map] at h2; exact hn ⟨h1, h2⟩)])
  simp only [LB.p, NP, BX]
  obtain ⟨v, hh, hrow, hO, hU, hhs, hg⟩ := hB.focus hi
  have hw9 : bs[i].x.waits.length ≤ 900 := hN _ (List.mem_map.2 ⟨bs[i], List.getElem_mem hi, rfl⟩)
  have hnl : mendL (bs.map LB.x) (i : Int) = if bs[i].x.lost = true then ((bs.map LB.x).set i (serveL i { bs[i].x with lost := false }).1, (serveL i { bs[i].x with lost := false }).2, 0) else (bs.map LB.x, [], 10) := by
    unfold mendL
    rw [if_pos ⟨by omega, by rw [List.length_map]; omega⟩, lfAt_nat (by simpa using hi), List.getElem_map, Int.toNat_natCast]
  have c1 : w.cell? ⟨bs[i].g, 1, none⟩ = some (.bool bs[i].x.lost) := cell_at (hO.at_ 0 rfl)
  simp (disch := first | assumption | omega) only [PX, BX, LX, add_mk, Nat.zero_add]
  rw [bool_var]
  refine ⟨fun h0 => ?_, fun h0 => OpR.no hbk (by rw [hnl, if_neg (by rw [h0]; simp)])⟩
  rw [if_pos h0] at hnl
  refine st_storeB sz4 rfl hU hO 0 rfl (by simp [leafO, cellsL]) (.inr (Nat.zero_le _)) (.inr hg) ?_
  intro w3 hU3 hO3
  have hL : LeafI W (restB F gb vl hl bs i) bs[i].g { bs[i].x with lost := false } w3 := ⟨v, hh, hrow, hO3, hU3, hhs, hg⟩
  refine st_call (serve_spec i (by simp; omega) hL) ?_
  rintro ro w6 ⟨ho, hor, hL6, hho⟩
  exact OpR.yes hB hi hL6 hor hho hnl

theorem Has_spec (h : Bk W F gb xs w) (hn : xs.length ≤ 100) (inst : Int) : CallsR Try.prog 19 #[.pointer (some ⟨gb, 0, none⟩), .int .i64 inst] w fun r w' => ∃ hr, RowH 3 1 r (hasL xs inst).length (intsV .i64 (hasL xs inst)) hr ∧ Bk W (hr ++ F) gb xs w' ∧ ∀ p ∈ hr, W.heap.size ≤ p.1 := by
  have hbk := h
  obtain ⟨vl, hl, bs, hB, rfl⟩ := h
  apply own_Book_Has_sound
  unfold own_Book_Has_x
  simp only [NP, BX]
  refine st_call (known_spec inst w) ?_
  rintro _ w1 ⟨rfl, he⟩
  subst w1
  rw [bool_dec]
  refine ⟨fun hk => ?_, fun hk => ?_⟩
  rotate_left
  · unfold own_Book_Has_k1 hasL
    rw [if_neg hk]
    exact ⟨[], RowH.nil_ _ _, hbk, fun p hp => by cases hp⟩
  have hB0 := hB.cellB
  obtain ⟨A, c, hv⟩ := hB.len
  subst hv
  rw [List.length_map] at hn
  simp (disch := first | assumption | omega) only [PX, BX, LX, add_mk, Nat.zero_add]
  refine st_loop (fun vs w' => ∃ (i : Nat) (hr : List (Nat × Obj)), i ≤ bs.length ∧ vs.getD 3 undef = .int .i64 i ∧ RowH 3 1 (vs.getD 2 undef) (hasUp (bs.map LB.x) inst i).length (intsV .i64 (hasUp (bs.map LB.x) inst i)) hr ∧ BookI W (hr ++ F) gb (.slice A bs.length c) hl bs w' ∧ ∀ p ∈ hr, W.heap.size ≤ p.1)
    (fun vs _ => bs.length - (intOf (vs.getD 3 undef)).toNat) ⟨0, [], by omega, rfl, RowH.nil_ _ _, hB, fun p hp => by cases hp⟩ ?_
  clear hB hbk hB0
  rintro dv vs w1 - ⟨i, hr, hi, e3, hrow, hB, hhr⟩
  simp (disch := omega) only [e3, PX, BX]
  refine ⟨fun hlt => ?_, fun hge => ?_⟩
  · have hlt' : i < bs.length := by omega
    obtain ⟨a, c', he, hc⟩ := hB.pt hlt'
    injection he with he1 _ _
    subst he1
    obtain ⟨v, hh, _, hO, _, _, _⟩ := hB.focus hlt'
    have c0 : w1.cell? ⟨bs[i].g, 0, none⟩ = some (.int .i64 bs[i].x.owner) := cell_at (hO.at_ 0 rfl)
    simp (disch := first | assumption | omega) only [PX, LX, Nat.mul_one, LB.p, BX]
    have hat : lfAt (bs.map LB.x) (i : Int) = bs[i].x := by rw [lfAt_nat (by simpa using hlt'), List.getElem_map]
    refine ⟨fun ho => ?_, fun ho => ?_⟩
    · have hup : hasUp (bs.map LB.x) inst (i + 1) = hasUp (bs.map LB.x) inst i ++ [(i : Int)] := by rw [hasUp_succ, hat, if_pos ho]
      refine st_newRow (a_row36 i) hB.upd hB.own ?_
      intro g2 w2 hU2 hO2 hg2
      have hrd2 : Rd w2 1 (.slice (some ⟨g2, 0, none⟩) 1 1) 1 (intsV .i64 [(i : Int)]) := rd_row (hO2.at_ 0 rfl) rfl (by omega) rfl
      obtain ⟨inf, hi1, hz1, hs, hb⟩ := inf3
      have hlen := hasUp_len (bs.map LB.x) inst i
      have hP : (((g2, Obj.cells #[.int .i64 (i : Int)] 3 (0, 0)) :: (bs.flatMap LB.blk ++ (restO gb (.slice (some a) bs.length c) hl ++ (hr ++ F))))).Perm (hr ++ ((g2, Obj.cells #[.int .i64 (i : Int)] 3 (0, 0)) :: (bs.flatMap LB.blk ++ (restO gb (.slice (some a) bs.length c) hl ++ F)))) := by
        refine (List.Perm.cons _ ?_).trans List.perm_middle.symm
        refine List.Perm.trans (List.Perm.append_left _ (List.perm_append_comm_assoc _ hr _)) ?_
        exact List.perm_append_comm_assoc _ hr _
      refine st_append (ks := []) u36 hi1 hz1 hs hb rfl (by omega) hrow (hO2.perm hP) hU2 (fun q hq => .inr (hhr q hq)) hrd2 (intsV_one _ _) (by unfold maxLen; omega) (by omega) ?_
      intro v4 w4 h4 hr4 hO4 hU4 hh4
      unfold own_Book_Has_k2
      simp (disch := omega) only [e3, PX, w64]
      refine ⟨⟨i + 1, h4, by omega, rfl, ?_, ?_, fun q hq => (hh4 q hq).resolve_left (by simp)⟩, ?_⟩
      · rw [hup, List.length_append]
        rw [intsV_append] at hr4
        exact hr4
      · have hBF : BookI W F gb (.slice (some a) bs.length c) hl bs w1 := hB.ext (hB.own.sub (List.Sublist.append (List.Sublist.refl _) (List.Sublist.append (List.Sublist.refl _) (List.sublist_append_right _ _)))) hB.upd
        exact hBF.join (hO4.sub (List.Sublist.append (List.Sublist.refl _) (.cons _ (List.Sublist.refl _)))) hU4
      · simp only [List.getD_cons_zero, List.getD_cons_succ, intOf]; omega
    · have hup : hasUp (bs.map LB.x) inst (i + 1) = hasUp (bs.map LB.x) inst i := by rw [hasUp_succ, hat, if_neg ho, List.append_nil]
      unfold own_Book_Has_k2
      simp (disch := omega) only [e3, PX, w64]
      refine ⟨⟨i + 1, hr, by omega, rfl, ?_, hB, hhr⟩, ?_⟩
      · rw [hup]; exact hrow
      · simp only [List.getD_cons_zero, List.getD_cons_succ, intOf]; omega
  · have : i = bs.length := by omega
    subst this
    unfold own_Book_Has_k1 hasL
    rw [if_pos hk, List.length_map]
    exact ⟨hr, hrow, ⟨_, _, _, hB, rfl⟩, hhr⟩
end
end Go.Proofs.Ytilfkccahlkcaaa
