/- Books: Owner, Lost, Fast, Waits, Need, Back, Mend. -/
import Derived.Test.YtilfkccahlkcaaaS2
namespace Go.Proofs.Ytilfkccahlkcaaa
open Go Xf Go.RowKit
set_option linter.unusedVariables false
set_option linter.unusedSimpArgs false
set_option maxRecDepth 100000

def lf0 : Lf := ⟨0, false, false, false, []⟩
def lfAt (xs : List Lf) (page : Int) : Lf := if 0 ≤ page then xs.getD page.toNat lf0 else lf0
theorem lfAt_nat {xs : List Lf} {i : Nat} (h : i < xs.length) : lfAt xs (i : Int) = xs[i] := by
  unfold lfAt
  rw [if_pos (by omega), Int.toNat_natCast, List.getD_eq_getElem?_getD, List.getElem?_eq_getElem h]; rfl
theorem lfAt_out {xs : List Lf} {p : Int} (h : ¬ (0 ≤ p ∧ p < xs.length)) : lfAt xs p = lf0 := by
  unfold lfAt
  split
  · rw [List.getD_eq_getElem?_getD, List.getElem?_eq_none (by omega)]; rfl
  · rfl
def needL (xs : List Lf) (page inst : Int) : List Lf × List Od × Int :=
  if 0 ≤ page ∧ page < xs.length ∧ 1 ≤ inst ∧ inst ≤ 8 then
    if (lfAt xs page).owner = inst ∨ inst ∈ (lfAt xs page).waits then (xs, [], 9)
    else (xs.set page.toNat (serveL page { lfAt xs page with waits := (lfAt xs page).waits ++ [inst] }).1, (serveL page { lfAt xs page with waits := (lfAt xs page).waits ++ [inst] }).2, 0)
  else (xs, [], 1)
def backL (xs : List Lf) (page inst : Int) : List Lf × List Od × Int :=
  if 0 ≤ page ∧ page < xs.length ∧ 1 ≤ inst ∧ inst ≤ 8 then
    if (lfAt xs page).owner = inst then (xs.set page.toNat (serveL page { lfAt xs page with owner := 0, called := false }).1, (serveL page { lfAt xs page with owner := 0, called := false }).2, 0)
    else (xs, [], 10)
  else (xs, [], 1)
def mendL (xs : List Lf) (page : Int) : List Lf × List Od × Int :=
  if 0 ≤ page ∧ page < xs.length then
    if (lfAt xs page).lost = true then (xs.set page.toNat (serveL page { lfAt xs page with lost := false }).1, (serveL page { lfAt xs page with lost := false }).2, 0)
    else (xs, [], 10)
  else (xs, [], 1)
/-- what such a call answers -/
def OpR (W : World) (F : List (Nat × Obj)) (gb : Nat) (p : List Lf × List Od × Int) (r : Value) (w' : World) : Prop :=
  ∃ ro ho, r = .tuple #[ro, .int .i64 p.2.2] ∧ OrdR ro p.2.1 ho ∧ Bk W (ho ++ F) gb p.1 w' ∧ ∀ q ∈ ho, W.heap.size ≤ q.1
theorem OpR.no {W w : World} {F : List (Nat × Obj)} {gb : Nat} {xs : List Lf} {e : Int} {p : List Lf × List Od × Int} (h : Bk W F gb xs w) (hp : p = (xs, [], e)) : OpR W F gb p (.tuple #[.slice none 0 0, .int .i64 e]) w := by
  subst hp
  exact ⟨_, [], rfl, ordR_nil, h, fun q hq => by cases hq⟩
theorem LeafI.sub {W w : World} {F F' : List (Nat × Obj)} {g : Nat} {x : Lf} (h : LeafI W F g x w) (hs : F'.Sublist F) : LeafI W F' g x w := by
  obtain ⟨v, hh, hrow, hO, hU, hhs, hg⟩ := h
  exact ⟨v, hh, hrow, hO.sub (.cons_cons _ (List.Sublist.append (List.Sublist.refl _) hs)), hU, hhs, hg⟩
theorem OpR.yes {W w w' : World} {F ho : List (Nat × Obj)} {gb : Nat} {vl : Value} {hl : List (Nat × Obj)} {bs : List LB} {i : Nat} {x' : Lf} {os : List Od} {ro : Value} {p : List Lf × List Od × Int}
    (h : BookI W F gb vl hl bs w) (hi : i < bs.length) (hL : LeafI W (ho ++ restB F gb vl hl bs i) bs[i].g x' w') (hr : OrdR ro os ho) (hh : ∀ q ∈ ho, W.heap.size ≤ q.1) (hp : p = ((bs.map LB.x).set i x', os, 0)) :
    OpR W F gb p (.tuple #[ro, .int .i64 0]) w' := by
  subst hp
  obtain ⟨b', hx, _, hB⟩ := h.back hi hL
  exact ⟨ro, ho, rfl, hr, ⟨vl, hl, _, hB, by rw [List.map_set, hx]⟩, hh⟩

section
variable {W w : World} {F : List (Nat × Obj)} {gb : Nat} {xs : List Lf}
theorem Owner_spec (h : Bk W F gb xs w) (page : Int) : CallsR Try.prog 16 #[.pointer (some ⟨gb, 0, none⟩), .int .i64 page] w fun r w' => r = .int .i64 (lfAt xs page).owner ∧ w' = w := by
  obtain ⟨vl, hl, bs, hB, rfl⟩ := h
  apply own_Book_Owner_sound
  unfold own_Book_Owner_x
  refine st_call (find_spec hB page) ?_
  rintro r w1 ⟨he, hc⟩
  subst w1
  rcases hc with ⟨i, hi, rfl, rfl⟩ | ⟨hn, rfl⟩
  · obtain ⟨v, hh, hrow, hO, hU, hhs, hg⟩ := hB.focus hi
    rw [lfAt_nat (by simpa using hi), List.getElem_map]
    have c0 : w.cell? ⟨bs[i].g, 0, none⟩ = some (.int .i64 bs[i].x.owner) := cell_at (hO.at_ 0 rfl)
    simp (disch := first | assumption | omega) only [LB.p, NP, PX, BX, LX, add_mk]
    exact ⟨trivial, trivial⟩
  · simp only [NP, BX]
    rw [lfAt_out (by simpa using hn)]
    exact ⟨rfl, trivial⟩
theorem Lost_spec (h : Bk W F gb xs w) (page : Int) : CallsR Try.prog 17 #[.pointer (some ⟨gb, 0, none⟩), .int .i64 page] w fun r w' => r = .bool (lfAt xs page).lost ∧ w' = w := by
  obtain ⟨vl, hl, bs, hB, rfl⟩ := h
  apply own_Book_Lost_sound
  unfold own_Book_Lost_x
  refine st_call (find_spec hB page) ?_
  rintro r w1 ⟨he, hc⟩
  subst w1
  rcases hc with ⟨i, hi, rfl, rfl⟩ | ⟨hn, rfl⟩
  · obtain ⟨v, hh, hrow, hO, hU, hhs, hg⟩ := hB.focus hi
    rw [lfAt_nat (by simpa using hi), List.getElem_map]
    have c0 : w.cell? ⟨bs[i].g, 1, none⟩ = some (.bool bs[i].x.lost) := cell_at (hO.at_ 0 rfl)
    simp (disch := first | assumption | omega) only [LB.p, NP, PX, BX, LX, add_mk, Nat.zero_add]
    exact ⟨trivial, trivial⟩
  · simp only [NP, BX]
    rw [lfAt_out (by simpa using hn)]
    exact ⟨rfl, trivial⟩
theorem Fast_spec (h : Bk W F gb xs w) (page : Int) : CallsR Try.prog 25 #[.pointer (some ⟨gb, 0, none⟩), .int .i64 page] w fun r w' => r = .bool (lfAt xs page).fast ∧ w' = w := by
  obtain ⟨vl, hl, bs, hB, rfl⟩ := h
  apply own_Book_Fast_sound
  unfold own_Book_Fast_x
  refine st_call (find_spec hB page) ?_
  rintro r w1 ⟨he, hc⟩
  subst w1
  rcases hc with ⟨i, hi, rfl, rfl⟩ | ⟨hn, rfl⟩
  · obtain ⟨v, hh, hrow, hO, hU, hhs, hg⟩ := hB.focus hi
    rw [lfAt_nat (by simpa using hi), List.getElem_map]
    have c0 : w.cell? ⟨bs[i].g, 3, none⟩ = some (.bool bs[i].x.fast) := cell_at (hO.at_ 0 rfl)
    simp (disch := first | assumption | omega) only [LB.p, NP, PX, BX, LX, add_mk, Nat.zero_add]
    exact ⟨trivial, trivial⟩
  · simp only [NP, BX]
    rw [lfAt_out (by simpa using hn)]
    exact ⟨rfl, trivial⟩
theorem e_row36 (w : World) : (sBuildSlice 36 0 []).run Try.prog w = .ok (.value (.slice (some ⟨w.heap.size, 0, none⟩) 0 0)) (w.alloc (.cells #[] 3)) := by kernel_rfl
theorem a_row36 (a : Int) (w : World) : (sBuildSlice 36 1 [(0, .int .i64 a)]).run Try.prog w = .ok (.value (.slice (some ⟨w.heap.size, 0, none⟩) 1 1)) (w.alloc (.cells #[.int .i64 a] 3)) := by kernel_rfl
theorem BookI.ext {w' : World} {F' : List (Nat × Obj)} {vl : Value} {hl : List (Nat × Obj)} {bs : List LB} (h : BookI W F gb vl hl bs w) (hO : Owns w' (bs.flatMap LB.blk ++ (restO gb vl hl ++ F'))) (hU : Upd W w' []) : BookI W F' gb vl hl bs w' :=
  ⟨h.ok, h.row, hO, hU, h.new, h.new2⟩
/-- row r of new blocks, joined to what is kept beside a book -/
theorem BookI.join {w' : World} {hr : List (Nat × Obj)} {vl : Value} {hl : List (Nat × Obj)} {bs : List LB} (h : BookI W F gb vl hl bs w) (hO : Owns w' (hr ++ (bs.flatMap LB.blk ++ (restO gb vl hl ++ F)))) (hU : Upd W w' []) : BookI W (hr ++ F) gb vl hl bs w' := by
  refine h.ext (hO.perm ?_) hU
  refine (List.perm_append_comm_assoc hr _ _).trans (List.Perm.append_left _ ?_)
  exact List.perm_append_comm_assoc hr _ _
theorem Waits_spec (h : Bk W F gb xs w) (hN : ∀ x ∈ xs, x.waits.length ≤ 900) (page : Int) : CallsR Try.prog 18 #[.pointer (some ⟨gb, 0, none⟩), .int .i64 page] w fun r w' => ∃ hr, RowH 3 1 r (lfAt xs page).waits.length (intsV .i64 (lfAt xs page).waits) hr ∧ Bk W (hr ++ F) gb xs w' ∧ ∀ p ∈ hr, W.heap.size ≤ p.1 := by
  obtain ⟨vl, hl, bs, hB, rfl⟩ := h
  apply own_Book_Waits_sound
  unfold own_Book_Waits_x
  refine st_call (find_spec hB page) ?_
  rintro r w1 ⟨he, hc⟩
  subst w1
  rcases hc with ⟨i, hi, rfl, rfl⟩ | ⟨hn, rfl⟩
  · obtain ⟨v, hh, hrow, hO, hU, hhs, hg⟩ := hB.focus hi
    rw [lfAt_nat (by simpa using hi), List.getElem_map]
    have hw9 : bs[i].x.waits.length ≤ 900 := hN _ (List.mem_map.2 ⟨bs[i], List.getElem_mem hi, rfl⟩)
    simp only [LB.p, NP, BX]
    refine st_newRow e_row36 hB.upd (hB.own) ?_
    intro g2 w2 hU2 hO2 hg2
    have hB2 : BookI W [] gb vl hl bs w2 := hB.ext (hO2.sub (by
      rw [List.append_nil, ← List.append_assoc]
      exact .cons _ (List.sublist_append_left _ _))) hU2
    obtain ⟨v, hh, hrow, hOl, _, _, _⟩ := hB2.focus hi
    have hrd := hrow.rd (F := []) (by rw [List.append_nil]; exact hOl.sub (.cons _ (List.sublist_append_left _ _)))
    have hrd' := hrd
    obtain ⟨A, c, rfl, hc, _, hcell⟩ := hrd'
    have c4 : w2.cell? ⟨bs[i].g, 4, none⟩ = some (.slice A bs[i].x.waits.length c) := cell_at (hOl.at_ 0 rfl)
    simp (disch := first | assumption | omega) only [PX, BX, LX, add_mk, Nat.zero_add]
    obtain ⟨inf, hi1, hz1, hs, hb⟩ := inf3
    refine st_append (h := [(g2, .cells #[] 3)]) (ks := []) u36 hi1 hz1 hs hb rfl (by omega) (row_nil 3 g2) hO2 hU2 (fun q hq => by simp at hq; subst hq; exact .inr hg2) hrd (intsV_one _ _) (by unfold maxLen; omega) (by omega) ?_
    intro v4 w4 h4 hr4 hO4 hU4 hh4
    rw [Nat.zero_add, List.nil_append] at hr4
    exact ⟨h4, hr4, ⟨vl, hl, bs, hB.join hO4 hU4, rfl⟩, fun q hq => (hh4 q hq).resolve_left (by simp)⟩
  · simp only [NP, BX]
    rw [lfAt_out (by simpa using hn)]
    exact ⟨[], RowH.nil_ _ _, ⟨vl, hl, bs, hB, rfl⟩, fun p hp => by cases hp⟩

theorem Need_spec (h : Bk W F gb xs w) (hN : ∀ x ∈ xs, x.waits.length ≤ 900) (page inst : Int) : CallsR Try.prog 11 #[.pointer (some ⟨gb, 0, none⟩), .int .i64 page, .int .i64 inst] w fun r w' => OpR W F gb (needL xs page inst) r w' := by
  have hbk := h
  obtain ⟨vl, hl, bs, hB, rfl⟩ := h
  apply own_Book_Need_sound
  unfold own_Book_Need_x
  refine st_call (find_spec hB page) ?_
  rintro r w1 ⟨he, hc⟩
  subst w1
  rcases hc with ⟨i, hi, rfl, rfl⟩ | ⟨hn, rfl⟩
  rotate_left
  · simp only [NP, BX]
    exact OpR.no hbk (by unfold needL; rw [if_neg (by rintro ⟨h1, h2, _⟩; rw [List.length_map] at h2; exact hn ⟨h1, h2⟩)])
  simp only [LB.p, NP, BX]
  refine st_call (known_spec inst w) ?_
  rintro _ w1 ⟨rfl, he⟩
  subst w1
  simp only [PX]
  rw [bool_not, bool_dec]
  refine ⟨fun hk => ?_, fun hk => OpR.no hbk (by unfold needL; rw [if_neg (by rintro ⟨_, _, h3, h4⟩; exact hk ⟨h3, h4⟩)])⟩
  obtain ⟨v, hh, hrow, hO, hU, hhs, hg⟩ := hB.focus hi
  have hw9 : bs[i].x.waits.length ≤ 900 := hN _ (List.mem_map.2 ⟨bs[i], List.getElem_mem hi, rfl⟩)
  have hnl : needL (bs.map LB.x) (i : Int) inst = if bs[i].x.owner = inst ∨ inst ∈ bs[i].x.waits then (bs.map LB.x, [], 9)
      else ((bs.map LB.x).set i (serveL i { bs[i].x with waits := bs[i].x.waits ++ [inst] }).1, (serveL i { bs[i].x with waits := bs[i].x.waits ++ [inst] }).2, 0) := by
    unfold needL
    rw [if_pos ⟨by omega, by rw [List.length_map]; omega, hk.1, hk.2⟩, lfAt_nat (by simpa using hi), List.getElem_map, Int.toNat_natCast]
  have hrd := hrow.rd (F := []) (by rw [List.append_nil]; exact hO.sub (.cons _ (List.sublist_append_left _ _)))
  have hrd' := hrd
  obtain ⟨A, c, rfl, hc, _, hcell⟩ := hrd'
  have c0 : w.cell? ⟨bs[i].g, 0, none⟩ = some (.int .i64 bs[i].x.owner) := cell_at (hO.at_ 0 rfl)
  have c4 : w.cell? ⟨bs[i].g, 4, none⟩ = some (.slice A bs[i].x.waits.length c) := cell_at (hO.at_ 0 rfl)
  simp (disch := first | assumption | omega) only [PX, BX, LX, add_mk, Nat.zero_add]
  refine ⟨fun h0 => OpR.no hbk (by rw [hnl, if_pos (.inl h0)]), fun h0 => ?_⟩
  refine st_call (Contains_spec inst hrd (by omega)) ?_
  rintro _ w1 ⟨rfl, he⟩
  subst w1
  rw [bool_dec]
  refine ⟨fun h1 => OpR.no hbk (by rw [hnl, if_pos (.inr h1)]), fun h1 => ?_⟩
  rw [if_neg (by rintro (h | h); exact h0 h; exact h1 h)] at hnl
  simp (disch := first | assumption | omega) only [PX, BX, LX, add_mk, Nat.zero_add]
  refine st_newRow (a_row36 inst) hU hO ?_
  intro g2 w2 hU2 hO2 hg2
  have hrd2 : Rd w2 1 (.slice (some ⟨g2, 0, none⟩) 1 1) 1 (intsV .i64 [inst]) := rd_row (hO2.at_ 0 rfl) rfl (by omega) rfl
  obtain ⟨inf, hi1, hz1, hs, hb⟩ := inf3
  have hP : (((g2, Obj.cells #[.int .i64 inst] 3 (0, 0)) :: (bs[i].g, leafO bs[i].x (.slice A bs[i].x.waits.length c)) :: (hh ++ restB F gb vl hl bs i))).Perm (hh ++ ((bs[i].g, leafO bs[i].x (.slice A bs[i].x.waits.length c)) :: (g2, Obj.cells #[.int .i64 inst] 3 (0, 0)) :: restB F gb vl hl bs i)) := by
    refine (List.Perm.swap _ _ _).trans ?_
    refine (List.Perm.cons _ List.perm_middle.symm).trans List.perm_middle.symm
  refine st_appendO (ks := []) u36 hi1 hz1 hs hb rfl hrow (hO2.perm hP) hU2 (fun q hq => .inr (hhs q hq)) hrd2 (intsV_one _ _) (by omega) (by unfold maxLen; omega) (by omega) ?_
  intro v4 w4 h4 hr4 hO4 hU4 hh4
  have hO4 := hO4.perm (List.perm_middle (a := (bs[i].g, leafO bs[i].x (.slice A bs[i].x.waits.length c))))
  refine st_storeB sz36 hr4.one hU4 hO4 0 rfl (by simp [cellsL]) (.inr (Nat.zero_le _)) (.inr hg) ?_
  intro w5 hU5 hO5
  have hL : LeafI W (restB F gb vl hl bs i) bs[i].g { bs[i].x with waits := bs[i].x.waits ++ [inst] } w5 := by
    refine ⟨v4, h4, ?_, hO5.sub (.cons_cons _ (List.Sublist.append (List.Sublist.refl _) (.cons _ (List.Sublist.refl _)))), hU5, fun q hq => (hh4 q hq).resolve_left (by simp), hg⟩
    rw [intsV_append] at hr4
    simpa using hr4
  refine st_call (serve_spec i (by simp; omega) hL) ?_
  rintro ro w6 ⟨ho, hor, hL6, hho⟩
  exact OpR.yes hB hi hL6 hor hho hnl
end
end Go.Proofs.Ytilfkccahlkcaaa
