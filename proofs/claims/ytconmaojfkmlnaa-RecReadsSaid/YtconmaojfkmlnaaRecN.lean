/- A record is read off: the rows, the head. -/
import Derived.Test.YtconmaojfkmlnaaRecL
namespace Go.Proofs.Ytconmaojfkmlnaa.Rec
open Go Go.Proofs.Ytconmaojfkmlnaa Go.Proofs.Ytconmaojfkmlnaa.Enc Xf Go.RowKit
set_option linter.unusedVariables false
set_option linter.unusedSimpArgs false
set_option maxRecDepth 100000

theorem many_succ {α : Type} (f : Rs → α × Rs) (n : Nat) (s : Rs) : many f (n + 1) s = ((many f n s).1 ++ [(f (many f n s).2).1], (f (many f n s).2).2) := rfl
theorem txV_one (t : Tx) : ∀ y ∈ txV t, y.oneCell' = true := by intro y hy; simp [txV] at hy; rcases hy with rfl | rfl | rfl <;> rfl
theorem diV_one (t : Di) : ∀ y ∈ diV t, y.oneCell' = true := by intro y hy; simp [diV] at hy; rcases hy with rfl | rfl <;> rfl
theorem flat_snoc {α : Type} (f : α → List Value) (l : List α) (x : α) : (l ++ [x]).flatMap f = l.flatMap f ++ f x := by simp

theorem rd_rowN {w : World} {g n c sz : Nat} {cs : Array Value} {e : TypeId} {fr : Nat × Nat} {xs : List Value} (h : w.heap[g]? = some (.cells cs e fr)) (hn : xs.length = n * sz) (hc : n ≤ c) (hx : cs.toList.take (n * sz) = xs) : Rd w sz (.slice (some ⟨g, 0, none⟩) n c) n xs := by
  refine ⟨_, _, rfl, hc, by omega, fun j u hu => ⟨_, rfl, ?_⟩⟩
  rw [add_mk, Nat.zero_add, cell_at h]
  rw [← hx, List.getElem?_take] at hu
  split at hu
  · simpa using hu
  · cases hu
theorem m3_walk {W w : World} {g gA gB : Nat} {hb : List (Nat × Obj)} {r : Re} {s : Rs} {sl : Nat → Value} (h0 : r.ts = [] ∧ r.ds = []) (hf : Fr3 g gA gB sl) (hR : RS W g gA gB hb r s w) : read_m3_x (std Try.prog) sl w (onF g gA gB (RS W g gA gB hb (gTab r s).1 (gTab r s).2)) := by
  obtain ⟨f0, f2, f3⟩ := hf
  have hR0 := hR
  obtain ⟨vt, vd, ht, hd, h1, h2, h3, hA, hB, hI⟩ := hR
  unfold read_m3_x
  obtain ⟨c0, c1, c2, c3, c4, c5, c6, c7, c8, c9, c10, c11⟩ := At.of (RI.blk hI (p := (gB, reO r vt vd)) (by simp))
  simp (disch := first | assumption | omega) only [f0, f2, f3, PX, BX, LX, add_mk, Nat.reduceAdd]
  refine ⟨fun hc => ?_, fun hc => onF_mk rfl rfl rfl rfl rfl (by unfold gTab; rw [if_neg hc]; exact hR0)⟩
  refine st_call (gByte hI) ?_
  rintro _ w2 ⟨rfl, hn, hI⟩
  have e : (gTab r s) = ({ r with ts := (many gTx (tk s 1).1 (tk s 1).2).1, ds := (many gDi (tk (many gTx (tk s 1).1 (tk s 1).2).2 1).1 (tk (many gTx (tk s 1).1 (tk s 1).2).2 1).2).1 }, (many gDi (tk (many gTx (tk s 1).1 (tk s 1).2).2 1).1 (tk (many gTx (tk s 1).1 (tk s 1).2).2 1).2).2) := by
    unfold gTab; rw [if_pos hc]
  rw [e]
  clear e c0 c1 c2 c3 c4 c5 c6 c7 c8 c9 c10 c11 hR0
  generalize hN : (tk s 1).1 = n at hn ⊢
  generalize hS1 : (tk s 1).2 = s1 at hI ⊢
  have hts : { r with ts := (many gTx 0 s1).1 } = r := by cases r; simp only at h0; simp [many, h0.1]
  refine st_loop (fun vs w' => ∃ i : Nat, i ≤ n ∧ vs.getD 0 undef = .int .u8 (i : Nat) ∧ RS W g gA gB hb { r with ts := (many gTx i s1).1 } (many gTx i s1).2 w') (fun vs _ => n - (intOf (vs.getD 0 undef)).toNat) ⟨0, by omega, rfl, by rw [hts]; exact ⟨vt, vd, ht, hd, h1, h2, h3, hA, hB, hI⟩⟩ ?_
  clear h1 h2 h3 hI hts
  rintro dv vs w3 - ⟨i, hi, e0, vt, vd, ht, hd, h1, h2, h3, -, -, hI⟩
  simp (disch := omega) only [e0, PX, BX]
  have hml := many_len gTx i s1
  refine ⟨fun hlt => ?_, fun hge => ?_⟩
  · generalize hrc : ({ r with ts := (many gTx i s1).1 } : Re) = rc at hI h1 h2
    generalize hsc : (many gTx i s1).2 = sc at hI
    have hrcl : rc.ts.length = i := by rw [← hrc]; exact hml
    have hIa := RI.ext hI (Upd.drew w3 [])
    have cell : ∀ {w' : World} {F : List (Nat × Obj)} {q : Rs}, RI W ((gB, reO rc vt vd) :: F) g hb q.1 q.2 w' → w'.cell? ⟨gB, 10, none⟩ = some vt := fun h => (At.of (RI.blk h (p := (gB, reO rc vt vd)) (by simp))).c10
    have hne : ∃ w', (fun w' : World => w'.cell? ⟨gB, 10, none⟩ = some vt) w' := ⟨_, cell hIa⟩
    have hS : ∀ w', (fun w' : World => w'.cell? ⟨gB, 10, none⟩ = some vt) w' → w'.cell? ⟨gB, 10, none⟩ = some vt := fun w' h => h
    refine st_draw (fun w' => w'.cell? ⟨gB, 10, none⟩ = some vt) (cell hIa) ?_
    simp (disch := first | assumption | omega) only [SX, SLX, add_mk, Nat.reduceAdd]
    refine st_call (gFour hIa) ?_
    rintro _ w4 ⟨rfl, hk1, hI4⟩
    refine st_same (cell hI4) ?_
    simp (disch := first | assumption | omega) only [SX, SLX, add_mk, Nat.reduceAdd, w64]
    refine st_call (gByte hI4) ?_
    rintro _ w5 ⟨rfl, hk2, hI5⟩
    refine st_same (cell hI5) ?_
    simp (disch := first | assumption | omega) only [SX, SLX, add_mk, Nat.reduceAdd, w64]
    refine st_call (gEight hI5) ?_
    rintro _ w6 ⟨rfl, hI6⟩
    refine st_same (cell hI6) ?_
    rw [step_run (build_tx _ _ _ _)]
    refine st_same (cell hI6) ?_
    generalize htx : (⟨((tk sc 4).1 : Nat), ((tk (tk sc 4).2 1).1 : Nat), (tk (tk (tk sc 4).2 1).2 8).1⟩ : Tx) = tx
    obtain ⟨T, hO, hU, hcl⟩ := RI.open_ hI6
    refine st_newRow (row_tx tx) hU hO ?_
    intro g7 w7 hU7 hO7 hg7
    refine st_same (cell_at (hO7.at_ 1 rfl)) ?_
    obtain ⟨inf, hi1, hz1, hsz, hby⟩ := inf51
    refine st_append (h := ht) (F := (gB, reO rc vt vd) :: (gA, reO re0 nilS nilS) :: (hd ++ ((g7, .cells (txV tx).toArray 51 (0, 0)) :: T))) (ys := txV tx) (m := 1) u30 hi1 hz1 hsz hby rfl (by omega) h1 ?_ hU7 (fun p hp => .inr (h3 p (List.mem_append_left _ hp))) (rd_rowN (n := 1) (c := 1) (xs := txV tx) (hO7.at_ 0 rfl) rfl (by omega) rfl) (txV_one tx) (by rw [hrcl]; unfold maxLen; omega) (by rw [hrcl]; omega) ?_
    · refine hO7.perm ?_
      refine List.Perm.trans ?_ (perm1 (gB, reO rc vt vd) (gA, reO re0 nilS nilS) ht hd _)
      exact (List.perm_middle (l₁ := (gB, reO rc vt vd) :: (gA, reO re0 nilS nilS) :: (ht ++ hd)) (l₂ := T)).symm
    intro v8 w8 h8 hr8 hO8 hU8 hh8
    have hO8 : Owns w8 ((gB, reO rc vt vd) :: (gA, reO re0 nilS nilS) :: (h8 ++ hd) ++ T) := by
      have hO8' : Owns w8 (h8 ++ ((gB, reO rc vt vd) :: (gA, reO re0 nilS nilS) :: (hd ++ T))) := hO8.sub (List.Sublist.append (List.Sublist.refl _) (.cons_cons _ (.cons_cons _ (List.Sublist.append (List.Sublist.refl _) (.cons _ (List.Sublist.refl _))))))
      exact hO8'.perm (perm1 (gB, reO rc vt vd) (gA, reO re0 nilS nilS) h8 hd T).symm
    refine st_keepT (fun _ => True) trivial ?_
    have hne' : ∃ w' : World, (fun _ => True) w' := ⟨w8, trivial⟩
    simp (disch := first | assumption | omega) only [SX, SLX, add_mk, Nat.reduceAdd]
    have hI8 := hcl w8 _ hU8 hO8
    refine st_fld (r := rc) (r' := { rc with ts := rc.ts ++ [tx] }) (vt' := v8) (vd' := vd) hI8 hB sz30 (RowH.one hr8).2 (by omega) rfl ?_
    intro w9 hI9
    refine st_keepT (fun _ => True) trivial ?_
    have hrow8 : RowH 51 3 v8 (rc.ts ++ [tx]).length ((rc.ts ++ [tx]).flatMap txV) h8 := by
      rw [flat_snoc, List.length_append]; exact hr8
    refine ⟨⟨i + 1, by omega, ?_, ?_⟩, ?_⟩
    · rw [show ((i : Nat) : Int) + 1 = ((i + 1 : Nat) : Int) by omega, wrapU8, Nat.mod_eq_of_lt (by omega)]; rfl
    · have e1 : ({ r with ts := (many gTx (i + 1) s1).1 } : Re) = { rc with ts := rc.ts ++ [tx] } := by
        rw [many_succ, ← hrc, hsc, ← htx]; rfl
      have e2 : (many gTx (i + 1) s1).2 = (tk (tk (tk sc 4).2 1).2 8).2 := by rw [many_succ, hsc]; rfl
      rw [e1, e2]
      refine ⟨v8, vd, h8, hd, hrow8, h2, fun p hp => ?_, hA, hB, hI9⟩
      rcases List.mem_append.1 hp with hp | hp
      · exact (hh8 p hp).resolve_left (by simp)
      · exact h3 p (List.mem_append_right _ hp)
    · rw [show ((i : Nat) : Int) + 1 = ((i + 1 : Nat) : Int) by omega, wrapU8, Nat.mod_eq_of_lt (by omega)]
      simp only [List.getD_cons_zero, intOf]; omega
  · obtain rfl : i = n := by omega
    unfold read_m3_k1
    simp only [f0, f2, f3]
    refine st_call (gByte hI) ?_
    rintro _ w4 ⟨rfl, hn2, hI⟩
    generalize hS2 : (many gTx i s1).2 = s2 at hI ⊢
    have hd0 : { r with ts := (many gTx i s1).1, ds := (many gDi 0 (tk s2 1).2).1 } = ({ r with ts := (many gTx i s1).1 } : Re) := by cases r; simp only at h0; simp [many, h0.2]
    rw [hS2] at hn2
    generalize hN2 : (tk s2 1).1 = n2 at hn2 ⊢
    generalize hS3 : (tk s2 1).2 = s3 at hI hd0 ⊢
    clear e0
    refine st_loop (fun vs w' => ∃ j : Nat, j ≤ n2 ∧ vs.getD 0 undef = .int .u8 (j : Nat) ∧ RS W g gA gB hb { r with ts := (many gTx i s1).1, ds := (many gDi j s3).1 } (many gDi j s3).2 w') (fun vs _ => n2 - (intOf (vs.getD 0 undef)).toNat) ⟨0, by omega, rfl, by rw [hd0]; exact ⟨vt, vd, ht, hd, h1, h2, h3, hA, hB, hI⟩⟩ ?_
    clear h1 h2 h3 hI hd0
    rintro dv vs w3 - ⟨j, hj, e0, vt, vd, ht, hd, h1, h2, h3, -, -, hI⟩
    simp (disch := omega) only [e0, PX, BX]
    have hml2 := many_len gDi j s3
    refine ⟨fun hlt => ?_, fun hge => ?_⟩
    · generalize hrc : ({ r with ts := (many gTx i s1).1, ds := (many gDi j s3).1 } : Re) = rc at hI h1 h2
      generalize hsc : (many gDi j s3).2 = sc at hI
      have hrcl : rc.ds.length = j := by rw [← hrc]; exact hml2
      have hIa := RI.ext hI (Upd.drew w3 [])
      have cell : ∀ {w' : World} {F : List (Nat × Obj)} {q : Rs}, RI W ((gB, reO rc vt vd) :: F) g hb q.1 q.2 w' → w'.cell? ⟨gB, 11, none⟩ = some vd := fun h => (At.of (RI.blk h (p := (gB, reO rc vt vd)) (by simp))).c11
      have hne : ∃ w', (fun w' : World => w'.cell? ⟨gB, 11, none⟩ = some vd) w' := ⟨_, cell hIa⟩
      have hS : ∀ w', (fun w' : World => w'.cell? ⟨gB, 11, none⟩ = some vd) w' → w'.cell? ⟨gB, 11, none⟩ = some vd := fun w' h => h
      refine st_draw (fun w' => w'.cell? ⟨gB, 11, none⟩ = some vd) (cell hIa) ?_
      simp (disch := first | assumption | omega) only [SX, SLX, add_mk, Nat.reduceAdd]
      refine st_call (gTwo hIa) ?_
      rintro _ w4 ⟨rfl, hk1, hI4⟩
      refine st_same (cell hI4) ?_
      simp (disch := first | assumption | omega) only [SX, SLX, add_mk, Nat.reduceAdd, w64]
      refine st_call (gEight hI4) ?_
      rintro _ w6 ⟨rfl, hI6⟩
      refine st_same (cell hI6) ?_
      rw [step_run (build_di _ _ _)]
      refine st_same (cell hI6) ?_
      generalize htx : (⟨((tk sc 2).1 : Nat), (tk (tk sc 2).2 8).1⟩ : Di) = di
      obtain ⟨T, hO, hU, hcl⟩ := RI.open_ hI6
      refine st_newRow (row_di di) hU hO ?_
      intro g7 w7 hU7 hO7 hg7
      refine st_same (cell_at (hO7.at_ 1 rfl)) ?_
      obtain ⟨inf, hi1, hz1, hsz, hby⟩ := inf53
      refine st_append (h := hd) (F := (gB, reO rc vt vd) :: (gA, reO re0 nilS nilS) :: (ht ++ ((g7, .cells (diV di).toArray 53 (0, 0)) :: T))) (ys := diV di) (m := 1) u31 hi1 hz1 hsz hby rfl (by omega) h2 ?_ hU7 (fun p hp => .inr (h3 p (List.mem_append_right _ hp))) (rd_rowN (n := 1) (c := 1) (xs := diV di) (hO7.at_ 0 rfl) rfl (by omega) rfl) (diV_one di) (by rw [hrcl]; unfold maxLen; omega) (by rw [hrcl]; omega) ?_
      · refine hO7.perm ?_
        refine List.Perm.trans ?_ (perm2 (gB, reO rc vt vd) (gA, reO re0 nilS nilS) ht hd _)
        exact (List.perm_middle (l₁ := (gB, reO rc vt vd) :: (gA, reO re0 nilS nilS) :: (ht ++ hd)) (l₂ := T)).symm
      intro v8 w8 h8 hr8 hO8 hU8 hh8
      have hO8 : Owns w8 ((gB, reO rc vt vd) :: (gA, reO re0 nilS nilS) :: (ht ++ h8) ++ T) := by
        have hO8' : Owns w8 (h8 ++ ((gB, reO rc vt vd) :: (gA, reO re0 nilS nilS) :: (ht ++ T))) := hO8.sub (List.Sublist.append (List.Sublist.refl _) (.cons_cons _ (.cons_cons _ (List.Sublist.append (List.Sublist.refl _) (.cons _ (List.Sublist.refl _))))))
        exact hO8'.perm (perm2 (gB, reO rc vt vd) (gA, reO re0 nilS nilS) ht h8 T).symm
      refine st_keepT (fun _ => True) trivial ?_
      have hne' : ∃ w' : World, (fun _ => True) w' := ⟨w8, trivial⟩
      simp (disch := first | assumption | omega) only [SX, SLX, add_mk, Nat.reduceAdd]
      have hI8 := hcl w8 _ hU8 hO8
      refine st_fld (r := rc) (r' := { rc with ds := rc.ds ++ [di] }) (vt' := vt) (vd' := v8) hI8 hB sz31 (RowH.one hr8).2 (by omega) rfl ?_
      intro w9 hI9
      refine st_keepT (fun _ => True) trivial ?_
      have hrow8 : RowH 53 2 v8 (rc.ds ++ [di]).length ((rc.ds ++ [di]).flatMap diV) h8 := by
        rw [flat_snoc, List.length_append]; exact hr8
      refine ⟨⟨j + 1, by omega, ?_, ?_⟩, ?_⟩
      · rw [show ((j : Nat) : Int) + 1 = ((j + 1 : Nat) : Int) by omega, wrapU8, Nat.mod_eq_of_lt (by omega)]; rfl
      · have e1 : ({ r with ts := (many gTx i s1).1, ds := (many gDi (j + 1) s3).1 } : Re) = { rc with ds := rc.ds ++ [di] } := by
          rw [many_succ, ← hrc, hsc, ← htx]; rfl
        have e2 : (many gDi (j + 1) s3).2 = (tk (tk sc 2).2 8).2 := by rw [many_succ, hsc]; rfl
        rw [e1, e2]
        refine ⟨vt, v8, ht, h8, h1, hrow8, fun p hp => ?_, hA, hB, hI9⟩
        rcases List.mem_append.1 hp with hp | hp
        · exact h3 p (List.mem_append_left _ hp)
        · exact (hh8 p hp).resolve_left (by simp)
      · rw [show ((j : Nat) : Int) + 1 = ((j + 1 : Nat) : Int) by omega, wrapU8, Nat.mod_eq_of_lt (by omega)]
        simp only [List.getD_cons_zero, intOf]; omega
    · obtain rfl : j = n2 := by omega
      exact onF_mk rfl rfl rfl rfl rfl ⟨vt, vd, ht, hd, h1, h2, h3, hA, hB, hI⟩
end Go.Proofs.Ytconmaojfkmlnaa.Rec
