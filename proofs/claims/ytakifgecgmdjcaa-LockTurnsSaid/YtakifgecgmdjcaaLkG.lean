/- Locks: Ask. -/
import Derived.Test.YtakifgecgmdjcaaLkF
namespace Go.Proofs.Ytakifgecgmdjcaa
open Go Xf Go.RowKit
set_option linter.unusedVariables false
set_option linter.unusedSimpArgs false
set_option maxRecDepth 100000

section
variable {W w w' : World} {ks : List Nat} {F G : List (Nat × Obj)} {T : Tb} {g : Nat} {K : Value → World → Prop}
theorem info_int : ∃ i, Try.prog.info? 3 = some i ∧ i.zero = some (.int .i64 0) ∧ i.size = 1 ∧ i.bytes = 8 := inf3
/-- one more stands in a row -/
theorem TbAt.pushT {s : List UInt8} {gn : Nat} {n : Nm} {vt : Value} (h : TbAt W ks F T g w) (hn : aGet T.names s = some (gn, n)) (hc : w.cell? ⟨gn, 1, none⟩ = some vt) (hl : n.turns.length ≤ 1000000) (x : Int)
    (hk : ∀ w', TbAt W ks F (putN T s (gn, { n with turns := n.turns ++ [x] })) g w' → K undef w') :
    (std Try.prog).step (sBuildSlice 42 1 [(0, .int .i64 x)]) w fun v w => (std Try.prog).step (sBuiltin .append #[42, 42] 42 [false, false] [vt, v]) w fun u w => (std Try.prog).step (sNil (.pointer (some ⟨gn, 0, none⟩))) w fun a w => (std Try.prog).step (sFieldAddr 69 a 1) w fun a w => (std Try.prog).step (sStore 42 a u) w K := by
  obtain ⟨hx, G, h1, h2, h3, h4, h5, h6⟩ := h.focus hn
  obtain ⟨bh, oh, vt', vr, ht, hr, rfl, hmap, hrt, hrr⟩ := h1
  have : vt' = vt := by
    have := (cell_at (off := 1) (h2.at_ 0 rfl)).symm.trans hc
    simpa using this
  subst this
  refine st_newRow (fun w => row_int x w) h3 h2 ?_
  intro gr w1 hU1 hO1 hgr
  obtain ⟨inf, e1, e2, e3, e4⟩ := info_int
  have hP : Owns w1 (ht ++ ((gr, .cells #[.int .i64 x] 3 (0, 0)) :: (gn, nmO bh vt' vr) :: (bh, oh) :: (hr ++ G))) := hO1.perm (by
    classical
    refine List.perm_iff_count.2 fun y => ?_
    simp only [List.count_cons, List.count_append]
    omega)
  have hrd : Rd w1 1 (.slice (some ⟨gr, 0, none⟩) 1 1) 1 (intsV .i64 [x]) := ⟨_, 1, rfl, Nat.le_refl _, rfl, fun j u hu => ⟨_, rfl, cells_read (cs := #[.int .i64 x]) (hO1.at_ 0 rfl) j u hu⟩⟩
  have hmx : (1000001 : Nat) ≤ maxLen := by decide
  refine st_append u42 e1 e2 e3 e4 rfl (by omega) hrt hP hU1 (fun p hp => h4 p (by simp [hp])) hrd (intsV_one _ _) (by omega) (by omega) ?_
  intro v2 w2 ht2 hr2 hO2 hU2 hh2
  have hr2 : RowH 3 1 v2 (n.turns ++ [x]).length (intsV .i64 (n.turns ++ [x])) ht2 := by
    rw [List.length_append, List.length_singleton]
    have : intsV .i64 (n.turns ++ [x]) = intsV .i64 n.turns ++ intsV .i64 [x] := by simp [intsV]
    rw [this]; exact hr2
  have hO2 : Owns w2 ((gn, nmO bh vt' vr) :: (gr, .cells #[.int .i64 x] 3 (0, 0)) :: (bh, oh) :: (ht2 ++ (hr ++ G))) := hO2.perm (by
    classical
    refine List.perm_iff_count.2 fun y => ?_
    simp only [List.count_cons, List.count_append]
    omega)
  obtain ⟨A2, n2, rfl⟩ := RowH.sl' hr2
  simp (disch := first | assumption | omega) only [PX, add_mk, Nat.reduceAdd]
  have hgW := h4 _ (List.mem_cons_self ..)
  refine st_storeB sz42 rfl hU2 hO2 0 rfl (by simp) (.inr (Nat.zero_le _)) hgW ?_
  intro w3 hU3 hO3
  refine hk w3 (h6 w3 _ ((gn, nmO bh (.slice A2 (n.turns ++ [x]).length n2) vr) :: (bh, oh) :: (ht2 ++ hr)) ⟨bh, oh, _, vr, ht2, hr, rfl, hmap, hr2, hrr⟩ ?_ hU3 fun p hp => ?_)
  · have := Owns.sub (h := (gn, nmO bh (.slice A2 (n.turns ++ [x]).length n2) vr) :: (gr, .cells #[.int .i64 x] 3 (0, 0)) :: (bh, oh) :: (ht2 ++ (hr ++ G))) hO3 (.cons_cons _ (.cons _ (List.Sublist.refl _)))
    simpa only [List.cons_append, List.append_assoc] using this
  · rcases List.mem_cons.1 hp with rfl | hp
    · exact hgW
    rcases List.mem_cons.1 hp with rfl | hp
    · exact h4 _ (by simp)
    rcases List.mem_append.1 hp with hp | hp
    · exact hh2 p hp
    · exact h4 p (by simp [hp])
theorem TbAt.pushR {s : List UInt8} {gn : Nat} {n : Nm} {vr : Value} (h : TbAt W ks F T g w) (hn : aGet T.names s = some (gn, n)) (hc : w.cell? ⟨gn, 2, none⟩ = some vr) (hl : n.row.length ≤ 1000000) (x : Int)
    (hk : ∀ w', TbAt W ks F (putN T s (gn, { n with row := n.row ++ [x] })) g w' → K undef w') :
    (std Try.prog).step (sBuildSlice 42 1 [(0, .int .i64 x)]) w fun v w => (std Try.prog).step (sBuiltin .append #[42, 42] 42 [false, false] [vr, v]) w fun u w => (std Try.prog).step (sNil (.pointer (some ⟨gn, 0, none⟩))) w fun a w => (std Try.prog).step (sFieldAddr 69 a 2) w fun a w => (std Try.prog).step (sStore 42 a u) w K := by
  obtain ⟨hx, G, h1, h2, h3, h4, h5, h6⟩ := h.focus hn
  obtain ⟨bh, oh, vt, vr', ht, hr, rfl, hmap, hrt, hrr⟩ := h1
  have : vr' = vr := by
    have := (cell_at (off := 2) (h2.at_ 0 rfl)).symm.trans hc
    simpa using this
  subst this
  refine st_newRow (fun w => row_int x w) h3 h2 ?_
  intro gr w1 hU1 hO1 hgr
  obtain ⟨inf, e1, e2, e3, e4⟩ := info_int
  have hP : Owns w1 (hr ++ ((gr, .cells #[.int .i64 x] 3 (0, 0)) :: (gn, nmO bh vt vr') :: (bh, oh) :: (ht ++ G))) := hO1.perm (by
    classical
    refine List.perm_iff_count.2 fun y => ?_
    simp only [List.count_cons, List.count_append]
    omega)
  have hrd : Rd w1 1 (.slice (some ⟨gr, 0, none⟩) 1 1) 1 (intsV .i64 [x]) := ⟨_, 1, rfl, Nat.le_refl _, rfl, fun j u hu => ⟨_, rfl, cells_read (cs := #[.int .i64 x]) (hO1.at_ 0 rfl) j u hu⟩⟩
  have hmx : (1000001 : Nat) ≤ maxLen := by decide
  refine st_append u42 e1 e2 e3 e4 rfl (by omega) hrr hP hU1 (fun p hp => h4 p (by simp [hp])) hrd (intsV_one _ _) (by omega) (by omega) ?_
  intro v2 w2 ht2 hr2 hO2 hU2 hh2
  have hr2 : RowH 3 1 v2 (n.row ++ [x]).length (intsV .i64 (n.row ++ [x])) ht2 := by
    rw [List.length_append, List.length_singleton]
    have : intsV .i64 (n.row ++ [x]) = intsV .i64 n.row ++ intsV .i64 [x] := by simp [intsV]
    rw [this]; exact hr2
  have hO2 : Owns w2 ((gn, nmO bh vt vr') :: (gr, .cells #[.int .i64 x] 3 (0, 0)) :: (bh, oh) :: (ht ++ (ht2 ++ G))) := hO2.perm (by
    classical
    refine List.perm_iff_count.2 fun y => ?_
    simp only [List.count_cons, List.count_append]
    omega)
  obtain ⟨A2, n2, rfl⟩ := RowH.sl' hr2
  simp (disch := first | assumption | omega) only [PX, add_mk, Nat.reduceAdd]
  have hgW := h4 _ (List.mem_cons_self ..)
  refine st_storeB sz42 rfl hU2 hO2 0 rfl (by simp) (.inr (Nat.zero_le _)) hgW ?_
  intro w3 hU3 hO3
  refine hk w3 (h6 w3 _ ((gn, nmO bh vt (.slice A2 (n.row ++ [x]).length n2)) :: (bh, oh) :: (ht ++ ht2)) ⟨bh, oh, vt, _, ht, ht2, rfl, hmap, hrt, hr2⟩ ?_ hU3 fun p hp => ?_)
  · have := Owns.sub (h := (gn, nmO bh vt (.slice A2 (n.row ++ [x]).length n2)) :: (gr, .cells #[.int .i64 x] 3 (0, 0)) :: (bh, oh) :: (ht ++ (ht2 ++ G))) hO3 (.cons_cons _ (.cons _ (List.Sublist.refl _)))
    simpa only [List.cons_append, List.append_assoc] using this
  · rcases List.mem_cons.1 hp with rfl | hp
    · exact hgW
    rcases List.mem_cons.1 hp with rfl | hp
    · exact h4 _ (by simp)
    rcases List.mem_append.1 hp with hp | hp
    · exact h4 p (by simp [hp])
    · exact hh2 p hp
/-- the end of Ask: it waits -/
theorem Ask_k5 {b : Nat} {v : Wt} {txn : Int} {Q : Value → World → Prop} (h : TbAt W ks (wtBx b v :: F) T g w) (hQ : ∀ w', TbAt W ks (wtBx b v :: F) ⟨T.names, aSet T.waits txn v⟩ g w' → Q (askV false 0) w') :
    lock_Table_Ask_k5 (std Try.prog) (.pointer (some ⟨g, 0, none⟩)) (.int .i64 txn) (.pointer (some ⟨b, 0, none⟩)) w Q := by
  unfold lock_Table_Ask_k5
  have h1 := h.upd (Upd.drew w [])
  obtain ⟨bn, bw, on, ow, -, c1, -, -, -, -, hg⟩ := h1.look
  let S : World → Prop := fun w' => w'.heap[g]? = some (tbO bn bw) ∧ w'.heap[b]? = some (wtBx b v).2
  have hS : S w.drew := ⟨hg, h1.at_ (List.mem_cons_self ..)⟩
  have hne : ∃ w', S w' := ⟨_, hS⟩
  have e1 : ∀ w', S w' → w'.cell? ⟨g, 1, none⟩ = some (.map (some bw)) := fun w' hs => (cell_at hs.1).trans rfl
  refine st_draw S hS ?_
  simp (disch := first | exact hne | assumption | omega) only [SX, SLX, add_mk, Nat.reduceAdd]
  rw [stepS_run hne fun w' hs => run_sLoad (wt_load hs.2)]
  refine st_waitsSet h1 c1 txn v ?_
  intro w2 h2
  refine st_keepT (fun _ => True) trivial ?_
  exact hQ w2 h2
end
end Go.Proofs.Ytakifgecgmdjcaa
