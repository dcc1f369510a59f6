/- Locks: leave. -/
import Derived.Test.YtakifgecgmdjcaaLkB
namespace Go.Proofs.Ytakifgecgmdjcaa
open Go Xf Go.RowKit
set_option linter.unusedVariables false
set_option linter.unusedSimpArgs false
set_option maxRecDepth 100000

def leaveN (n : Nm) (txn : Int) : Nm := { n with turns := outN n.turns txn, row := outN n.row txn }
theorem outN_le (l : List Int) (x : Int) : (outN l x).length ≤ l.length := List.length_filter_le _ _
theorem leave_spec {w W : World} {ks : List Nat} {F h : List (Nat × Obj)} {n : Nm} {g : Nat} (hn : NmH n g h) (hO : Owns w (h ++ F)) (hU : Upd W w ks) (hh : ∀ p ∈ h, p.1 ∈ ks ∨ W.heap.size ≤ p.1) (hl : n.turns.length ≤ 1000000 ∧ n.row.length ≤ 1000000) (txn : Int) :
    CallsR Try.prog 43 #[.pointer (some ⟨g, 0, none⟩), .int .i64 txn] w fun u w' => u = .bool (decide ((outN n.turns txn).length + (outN n.row txn).length < n.turns.length + n.row.length)) ∧ Upd W w' ks ∧ ∃ h', NmH (leaveN n txn) g h' ∧ Owns w' (h' ++ F) ∧ ∀ p ∈ h', p.1 ∈ ks ∨ W.heap.size ≤ p.1 := by
  obtain ⟨bh, oh, vt, vr, ht, hr, rfl, hmap, hrt, hrr⟩ := hn
  have hgW := hh _ (List.mem_cons_self ..)
  apply lock_name_leave_sound
  unfold lock_name_leave_x
  refine st_box hU hO ?_
  intro g3 w1 hU1 hO1 hg3
  have hO1 : Owns w1 ((g3, .cells #[.int .i64 txn] 3 (0, 0)) :: (g, nmO bh vt vr) :: (bh, oh) :: (ht ++ hr ++ F)) := hO1
  obtain ⟨A1, n1, rfl⟩ := RowH.sl' hrt
  obtain ⟨A2, n2, rfl⟩ := RowH.sl' hrr
  have hO2 := hO1.ext (Upd.drew w1 [])
  have hU2 := hU1.then_ (Upd.drew w1 []) (fun x hx => by cases hx)
  let S : World → Prop := fun w' => w'.heap[g]? = some (nmO bh (.slice A1 n.turns.length n1) (.slice A2 n.row.length n2))
  have hne : ∃ w', S w' := ⟨_, hO2.at_ 1 rfl⟩
  have c1 : ∀ w', S w' → w'.cell? ⟨g, 1, none⟩ = some (.slice A1 n.turns.length n1) := fun w' hs => (cell_at hs).trans rfl
  have c2 : ∀ w', S w' → w'.cell? ⟨g, 2, none⟩ = some (.slice A2 n.row.length n2) := fun w' hs => (cell_at hs).trans rfl
  refine st_draw S (hO2.at_ 1 rfl) ?_
  simp (disch := first | exact hne | assumption | omega) only [SX, SLX, add_mk, Nat.reduceAdd]
  rw [step_run (mk_same _ _)]
  have d1 := c1 _ (hO2.at_ 1 rfl)
  simp (disch := first | assumption | omega) only [PX, LX, add_mk, Nat.reduceAdd]
  have hP : Owns w1.drew (ht ++ ((g3, .cells #[.int .i64 txn] 3 (0, 0)) :: (g, nmO bh (.slice A1 n.turns.length n1) (.slice A2 n.row.length n2)) :: (bh, oh) :: (hr ++ F))) := hO2.perm (by
    classical
    refine List.perm_iff_count.2 fun y => ?_
    simp only [List.count_cons, List.count_append]
    omega)
  refine st_call (DeleteFunc_spec hrt hl.1 hP hU2 (fun p hp => hh p (by simp [hp])) (List.mem_cons_self ..)) ?_
  rintro u1 w3 ⟨h3, hr3, hO3, hU3, hh3⟩
  have hO3 : Owns w3 ((g, nmO bh (.slice A1 n.turns.length n1) (.slice A2 n.row.length n2)) :: (g3, .cells #[.int .i64 txn] 3 (0, 0)) :: (bh, oh) :: (h3 ++ (hr ++ F))) := hO3.perm (by
    classical
    refine List.perm_iff_count.2 fun y => ?_
    simp only [List.count_cons, List.count_append]
    omega)
  obtain ⟨A3, n3, rfl⟩ := RowH.sl' hr3
  refine st_storeB sz42 rfl hU3 hO3 0 rfl (by simp) (.inr (Nat.zero_le _)) hgW ?_
  intro w4 hU4 hO4
  have hO4 : Owns w4 ((g, nmO bh (.slice A3 (outN n.turns txn).length n3) (.slice A2 n.row.length n2)) :: (g3, .cells #[.int .i64 txn] 3 (0, 0)) :: (bh, oh) :: (h3 ++ (hr ++ F))) := hO4
  have d2 : w4.cell? ⟨g, 2, none⟩ = some (.slice A2 n.row.length n2) := (cell_at (hO4.at_ 0 rfl)).trans rfl
  simp (disch := first | assumption | omega) only [PX, LX, add_mk, Nat.reduceAdd]
  have hP4 : Owns w4 (hr ++ ((g3, .cells #[.int .i64 txn] 3 (0, 0)) :: (g, nmO bh (.slice A3 (outN n.turns txn).length n3) (.slice A2 n.row.length n2)) :: (bh, oh) :: (h3 ++ F))) := hO4.perm (by
    classical
    refine List.perm_iff_count.2 fun y => ?_
    simp only [List.count_cons, List.count_append]
    omega)
  refine st_call (DeleteFunc_spec hrr hl.2 hP4 hU4 (fun p hp => hh p (by simp [hp])) (List.mem_cons_self ..)) ?_
  rintro u2 w5 ⟨h5, hr5, hO5, hU5, hh5⟩
  have hO5 : Owns w5 ((g, nmO bh (.slice A3 (outN n.turns txn).length n3) (.slice A2 n.row.length n2)) :: (g3, .cells #[.int .i64 txn] 3 (0, 0)) :: (bh, oh) :: (h3 ++ (h5 ++ F))) := hO5.perm (by
    classical
    refine List.perm_iff_count.2 fun y => ?_
    simp only [List.count_cons, List.count_append]
    omega)
  obtain ⟨A5, n5, rfl⟩ := RowH.sl' hr5
  refine st_storeB sz42 rfl hU5 hO5 0 rfl (by simp) (.inr (Nat.zero_le _)) hgW ?_
  intro w6 hU6 hO6
  have hO6 : Owns w6 ((g, nmO bh (.slice A3 (outN n.turns txn).length n3) (.slice A5 (outN n.row txn).length n5)) :: (g3, .cells #[.int .i64 txn] 3 (0, 0)) :: (bh, oh) :: (h3 ++ (h5 ++ F))) := hO6
  have hO7 := hO6.ext (Upd.drew w6 [])
  have hU7 := hU6.then_ (Upd.drew w6 []) (fun x hx => by cases hx)
  let S2 : World → Prop := fun w' => w'.heap[g]? = some (nmO bh (.slice A3 (outN n.turns txn).length n3) (.slice A5 (outN n.row txn).length n5))
  have hne2 : ∃ w', S2 w' := ⟨_, hO7.at_ 0 rfl⟩
  have e1 : ∀ w', S2 w' → w'.cell? ⟨g, 1, none⟩ = some (.slice A3 (outN n.turns txn).length n3) := fun w' hs => (cell_at hs).trans rfl
  have e2 : ∀ w', S2 w' → w'.cell? ⟨g, 2, none⟩ = some (.slice A5 (outN n.row txn).length n5) := fun w' hs => (cell_at hs).trans rfl
  have l1 := outN_le n.turns txn
  have l2 := outN_le n.row txn
  refine st_draw S2 (hO7.at_ 0 rfl) ?_
  simp (disch := first | exact hne2 | assumption | omega) only [SX, SLX, add_mk, Nat.reduceAdd, w64]
  refine ⟨?_, hU7, (g, nmO bh (.slice A3 (outN n.turns txn).length n3) (.slice A5 (outN n.row txn).length n5)) :: (bh, oh) :: (h3 ++ h5), ⟨bh, oh, _, _, h3, h5, rfl, hmap, hr3, hr5⟩, ?_, fun p hp => ?_⟩
  · congr 1; rw [decide_eq_decide]; omega
  · have := hO7.sub (.cons_cons _ (.cons _ (List.Sublist.refl _)))
    simpa only [List.cons_append, List.append_assoc] using this
  · rcases List.mem_cons.1 hp with rfl | hp
    · exact hgW
    rcases List.mem_cons.1 hp with rfl | hp
    · exact hh _ (by simp)
    rcases List.mem_append.1 hp with hp | hp
    · exact hh3 p hp
    · exact hh5 p hp
end Go.Proofs.Ytakifgecgmdjcaa
