/- Locks: edges that are told. -/
import Derived.Test.YtakifgecgmdjcaaLkAD
namespace Go.Proofs.Ytakifgecgmdjcaa
open Go Xf Go.RowKit
set_option linter.unusedVariables false
set_option linter.unusedSimpArgs false
set_option maxRecDepth 100000

abbrev Ed := Int × Int
def edV (e : Ed) : List Value := [.int .i64 e.1, .int .i64 e.2]
def edsV (l : List Ed) : List Value := l.flatMap edV
theorem edsV_len (l : List Ed) : (edsV l).length = l.length * 2 := flat_len edV 2 (fun _ => rfl) l
theorem edsV_one (l : List Ed) : ∀ y ∈ edsV l, y.oneCell' = true := by
  intro y hy
  obtain ⟨p, -, hy⟩ := List.mem_flatMap.1 hy
  simp only [edV, List.mem_cons, List.not_mem_nil, or_false] at hy
  rcases hy with rfl | rfl <;> rfl
theorem build_ed (x y : Int) (w : World) : (sBuild 53 [(0, .int .i64 x), (1, .int .i64 y)]).run Try.prog w = .ok (.value (.agg (edV (x, y)).toArray)) w := by kernel_rfl
theorem row_ed (p : Ed) (w : World) : (sBuildSlice 49 1 [(0, .agg (edV p).toArray)]).run Try.prog w = .ok (.value (.slice (some ⟨w.heap.size, 0, none⟩) 1 1)) (w.alloc (.cells (edV p).toArray 53)) := by kernel_rfl
theorem info_ed : ∃ i, Try.prog.info? 53 = some i ∧ i.zero = some (.agg #[.int .i64 0, .int .i64 0]) ∧ i.size = 2 ∧ i.bytes = 16 := inf53
def yieldV (b : Nat) : Value := .func (.func 33) #[] #[.pointer (some ⟨b, 0, none⟩)]
theorem mk_yield (b : Nat) (w : World) : (sMakeFunc (.func 33) [] [.pointer (some ⟨b, 0, none⟩)]).run Try.prog w = .ok (.value (yieldV b)) w := by kernel_rfl
theorem call_yield (b : Nat) (x : Value) (w : World) : (sCallV (yieldV b) [x]).run Try.prog w = .ok (.enter 33 #[x, .pointer (some ⟨b, 0, none⟩)]) w := by kernel_rfl
def edB (b : Nat) (v : Value) : Nat × Obj := (b, .cells #[v] 49 (0, 0))
/-- what has been told, beside the blocks of R -/
def EdO (W : World) (ks : List Nat) (R : List (Nat × Obj)) (es : List Ed) (b : Nat) (w : World) : Prop :=
  ∃ v hl, RowH 53 2 v es.length (edsV es) hl ∧ Owns w (edB b v :: (hl ++ R)) ∧ Upd W w ks ∧ (∀ p ∈ hl, p.1 ∈ ks ∨ W.heap.size ≤ p.1) ∧ W.heap.size ≤ b
section
variable {W w w' : World} {ks : List Nat} {R R' : List (Nat × Obj)} {es : List Ed} {b : Nat} {K : Value → World → Prop}
theorem EdO.upd (h : EdO W ks R es b w) (hU : Upd w w' []) : EdO W ks R es b w' := by
  obtain ⟨v, hl, h1, h2, h3, h4, h5⟩ := h
  exact ⟨v, hl, h1, h2.ext hU, h3.then_ hU (fun x hx => by cases hx), h4, h5⟩
theorem EdO.weak (h : EdO W ks R es b w) (hs : R'.Sublist R) : EdO W ks R' es b w := by
  obtain ⟨v, hl, h1, h2, h3, h4, h5⟩ := h
  exact ⟨v, hl, h1, h2.sub ((hs.append_left hl).cons_cons _), h3, h4, h5⟩
theorem EdO.permR (h : EdO W ks R es b w) (hs : R.Perm R') : EdO W ks R' es b w := by
  obtain ⟨v, hl, h1, h2, h3, h4, h5⟩ := h
  exact ⟨v, hl, h1, h2.perm ((hs.append_left hl).cons _), h3, h4, h5⟩
theorem EdO.at_ (h : EdO W ks R es b w) {p : Nat × Obj} (hp : p ∈ R) : w.heap[p.1]? = some p.2 := by
  obtain ⟨v, hl, h1, h2, h3, h4, h5⟩ := h
  exact h2.2 p (List.mem_cons_of_mem _ (List.mem_append_right _ hp))
theorem EdO.u (h : EdO W ks R es b w) : Upd W w ks := by obtain ⟨v, hl, h1, h2, h3, h4, h5⟩ := h; exact h3
theorem edPerm {x : Nat × Obj} {v : Value} {hl : List (Nat × Obj)} : (x :: edB b v :: (hl ++ R)).Perm (edB b v :: (hl ++ x :: R)) := by
  classical
  refine List.perm_iff_count.2 fun y => ?_
  simp only [List.count_cons, List.count_append]
  omega
theorem yield_spec (h : EdO W ks R es b w) (hn : es.length ≤ 1000000000) (p : Ed) : CallsR Try.prog 33 #[.agg (edV p).toArray, .pointer (some ⟨b, 0, none⟩)] w fun u w' => u = .tuple #[] ∧ EdO W ks R (es ++ [p]) b w' := by
  obtain ⟨v, hl, hr, hO, hU, hm, hb⟩ := h
  apply lock_Table_Edges_1_sound
  unfold lock_Table_Edges_1_x
  refine st_box hU hO ?_
  intro b2 w1 hU1 hO1 hb2
  have hO1 : Owns w1 ((b2, .cells (edV p).toArray 53 (0, 0)) :: edB b v :: (hl ++ R)) := hO1
  obtain ⟨A1, n1, rfl⟩ := RowH.sl' hr
  have hcell : w1.cell? ⟨b, 0, none⟩ = some (.slice A1 es.length n1) := (cell_at (hO1.at_ 1 rfl)).trans rfl
  refine st_load ag49 hcell ?_
  rw [step_run (run_sLoad (run_loadVarN ag53 (cs := edV p) (by rw [sz53]; rfl) (cells_read (cs := (edV p).toArray) (hO1.at_ 0 rfl))))]
  refine st_newRow (fun w => row_ed p w) hU1 hO1 ?_
  intro gr w2 hU2 hO2 hgr
  obtain ⟨inf, e1, e2, e3, e4⟩ := info_ed
  have hP : Owns w2 (hl ++ ((gr, .cells (edV p).toArray 53 (0, 0)) :: (b2, .cells (edV p).toArray 53 (0, 0)) :: edB b (.slice A1 es.length n1) :: R)) := hO2.perm (by
    classical
    refine List.perm_iff_count.2 fun y => ?_
    simp only [List.count_cons, List.count_append]
    omega)
  have hrd : Rd w2 2 (.slice (some ⟨gr, 0, none⟩) 1 1) 1 (edsV [p]) := ⟨_, 1, rfl, Nat.le_refl _, edsV_len _, fun j u hu => ⟨_, rfl, cells_read (cs := (edV p).toArray) (hO2.at_ 0 rfl) j u (by simpa [edsV] using hu)⟩⟩
  have hmx : (1000000001 : Nat) ≤ maxLen := by decide
  refine st_append u49 e1 e2 e3 e4 rfl (by omega) hr hP hU2 hm hrd (edsV_one _) (by omega) (by omega) ?_
  intro v3 w3 h3 hr3 hO3 hU3 hm3
  have hr3 : RowH 53 2 v3 (es ++ [p]).length (edsV (es ++ [p])) h3 := by
    rw [List.length_append, List.length_singleton]
    have : edsV (es ++ [p]) = edsV es ++ edsV [p] := by simp [edsV]
    rw [this]; exact hr3
  have hO3 : Owns w3 (edB b (.slice A1 es.length n1) :: (gr, .cells (edV p).toArray 53 (0, 0)) :: (b2, .cells (edV p).toArray 53 (0, 0)) :: (h3 ++ R)) := hO3.perm (by
    classical
    refine List.perm_iff_count.2 fun y => ?_
    simp only [List.count_cons, List.count_append]
    omega)
  obtain ⟨A3, n3, rfl⟩ := RowH.sl' hr3
  refine st_storeB sz49 rfl hU3 hO3 0 rfl (by simp) (.inr (Nat.zero_le _)) (.inr hb) ?_
  intro w4 hU4 hO4
  have hO4 : Owns w4 (edB b (.slice A3 (es ++ [p]).length n3) :: (gr, .cells (edV p).toArray 53 (0, 0)) :: (b2, .cells (edV p).toArray 53 (0, 0)) :: (h3 ++ R)) := hO4
  exact ⟨rfl, _, h3, hr3, hO4.sub (.cons_cons _ (.cons _ (.cons _ (List.Sublist.refl _)))), hU4, hm3, hb⟩
/-- edges: one is told -/
theorem st_yield (h : EdO W ks R es b w) (hn : es.length ≤ 1000000000) (x y : Int) (hk : ∀ w', EdO W ks R (es ++ [(x, y)]) b w' → K (.tuple #[]) w') :
    (std Try.prog).step (sBuild 53 [(0, .int .i64 x), (1, .int .i64 y)]) w fun v w => (std Try.prog).step (sCallV (yieldV b) [v]) w K := by
  rw [step_run (build_ed _ _ _), step_enter (call_yield _ _ _)]
  exact CallsR.mono (yield_spec h hn (x, y)) fun u w' ⟨h1, h2⟩ => by subst h1; exact hk w' h2
theorem EdO.range {κ ν : Type} [DecidableEq κ] {t kt et : TypeId} {ke : κ → Value} {ve : ν → Value} {m : Nat} {o : Obj} {l : List (κ × ν)} (ht : Try.prog.underlying t = some (.map kt et)) (h : EdO W ks R es b w) (hi : (m, o) ∈ R) (hm : MapO ke ve l o)
    (hK : ∀ g w' ob, IterH ke ve m o l ob → EdO W ks ((g, ob) :: R) es b w' → W.heap.size ≤ g → K (.pointer (some ⟨g, 0, none⟩)) w') : (std Try.prog).step (sRange t (.map (some m))) w K := by
  obtain ⟨v, hl, hr, hO, hU, hmine, hb⟩ := h
  obtain ⟨i, hi'⟩ := List.getElem?_of_mem (List.mem_cons_of_mem (edB b v) (List.mem_append_right hl hi))
  refine st_range ht hU hO i hi' hm ?_
  intro g w' ob hI hU' hO' hg
  exact hK g w' ob hI ⟨v, hl, hr, hO'.perm edPerm, hU', hmine, hb⟩ hg
theorem EdO.next {κ ν : Type} [DecidableEq κ] {ty : TypeId} {ke : κ → Value} {ve : ν → Value} {r m : Nat} {o ob : Obj} {left : List (κ × ν)} (h : EdO W ks ((r, ob) :: R) es b w) (hj : (m, o) ∈ R) (hI : IterH ke ve m o left ob) (hr : W.heap.size ≤ r)
    (h0 : left = [] → K (.tuple #[.bool false]) w)
    (h1 : ∀ (p : κ × ν) (left' : List (κ × ν)) (w' : World) (ob' : Obj), (p :: left').Perm left → IterH ke ve m o left' ob' → (sEntry (.pointer (some ⟨r, 0, none⟩))).run Try.prog w' = .ok (.value (.tuple #[ke p.1, ve p.2])) w' → EdO W ks ((r, ob') :: R) es b w' → K (.tuple #[.bool true, ke p.1, ve p.2]) w') : (std Try.prog).step (sNext (.pointer (some ⟨r, 0, none⟩)) false ty) w K := by
  obtain ⟨v, hl, hrow, hO, hU, hmine, hb⟩ := h
  have hO := hO.perm edPerm.symm
  obtain ⟨j, hj'⟩ := List.getElem?_of_mem (List.mem_cons_of_mem (r, ob) (List.mem_cons_of_mem (edB b v) (List.mem_append_right hl hj)))
  refine st_next hU hO 0 rfl j hj' hI (.inr hr) h0 ?_
  intro p left' w' ob' hperm hI' hent hU' hO'
  have hO' : Owns w' ((r, ob') :: edB b v :: (hl ++ R)) := hO'
  refine h1 p left' w' ob' hperm hI' (hent w' (hO'.at_ 0 rfl) (hO'.2 (m, o) (List.mem_cons_of_mem _ (List.mem_cons_of_mem _ (List.mem_append_right _ hj))))) ⟨v, hl, hrow, hO'.perm edPerm, hU', hmine, hb⟩
end
end Go.Proofs.Ytakifgecgmdjcaa
