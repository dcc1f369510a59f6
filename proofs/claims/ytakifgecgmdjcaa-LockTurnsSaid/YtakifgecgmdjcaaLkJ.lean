/- Locks: who gets what: pass. -/
import Derived.Test.YtakifgecgmdjcaaLkI
namespace Go.Proofs.Ytakifgecgmdjcaa
open Go Xf Go.RowKit
set_option linter.unusedVariables false
set_option linter.unusedSimpArgs false
set_option maxRecDepth 100000

abbrev Gr := Int × Wt
def grV (p : Gr) : List Value := [.int .i64 p.1, strV p.2.name, .int .i64 p.2.mode]
def grsV (l : List Gr) : List Value := l.flatMap grV
theorem grsV_len (l : List Gr) : (grsV l).length = l.length * 3 := by
  induction l with
  | nil => rfl
  | cons p l ih => simp only [grsV, List.flatMap_cons, List.length_append, List.length_cons] at ih ⊢; simp only [grV, List.length_cons, List.length_nil]; omega
theorem grsV_one (l : List Gr) : ∀ y ∈ grsV l, y.oneCell' = true := by
  intro y hy
  obtain ⟨p, -, hy⟩ := List.mem_flatMap.1 hy
  simp only [grV, List.mem_cons, List.not_mem_nil, or_false] at hy
  rcases hy with rfl | rfl | rfl <;> rfl
def GrAt (W : World) (ks : List Nat) (F : List (Nat × Obj)) (gs : List Gr) (bl : Nat) (T : Tb) (g : Nat) (w : World) : Prop :=
  ∃ v hl, RowH 76 3 v gs.length (grsV gs) hl ∧ TbAt W ks ((bl, .cells #[v] 36 (0, 0)) :: (hl ++ F)) T g w ∧ (∀ p ∈ hl, p.1 ∈ ks ∨ W.heap.size ≤ p.1) ∧ W.heap.size ≤ bl
def toldV (b : Nat) : Value := .func (.func 45) #[] #[.pointer (some ⟨b, 0, none⟩)]
theorem mk_told (b : Nat) (w : World) : (sMakeFunc (.func 45) [] [.pointer (some ⟨b, 0, none⟩)]).run Try.prog w = .ok (.value (toldV b)) w := by kernel_rfl
theorem call_told (b : Nat) (x : Value) (w : World) : (sCallV (toldV b) [x]).run Try.prog w = .ok (.enter 45 #[x, .pointer (some ⟨b, 0, none⟩)]) w := by kernel_rfl
theorem row_gr (p : Gr) (w : World) : (sBuildSlice 36 1 [(0, .agg (grV p).toArray)]).run Try.prog w = .ok (.value (.slice (some ⟨w.heap.size, 0, none⟩) 1 1)) (w.alloc (.cells (grV p).toArray 76)) := by kernel_rfl
theorem build_gr (x : Int) (v : Wt) (w : World) : (sBuild 76 [(0, .int .i64 x), (1, wtV v)]).run Try.prog w = .ok (.value (.agg (grV (x, v)).toArray)) w := by kernel_rfl
theorem info_gr : ∃ i, Try.prog.info? 76 = some i ∧ i.zero = some (.agg #[.int .i64 0, .string ⟨#[]⟩, .int .i64 0]) ∧ i.size = 3 ∧ i.bytes = 32 := inf76

section
variable {W w w' : World} {ks : List Nat} {F G : List (Nat × Obj)} {T : Tb} {g : Nat} {K : Value → World → Prop}
theorem told_spec {gs : List Gr} {bl : Nat} (h : GrAt W ks F gs bl T g w) (hl : gs.length ≤ 1000000) (p : Gr) : CallsR Try.prog 45 #[.agg (grV p).toArray, .pointer (some ⟨bl, 0, none⟩)] w fun u w' => u = .tuple #[] ∧ GrAt W ks F (gs ++ [p]) bl T g w' := by
  obtain ⟨v, hl', hr, ⟨hU, hh, hT, hO, hm⟩, hm2, hbl⟩ := h
  apply lock_Table_gone_1_sound
  unfold lock_Table_gone_1_x
  refine st_box hU hO ?_
  intro b w1 hU1 hO1 hb
  have hO1 : Owns w1 ((b, .cells (grV p).toArray 76 (0, 0)) :: (hh ++ (bl, .cells #[v] 36 (0, 0)) :: (hl' ++ F))) := hO1
  obtain ⟨A1, n1, rfl⟩ := RowH.sl' hr
  have hcell : w1.cell? ⟨bl, 0, none⟩ = some (.slice A1 gs.length n1) := (cell_at (hO1.2 (bl, .cells #[.slice A1 gs.length n1] 36 (0, 0)) (by simp))).trans rfl
  refine st_load ag36 hcell ?_
  rw [step_run (run_sLoad (run_loadVarN ag76 (cs := grV p) (by rw [sz76]; rfl) (cells_read (cs := (grV p).toArray) (hO1.at_ 0 rfl))))]
  refine st_newRow (fun w => row_gr p w) hU1 hO1 ?_
  intro gr w2 hU2 hO2 hgr
  obtain ⟨inf, e1, e2, e3, e4⟩ := info_gr
  have hP : Owns w2 (hl' ++ ((gr, .cells (grV p).toArray 76 (0, 0)) :: (b, .cells (grV p).toArray 76 (0, 0)) :: (bl, .cells #[.slice A1 gs.length n1] 36 (0, 0)) :: (hh ++ F))) := hO2.perm (by
    classical
    refine List.perm_iff_count.2 fun y => ?_
    simp only [List.count_cons, List.count_append]
    omega)
  have hrd : Rd w2 3 (.slice (some ⟨gr, 0, none⟩) 1 1) 1 (grsV [p]) := ⟨_, 1, rfl, Nat.le_refl _, grsV_len _, fun j u hu => ⟨_, rfl, cells_read (cs := (grV p).toArray) (hO2.at_ 0 rfl) j u (by simpa [grsV] using hu)⟩⟩
  have hmx : (1000001 : Nat) ≤ maxLen := by decide
  refine st_append u36 e1 e2 e3 e4 rfl (by omega) hr hP hU2 hm2 hrd (grsV_one _) (by omega) (by omega) ?_
  intro v3 w3 h3 hr3 hO3 hU3 hm3
  have hr3 : RowH 76 3 v3 (gs ++ [p]).length (grsV (gs ++ [p])) h3 := by
    rw [List.length_append, List.length_singleton]
    have : grsV (gs ++ [p]) = grsV gs ++ grsV [p] := by simp [grsV]
    rw [this]; exact hr3
  have hO3 : Owns w3 ((bl, .cells #[.slice A1 gs.length n1] 36 (0, 0)) :: (gr, .cells (grV p).toArray 76 (0, 0)) :: (b, .cells (grV p).toArray 76 (0, 0)) :: (h3 ++ (hh ++ F))) := hO3.perm (by
    classical
    refine List.perm_iff_count.2 fun y => ?_
    simp only [List.count_cons, List.count_append]
    omega)
  obtain ⟨A3, n3, rfl⟩ := RowH.sl' hr3
  refine st_storeB sz36 rfl hU3 hO3 0 rfl (by simp) (.inr (Nat.zero_le _)) (.inr hbl) ?_
  intro w4 hU4 hO4
  have hO4 : Owns w4 ((bl, .cells #[.slice A3 (gs ++ [p]).length n3] 36 (0, 0)) :: (gr, .cells (grV p).toArray 76 (0, 0)) :: (b, .cells (grV p).toArray 76 (0, 0)) :: (h3 ++ (hh ++ F))) := hO4
  refine ⟨rfl, _, h3, hr3, ⟨hU4, hh, hT, ?_, hm⟩, hm3, hbl⟩
  refine (hO4.sub (.cons_cons _ (.cons _ (.cons _ (List.Sublist.refl _))))).perm ?_
  classical
  refine List.perm_iff_count.2 fun y => ?_
  simp only [List.count_cons, List.count_append]
  omega

/-- who goes in, one behind the other -/
def passN : Nat → Nm → List (Int × Wt) → Nm × List (Int × Wt) × List Gr
  | 0, n, ws => (n, ws, [])
  | k + 1, n, ws =>
    if firstN n = 0 then (n, ws, []) else
    if goesB n (firstN n) (wouldN n (firstN n) ((aGet ws (firstN n)).getD ⟨[], 0⟩).mode) then
      (let r := passN k { leaveN n (firstN n) with held := aSet n.held (firstN n) (wouldN n (firstN n) ((aGet ws (firstN n)).getD ⟨[], 0⟩).mode) } (aDel ws (firstN n))
       (r.1, r.2.1, (firstN n, (aGet ws (firstN n)).getD ⟨[], 0⟩) :: r.2.2))
    else (n, ws, [])
def passT (T : Tb) (s : List UInt8) (q : Nat × Nm) : Tb × List Gr :=
  let r := passN (q.2.turns.length + q.2.row.length) q.2 T.waits
  (⟨if r.1.held.length = 0 then aDel T.names s else aSet T.names s (q.1, r.1), r.2.1⟩, r.2.2)
theorem firstN_mem {n : Nm} (h : firstN n ≠ 0) : firstN n ∈ n.turns ∨ firstN n ∈ n.row := by
  unfold firstN at h ⊢
  cases ht : n.turns with
  | cons x l => left; exact List.mem_cons_self ..
  | nil =>
    cases hr : n.row with
    | cons x l => right; exact List.mem_cons_self ..
    | nil => rw [ht, hr] at h; exact absurd rfl h
theorem outN_lt {l : List Int} {x : Int} (h : x ∈ l) : (outN l x).length < l.length := by
  unfold outN
  rcases Nat.lt_or_ge (l.filter fun y => !decide (y = x)).length l.length with hlt | hge
  · exact hlt
  · have := List.length_filter_le (fun y => !decide (y = x)) l
    have he : (l.filter fun y => !decide (y = x)).length = l.length := by omega
    rw [List.length_filter_eq_length_iff] at he
    have := he x h
    simp at this
theorem leaveN_lt {n : Nm} (h : firstN n ≠ 0) : (outN n.turns (firstN n)).length + (outN n.row (firstN n)).length < n.turns.length + n.row.length := by
  have h1 := outN_le n.turns (firstN n)
  have h2 := outN_le n.row (firstN n)
  rcases firstN_mem h with hm | hm
  · have := outN_lt hm; omega
  · have := outN_lt hm; omega
end
end Go.Proofs.Ytakifgecgmdjcaa
