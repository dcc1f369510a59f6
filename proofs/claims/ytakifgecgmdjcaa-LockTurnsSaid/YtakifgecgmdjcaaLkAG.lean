/- Locks: edges of a name. -/
import Derived.Test.YtakifgecgmdjcaaLkAF
namespace Go.Proofs.Ytakifgecgmdjcaa
open Go Xf Go.RowKit
set_option linter.unusedVariables false
set_option linter.unusedSimpArgs false
set_option maxRecDepth 100000

def edgeI (ws : List (Int × Wt)) (n : Nm) (i : Nat) (e : Ed) : Prop := (rowsN n)[i]? = some e.1 ∧ ((∃ p ∈ n.held, p.1 = e.2 ∧ heldE n (wouldN n e.1 (wantOf ws e.1)) e.1 p = true) ∨ e.2 ∈ (rowsN n).take i)
def edgeN (ws : List (Int × Wt)) (n : Nm) (e : Ed) : Prop := ∃ i, edgeI ws n i e
def EdgeT (T : Tb) (e : Ed) : Prop := ∃ p ∈ T.names, edgeN T.waits p.2.2 e
def szE (n : Nm) : Nat := (rowsN n).length * (n.held.length + (rowsN n).length)
theorem TbB.memAll {T : Tb} {on ow : Obj} {hs : List (Nat × Obj)} (hB : TbB T on ow hs) {p : List UInt8 × (Nat × Nm)} (hp : p ∈ T.names) : ∃ bh oh vt vr ht hr, (p.2.1, nmO bh vt vr) ∈ hs ∧ (bh, oh) ∈ hs ∧ MapO keyI keyI p.2.2.held oh ∧
    RowH 3 1 vt p.2.2.turns.length (intsV .i64 p.2.2.turns) ht ∧ RowH 3 1 vr p.2.2.row.length (intsV .i64 p.2.2.row) hr ∧ (∀ x ∈ ht, x ∈ hs) ∧ (∀ x ∈ hr, x ∈ hs) := by
  obtain ⟨A, B, e⟩ := List.append_of_mem hp
  have h3 := hB.2.2
  rw [e] at h3
  obtain ⟨hn, hF, ⟨bh, oh, vt, vr, ht, hr, rfl, hmap, h4, h5⟩, -, hperm⟩ := NmsH.mid.1 h3
  exact ⟨bh, oh, vt, vr, ht, hr, hperm.mem_iff.1 (by simp), hperm.mem_iff.1 (by simp), hmap, h4, h5, fun x hx => hperm.mem_iff.1 (by simp [hx]), fun x hx => hperm.mem_iff.1 (by simp [hx])⟩
theorem empty_ints (w : World) : (sBuildSlice 42 0 []).run Try.prog w = .ok (.value (.slice (some ⟨w.heap.size, 0, none⟩) 0 0)) (w.alloc (.cells #[] 3)) := by kernel_rfl
section
variable {W w w' : World} {ks : List Nat} {R R' : List (Nat × Obj)} {es : List Ed} {b : Nat} {K : Value → World → Prop}
theorem EdO.rdI (h : EdO W ks R es b w) {v : Value} {l : List Int} {hr : List (Nat × Obj)} (hrow : RowH 3 1 v l.length (intsV .i64 l) hr) (hs : ∀ p ∈ hr, p ∈ R) : Rd w 1 v l.length (intsV .i64 l) :=
  hrow.rd (F := []) ⟨by rw [List.append_nil]; rcases hrow.2 with ⟨_, _, rfl⟩ | ⟨g', _, _, _, rfl, _⟩ <;> simp, fun p hp => h.at_ (hs p (by simpa using hp))⟩
theorem EdO.append {v u : Value} {l l2 : List Int} {hr : List (Nat × Obj)} (h : EdO W ks (hr ++ R) es b w) (hrow : RowH 3 1 v l.length (intsV .i64 l) hr) (hm : ∀ p ∈ hr, p.1 ∈ ks ∨ W.heap.size ≤ p.1) (hu : Rd w 1 u l2.length (intsV .i64 l2)) (hl : l.length + l2.length ≤ 1000000)
    (hk : ∀ v' hr' w', RowH 3 1 v' (l ++ l2).length (intsV .i64 (l ++ l2)) hr' → EdO W ks (hr' ++ R) es b w' → (∀ p ∈ hr', p.1 ∈ ks ∨ W.heap.size ≤ p.1) → K v' w') :
    (std Try.prog).step (sBuiltin .append #[42, 42] 42 [false, false] [v, u]) w K := by
  obtain ⟨ve, hl', h1, h2, h3, h4, h5⟩ := h
  obtain ⟨inf, e1, e2, e3, e4⟩ := info_int
  have hP : Owns w (hr ++ (edB b ve :: (hl' ++ R))) := h2.perm (by
    classical
    refine List.perm_iff_count.2 fun y => ?_
    simp only [List.count_cons, List.count_append]
    omega)
  have hmx : (1000000 : Nat) ≤ maxLen := by decide
  refine st_append u42 e1 e2 e3 e4 rfl (by omega) hrow hP h3 hm hu (intsV_one _ _) (by omega) (by omega) ?_
  intro v' w' hr' hrow' hO' hU' hm'
  have hrow' : RowH 3 1 v' (l ++ l2).length (intsV .i64 (l ++ l2)) hr' := by
    rw [List.length_append]
    have : intsV .i64 (l ++ l2) = intsV .i64 l ++ intsV .i64 l2 := by simp [intsV]
    rw [this]; exact hrow'
  refine hk v' hr' w' hrow' ⟨ve, hl', h1, hO'.perm ?_, hU', h4, h5⟩ hm'
  classical
  refine List.perm_iff_count.2 fun y => ?_
  simp only [List.count_cons, List.count_append]
  omega
/-- the row of a name, in memory of its own -/
theorem edges_row {gn bh : Nat} {vt vr : Value} {n : Nm} {ht hr : List (Nat × Obj)} (h : EdO W ks R es b w) (hg : (gn, nmO bh vt vr) ∈ R) (h1 : RowH 3 1 vt n.turns.length (intsV .i64 n.turns) ht) (h2 : RowH 3 1 vr n.row.length (intsV .i64 n.row) hr) (hs1 : ∀ p ∈ ht, p ∈ R) (hs2 : ∀ p ∈ hr, p ∈ R) (hl : n.turns.length + n.row.length ≤ 1000000)
    (hk : ∀ v hrow w', RowH 3 1 v (rowsN n).length (intsV .i64 (rowsN n)) hrow → EdO W ks (hrow ++ R) es b w' → K v w') :
    (std Try.prog).draw w fun S_1 w =>
    (std Try.prog).stepS S_1 (sNil (.pointer (some ⟨gn, 0, none⟩))) fun v25_1 =>
    (std Try.prog).stepS S_1 (sFieldAddr 69 v25_1 1) fun v26_1 =>
    (std Try.prog).stepS S_1 (sLoad 42 v26_1) fun v27_1 =>
    (std Try.prog).stepS S_1 (sNil (.pointer (some ⟨gn, 0, none⟩))) fun v30_1 =>
    (std Try.prog).stepS S_1 (sFieldAddr 69 v30_1 2) fun v31_1 =>
    (std Try.prog).stepS S_1 (sLoad 42 v31_1) fun v32_1 =>
    (std Try.prog).step (sBuildSlice 42 0 []) w fun v23_1 w =>
    (std Try.prog).keepS S_1 w fun S_2 =>
    (std Try.prog).step (sBuiltin .append #[42, 42] 42 [false, false] [v23_1, v27_1]) w fun v28_1 w =>
    (std Try.prog).keepS S_2 w fun S_3 =>
    (std Try.prog).step (sBuiltin .append #[42, 42] 42 [false, false] [v28_1, v32_1]) w fun v33_1 w =>
    (std Try.prog).keepT w fun S_4 => K v33_1 w := by
  have hd := h.upd (Upd.drew w [])
  let S : World → Prop := fun w' => w'.heap[gn]? = some (nmO bh vt vr)
  have hS : S w.drew := hd.at_ hg
  have hne : ∃ w', S w' := ⟨_, hS⟩
  obtain ⟨A1, n1, rfl⟩ := RowH.sl' h1
  obtain ⟨A2, n2, rfl⟩ := RowH.sl' h2
  have e1 : ∀ w', S w' → w'.cell? ⟨gn, 1, none⟩ = some (.slice A1 n.turns.length n1) := fun w' hs => (cell_at hs).trans rfl
  have e2 : ∀ w', S w' → w'.cell? ⟨gn, 2, none⟩ = some (.slice A2 n.row.length n2) := fun w' hs => (cell_at hs).trans rfl
  refine st_draw S hS ?_
  simp (disch := first | exact hne | assumption | omega) only [SX, SLX, add_mk, Nat.reduceAdd]
  obtain ⟨ve, hl', q1, q2, q3, q4, q5⟩ := hd
  refine st_newRow (fun w => empty_ints w) q3 q2 ?_
  intro gr w1 hU1 hO1 hgr
  have hE1 : EdO W ks ([(gr, .cells #[] 3 (0, 0))] ++ R) es b w1 := ⟨ve, hl', q1, hO1.perm edPerm, hU1, q4, q5⟩
  refine st_same (hE1.at_ (p := (gn, nmO bh (.slice A1 n.turns.length n1) (.slice A2 n.row.length n2))) (List.mem_append_right _ hg)) ?_
  have hr0 : RowH 3 1 (.slice (some ⟨gr, 0, none⟩) 0 0) ([] : List Int).length (intsV .i64 []) [(gr, .cells #[] 3 (0, 0))] := ⟨rfl, .inr ⟨gr, 0, #[], rfl, rfl, Nat.le_refl _, Nat.zero_le _, rfl, rfl⟩⟩
  refine hE1.append hr0 (fun p hp => by rw [List.mem_singleton] at hp; subst hp; exact .inr hgr) (hE1.rdI h1 fun p hp => List.mem_append_right _ (hs1 p hp)) (by simp; omega) ?_
  intro v2 hr2 w2 hrow2 hE2 hm2
  refine st_same (hE2.at_ (p := (gn, nmO bh (.slice A1 n.turns.length n1) (.slice A2 n.row.length n2))) (List.mem_append_right _ hg)) ?_
  refine hE2.append hrow2 hm2 (hE2.rdI h2 fun p hp => List.mem_append_right _ (hs2 p hp)) (by simp; omega) ?_
  intro v3 hr3 w3 hrow3 hE3 hm3
  refine st_keepT (fun _ => True) trivial ?_
  exact hk v3 hr3 w3 hrow3 hE3
end
end Go.Proofs.Ytakifgecgmdjcaa
