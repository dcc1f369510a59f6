/- Locks: edges of one who waits. -/
import Derived.Test.YtakifgecgmdjcaaLkAE
namespace Go.Proofs.Ytakifgecgmdjcaa
open Go Xf Go.RowKit
set_option linter.unusedVariables false
set_option linter.unusedSimpArgs false
set_option maxRecDepth 100000

def wantOf (ws : List (Int × Wt)) (x : Int) : Int := ((aGet ws x).getD ⟨[], 0⟩).mode
def heldE (n : Nm) (m x : Int) (p : Int × Int) : Bool := decide (p.1 ≠ x) && !bes (sureN p.2) (sureN m)
theorem field_want (v : Wt) (w : World) : (sField 30 (wtV v) 1).run Try.prog w = .ok (.value (.int .i64 v.mode)) w := by kernel_rfl
section
variable {W w w' : World} {ks : List Nat} {R R' : List (Nat × Obj)} {es : List Ed} {b : Nat} {K : Value → World → Prop}
theorem edges_held {bh : Nat} {oh : Obj} {n : Nm} {x m : Int} {Q : World → Prop} (h : EdO W ks R es b w) (hm : (bh, oh) ∈ R) (hmap : MapO keyI keyI n.held oh) (hn : es.length + n.held.length ≤ 1000000000)
    (hQ : ∀ es' w', EdO W ks R es' b w' → (∀ e, e ∈ es' ↔ e ∈ es ∨ (e.1 = x ∧ ∃ p ∈ n.held, p.1 = e.2 ∧ heldE n m x p = true)) → es'.length ≤ es.length + n.held.length → Q w') :
    (std Try.prog).step (sRange 67 (.map (some bh))) w fun v55_1 w =>
    (std Try.prog).loop [] w fun dv_4 vs_4 w again_4 =>
    (std Try.prog).step (sNext v55_1 false 0) w fun v56_1 w =>
    (std Try.prog).step (sExtract v56_1 0) w fun v57_1 w =>
    (std Try.prog).bool v57_1
    ((std Try.prog).step (sEntry v55_1) w fun v58_1 w =>
    (std Try.prog).step (sExtract v58_1 0) w fun v59_1 w =>
    (std Try.prog).step (sExtract v58_1 1) w fun v60_1 w =>
    (std Try.prog).step (sBin .neq 3 (.tmp 61) (.tmp 62) v59_1 (.int .i64 x)) w fun v63_1 w =>
    (std Try.prog).bool v63_1
    ((std Try.prog).calls 42 #[v60_1, .int .i64 m] w fun v67_1 w =>
    (std Try.prog).step (sUn .not v67_1) w fun v68_1 w =>
    (std Try.prog).bool v68_1
    ((std Try.prog).step (sBuild 53 [(0, .int .i64 x), (1, v59_1)]) w fun v73_1 w =>
    (std Try.prog).step (sCallV (yieldV b) [v73_1]) w fun v74_1 w =>
    again_4 [] w)
    (again_4 [] w))
    (again_4 [] w))
    (Q w) := by
  refine h.range uHeld hm hmap ?_
  intro r w1 ob hI h1 hr
  let I : Nat → List Value → World → Prop := fun k vs w' => ∃ left ob es', k = left.length ∧ IterH keyI keyI bh oh left ob ∧ EdO W ks ((r, ob) :: R) es' b w' ∧ es'.length + left.length ≤ es.length + n.held.length ∧ (∀ e, (e ∈ es' ∨ (e.1 = x ∧ ∃ p ∈ left, p.1 = e.2 ∧ heldE n m x p = true)) ↔ (e ∈ es ∨ (e.1 = x ∧ ∃ p ∈ n.held, p.1 = e.2 ∧ heldE n m x p = true)))
  refine st_loop (fun vs w' => ∃ k, I k vs w') (minK I) ⟨_, n.held, ob, es, rfl, hI, h1, Nat.le_refl _, fun e => Iff.rfl⟩ ?_
  rintro dv vs w2 - hex
  obtain ⟨⟨left, ob2, es2, hk, hI2, h2, hl2, hx2⟩, -⟩ := minK_spec hex
  generalize minK I vs w2 = k at hk
  refine h2.next hm hI2 hr ?_ ?_
  · rintro rfl
    rw [px_ext1]
    simp only [BX]
    refine hQ es2 w2 (h2.weak (List.sublist_cons_self ..)) (fun e => ?_) (by simpa using hl2)
    rw [← hx2 e]; simp
  · intro p left' w3 ob3 hperm hI3 hent h3
    have hlen := hperm.length_eq
    simp only [List.length_cons] at hlen
    have hsplit : ∀ e : Ed, (∃ p' ∈ left, p'.1 = e.2 ∧ heldE n m x p' = true) ↔ ((p.1 = e.2 ∧ heldE n m x p = true) ∨ ∃ p' ∈ left', p'.1 = e.2 ∧ heldE n m x p' = true) := fun e => by
      constructor
      · rintro ⟨p', hp', hh⟩
        rcases List.mem_cons.1 (hperm.mem_iff.2 hp') with rfl | hp'
        · exact .inl hh
        · exact .inr ⟨p', hp', hh⟩
      · rintro (hh | ⟨p', hp', hh⟩)
        · exact ⟨p, hperm.mem_iff.1 (List.mem_cons_self ..), hh⟩
        · exact ⟨p', hperm.mem_iff.1 (List.mem_cons_of_mem _ hp'), hh⟩
    have skip : heldE n m x p = false → ∀ {w'}, EdO W ks ((r, ob3) :: R) es2 b w' → (∃ k', I k' [] w') ∧ minK I [] w' < k := fun hp {w'} h' => by
      refine minK_go (I := I) (k' := left'.length) ⟨left', ob3, es2, rfl, hI3, h', by omega, fun e => ?_⟩ (by omega)
      rw [← hx2 e, hsplit e, hp]; simp
    simp only [PX, BX]
    rw [step_run hent]
    simp only [PX, BX]
    refine ⟨fun hne => ?_, fun he => ?_⟩
    · refine st_call (Beside_spec w3 p.2 m) ?_
      rintro _ w4 ⟨rfl, hU4⟩
      have h4 := h3.upd hU4
      simp only [PX]
      rw [bool_var]
      refine ⟨fun hb => ?_, fun hb => ?_⟩
      · have hp : heldE n m x p = true := by unfold heldE; rw [decide_eq_true hne]; exact hb
        refine st_yield h4 (by omega) x p.1 ?_
        intro w5 h5
        refine minK_go (I := I) (k' := left'.length) ⟨left', ob3, _, rfl, hI3, h5, by rw [List.length_append, List.length_singleton]; omega, fun e => ?_⟩ (by omega)
        rw [← hx2 e, hsplit e, List.mem_append, List.mem_singleton]
        constructor
        · rintro ((h | rfl) | ⟨h1, h2⟩)
          · exact .inl h
          · exact .inr ⟨rfl, .inl ⟨rfl, hp⟩⟩
          · exact .inr ⟨h1, .inr h2⟩
        · rintro (h | ⟨h1, ⟨h2, -⟩ | h2⟩)
          · exact .inl (.inl h)
          · exact .inl (.inr (Prod.ext h1 h2.symm))
          · exact .inr ⟨h1, h2⟩
      · exact skip (by unfold heldE; rw [decide_eq_true hne]; exact hb) h4
    · exact skip (by unfold heldE; rw [decide_eq_false he]; rfl) h3
theorem edges_k2 {v33 : Value} {rs : List Int} {i : Nat} {x : Int} {vs : List Value} {again : List Value → World → Prop} {Q : Value → World → Prop} {hrow : List (Nat × Obj)} (h : EdO W ks R es b w) (hr : RowH 3 1 v33 rs.length (intsV .i64 rs) hrow) (hs : ∀ p ∈ hrow, p ∈ R) (hi : i < rs.length) (hrl : rs.length ≤ 1000000) (e0 : vs.getD 0 undef = .int .i64 i) (hn : es.length + i ≤ 1000000000)
    (hQ : ∀ es' w', EdO W ks R es' b w' → (∀ e, e ∈ es' ↔ e ∈ es ∨ (e.1 = x ∧ e.2 ∈ rs.take i)) → es'.length ≤ es.length + i → lock_Table_edges_k1 (std Try.prog) vs again w' Q) :
    lock_Table_edges_k2 (std Try.prog) (yieldV b) v33 vs again (.int .i64 x) w Q := by
  unfold lock_Table_edges_k2
  have hrd : ∀ {w' es'}, EdO W ks R es' b w' → Rd w' 1 v33 rs.length (intsV .i64 rs) := fun {w' es'} h' =>
    hr.rd (F := []) ⟨by rw [List.append_nil]; rcases hr.2 with ⟨_, _, rfl⟩ | ⟨g', _, _, _, rfl, _⟩ <;> simp, fun p hp => h'.at_ (hs p (by simpa using hp))⟩
  obtain ⟨a0, c, rfl, -⟩ := int_at (hrd h) hi
  have hc : rs.length ≤ c := by obtain ⟨_, _, he, hcc, -⟩ := hrd h; injection he with _ _ he; rw [he]; exact hcc
  rw [e0, step_run (run_sliceTo (i := ((i : Nat) : Int)) u42 sz3 (by omega) (by omega)), show ((i : Nat) : Int).toNat = i by omega, if_neg (by omega)]
  simp only [Option.map_some, add_zero]
  simp (disch := first | assumption | omega) only [PX]
  refine st_loop (fun vs2 w' => ∃ (j : Nat) (es' : List Ed), j ≤ i ∧ vs2.getD 0 undef = .int .i64 j ∧ EdO W ks R es' b w' ∧ es'.length ≤ es.length + j ∧ (∀ e, e ∈ es' ↔ e ∈ es ∨ (e.1 = x ∧ e.2 ∈ rs.take j))) (fun vs2 _ => i - (intOf (vs2.getD 0 undef)).toNat) ⟨0, es, Nat.zero_le _, rfl, h, Nat.le_refl _, fun e => by simp⟩ ?_
  rintro dv vs2 w2 - ⟨j, es2, hj, f0, h2, hl2, hx2⟩
  simp (disch := first | assumption | omega) only [f0, PX, BX]
  refine ⟨fun hlt => ?_, fun hge => ?_⟩
  rotate_left
  · obtain rfl : j = i := by omega
    exact hQ es2 w2 h2 hx2 hl2
  have hj' : j < rs.length := by omega
  obtain ⟨a, c', he, hcell⟩ := int_at (hrd h2) hj'
  injection he with q1 q2 q3
  injection q1 with q1
  subst q1
  simp (disch := first | assumption | omega) only [PX, LX, Nat.mul_one]
  refine st_yield h2 (by omega) x rs[j] ?_
  intro w3 h3
  simp (disch := omega) only [PX, w64]
  refine ⟨⟨j + 1, _, by omega, rfl, h3, by rw [List.length_append, List.length_singleton]; omega, fun e => ?_⟩, ?_⟩
  · rw [List.take_succ_eq_append_getElem hj', List.mem_append, List.mem_singleton, hx2 e, List.mem_append, List.mem_singleton]
    constructor
    · rintro ((h | ⟨h1, h2⟩) | rfl)
      · exact .inl h
      · exact .inr ⟨h1, .inl h2⟩
      · exact .inr ⟨rfl, .inr rfl⟩
    · rintro (h | ⟨h1, h2 | h2⟩)
      · exact .inl (.inl h)
      · exact .inl (.inr ⟨h1, h2⟩)
      · exact .inr (Prod.ext h1 h2)
  · simp only [List.getD_cons_zero, intOf]; omega
end
end Go.Proofs.Ytakifgecgmdjcaa
