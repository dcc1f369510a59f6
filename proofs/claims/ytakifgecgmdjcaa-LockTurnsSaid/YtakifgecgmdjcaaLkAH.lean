/- Locks: edges of all who wait for a name. -/
import Derived.Test.YtakifgecgmdjcaaLkAG
namespace Go.Proofs.Ytakifgecgmdjcaa
open Go Xf Go.RowKit
set_option linter.unusedVariables false
set_option linter.unusedSimpArgs false
set_option maxRecDepth 100000

theorem TbB.memNm {T : Tb} {on ow : Obj} {hs : List (Nat × Obj)} (hB : TbB T on ow hs) {p : List UInt8 × (Nat × Nm)} (hp : p ∈ T.names) : ∃ hN, NmH p.2.2 p.2.1 hN ∧ ∀ x ∈ hN, x ∈ hs := by
  obtain ⟨A, B, e⟩ := List.append_of_mem hp
  have h3 := hB.2.2
  rw [e] at h3
  obtain ⟨hn, hF, h1, -, hperm⟩ := NmsH.mid.1 h3
  exact ⟨hn, h1, fun x hx => hperm.mem_iff.1 (List.mem_append_left _ hx)⟩
section
variable {W w w' : World} {ks : List Nat} {R R' : List (Nat × Obj)} {es : List Ed} {b : Nat} {K : Value → World → Prop}
theorem edges_rows {ws : List (Int × Wt)} {g gn bn bw : Nat} {ow : Obj} {v33 : Value} {n : Nm} {hN hrow : List (Nat × Obj)} {Q : Value → World → Prop} {again1 : World → Prop} (h : EdO W ks R es b w) (hr : RowH 3 1 v33 (rowsN n).length (intsV .i64 (rowsN n)) hrow) (hs : ∀ p ∈ hrow, p ∈ R) (hg : (g, tbO bn bw) ∈ R) (hw : (bw, ow) ∈ R) (hwm : MapO keyI wtV ws ow) (hN1 : NmH n gn hN) (hN2 : ∀ p ∈ hN, p ∈ R) (hrl : (rowsN n).length ≤ 1000000) (hn : es.length + szE n ≤ 1000000000)
    (hQ : ∀ es' w', EdO W ks R es' b w' → (∀ e, e ∈ es' ↔ e ∈ es ∨ edgeN ws n e) → es'.length ≤ es.length + szE n → again1 w') :
    (std Try.prog).step (sBuiltin .len #[42] 3 [false] [v33]) w fun v35_1 w =>
    (std Try.prog).loop [.int .i64 0] w fun dv_2 vs_2 w again_2 =>
    (std Try.prog).step (sBin .lss 3 (.tmp 36) (.tmp 35) (vs_2.getD 0 undef) v35_1) w fun v37_1 w =>
    (std Try.prog).bool v37_1
    ((std Try.prog).step (sIndexAddr 42 v33 (vs_2.getD 0 undef)) w fun v39_1 w =>
    (std Try.prog).step (sLoad 3 v39_1) w fun v40_1 w =>
    (std Try.prog).step (sNil (.pointer (some ⟨g, 0, none⟩))) w fun v44_1 w =>
    (std Try.prog).step (sFieldAddr 65 v44_1 1) w fun v45_1 w =>
    (std Try.prog).step (sLoad 63 v45_1) w fun v46_1 w =>
    (std Try.prog).step (sLookup 63 v46_1 v40_1 false) w fun v48_1 w =>
    (std Try.prog).step (sField 30 v48_1 1) w fun v49_1 w =>
    (std Try.prog).calls 25 #[.pointer (some ⟨gn, 0, none⟩), v40_1, v49_1] w fun v50_1 w =>
    (std Try.prog).step (sNil (.pointer (some ⟨gn, 0, none⟩))) w fun v52_1 w =>
    (std Try.prog).step (sFieldAddr 69 v52_1 0) w fun v53_1 w =>
    (std Try.prog).step (sLoad 67 v53_1) w fun v54_1 w =>
    (std Try.prog).step (sRange 67 v54_1) w fun v55_1 w =>
    (std Try.prog).loop [] w fun dv_4 vs_4 w again_4 =>
    (std Try.prog).step (sNext v55_1 false 0) w fun v56_1 w =>
    (std Try.prog).step (sExtract v56_1 0) w fun v57_1 w =>
    (std Try.prog).bool v57_1
    ((std Try.prog).step (sEntry v55_1) w fun v58_1 w =>
    (std Try.prog).step (sExtract v58_1 0) w fun v59_1 w =>
    (std Try.prog).step (sExtract v58_1 1) w fun v60_1 w =>
    (std Try.prog).step (sBin .neq 3 (.tmp 61) (.tmp 62) v59_1 v40_1) w fun v63_1 w =>
    (std Try.prog).bool v63_1
    ((std Try.prog).calls 42 #[v60_1, v50_1] w fun v67_1 w =>
    (std Try.prog).step (sUn .not v67_1) w fun v68_1 w =>
    (std Try.prog).bool v68_1
    ((std Try.prog).step (sBuild 53 [(0, v40_1), (1, v59_1)]) w fun v73_1 w =>
    (std Try.prog).step (sCallV (yieldV b) [v73_1]) w fun v74_1 w =>
    again_4 [] w)
    (again_4 [] w))
    (again_4 [] w))
    (lock_Table_edges_k2 (std Try.prog) (yieldV b) v33 vs_2 again_2 v40_1 w Q))
    (again1 w) := by
  have hcnt : szE n = (rowsN n).length * (n.held.length + (rowsN n).length) := rfl
  generalize hD : n.held.length + (rowsN n).length = D at hcnt
  obtain ⟨bh, oh, vt, vr, ht, hr', rfl, hmap, -, -⟩ := id hN1
  have hbh := hN2 (bh, oh) (by simp)
  have hgn := hN2 (gn, nmO bh vt vr) (by simp)
  obtain ⟨A, c, rfl⟩ := RowH.sl' hr
  simp (disch := first | assumption | omega) only [PX]
  refine st_loop (fun vs w' => ∃ (i : Nat) (R2 : List (Nat × Obj)) (es' : List Ed), i ≤ (rowsN n).length ∧ vs.getD 0 undef = .int .i64 i ∧ EdO W ks R es' b w' ∧ es'.length ≤ es.length + i * D ∧ (∀ e, e ∈ es' ↔ e ∈ es ∨ ∃ i', i' < i ∧ edgeI ws n i' e)) (fun vs _ => (rowsN n).length - (intOf (vs.getD 0 undef)).toNat) ⟨0, R, es, Nat.zero_le _, rfl, h, by omega, fun e => by simp⟩ ?_
  rintro dv vs w2 - ⟨i, R2, es2, hi, e0, h2, hl2, hx2⟩
  simp (disch := first | assumption | omega) only [e0, PX, BX]
  refine ⟨fun hlt => ?_, fun hge => ?_⟩
  rotate_left
  · obtain rfl : i = (rowsN n).length := by omega
    refine hQ es2 w2 h2 (fun e => ?_) (by rw [hcnt]; exact hl2)
    rw [hx2 e]
    constructor
    · rintro (h | ⟨i', -, h⟩)
      · exact .inl h
      · exact .inr ⟨i', h⟩
    · rintro (h | ⟨i', h⟩)
      · exact .inl h
      · exact .inr ⟨i', (List.getElem?_eq_some_iff.1 h.1).1, h⟩
  have hi' : i < (rowsN n).length := by omega
  have hmul : i * D + D ≤ (rowsN n).length * D := by
    have := Nat.mul_le_mul_right D (show i + 1 ≤ (rowsN n).length by omega)
    rw [Nat.succ_mul] at this; exact this
  obtain ⟨a, c', he, hcell⟩ := int_at (h2.rdI hr hs) hi'
  injection he with q1 q2 q3
  subst q1
  have c1 : w2.cell? ⟨g, 1, none⟩ = some (.map (some bw)) := (cell_at (h2.at_ hg)).trans rfl
  simp (disch := first | assumption | omega) only [PX, LX, Nat.mul_one, add_mk, Nat.reduceAdd]
  rw [step_run (run_lookup uWaits keyI_ok ze_want (h2.at_ hw) hwm (rowsN n)[i] false), if_neg Bool.false_ne_true, waits_get, step_run (field_want _ _)]
  generalize hx : (rowsN n)[i] = x at hcell
  obtain ⟨ve, hl', p1, p2, p3, p4, p5⟩ := id h2
  refine st_call (would_spec hN1 (fun p hp => List.mem_cons_of_mem _ (List.mem_append_right _ (hN2 p hp))) p2 x _) ?_
  rintro _ w3 ⟨rfl, hU3⟩
  have h3 := h2.upd hU3
  have c0 : w3.cell? ⟨gn, 0, none⟩ = some (.map (some bh)) := (cell_at (h3.at_ hgn)).trans rfl
  simp (disch := first | assumption | omega) only [PX, LX, add_mk, Nat.reduceAdd]
  refine edges_held (n := n) (x := x) (m := wouldN n x (wantOf ws x)) h3 hbh hmap (by omega) ?_
  intro es4 w4 h4 hx4 hl4
  refine edges_k2 (x := x) h4 hr hs hi' hrl e0 (by omega) ?_
  intro es5 w5 h5 hx5 hl5
  unfold lock_Table_edges_k1
  simp (disch := omega) only [e0, PX, w64]
  refine ⟨⟨i + 1, R, es5, by omega, rfl, h5, by rw [Nat.succ_mul]; omega, fun e => ?_⟩, ?_⟩
  · rw [hx5 e, hx4 e, hx2 e]
    have hxi : (rowsN n)[i]? = some x := by rw [List.getElem?_eq_getElem hi', hx]
    constructor
    · rintro (((h | ⟨i', h1, h2⟩) | ⟨h1, h2⟩) | ⟨h1, h2⟩)
      · exact .inl h
      · exact .inr ⟨i', by omega, h2⟩
      · exact .inr ⟨i, by omega, by rw [h1]; exact hxi, .inl (by rw [h1]; exact h2)⟩
      · exact .inr ⟨i, by omega, by rw [h1]; exact hxi, .inr h2⟩
    · rintro (h | ⟨i', h1, h2⟩)
      · exact .inl (.inl (.inl h))
      · rcases Nat.lt_or_ge i' i with hlt' | hge'
        · exact .inl (.inl (.inr ⟨i', hlt', h2⟩))
        · obtain rfl : i' = i := by omega
          obtain ⟨h2, h3⟩ := h2
          have hex : e.1 = x := by rw [hxi] at h2; injection h2 with h2; exact h2.symm
          rcases h3 with h3 | h3
          · exact .inl (.inr ⟨hex, by rw [hex] at h3; exact h3⟩)
          · exact .inr ⟨hex, h3⟩
  · simp only [List.getD_cons_zero, intOf]; omega
end
end Go.Proofs.Ytakifgecgmdjcaa
