/- Locks: steps that are handed in. -/
import Derived.Test.YtakifgecgmdjcaaLkT
import Derived.Deep.Slices
import Derived.ChangeArms
namespace Go.Proofs.Ytakifgecgmdjcaa
open Go Xf Go.RowKit Go.ChangeShapes Go.WideShapes Go.Deep
set_option linter.unusedVariables false
set_option linter.unusedSimpArgs false
set_option maxRecDepth 100000

section
variable {H : Type} {enc : TypeId × Value → H} {held : Bool} {w : World}
theorem op_of_cells {fuel : Nat} {l : List Value} {x : DataW H × List MemPlace} (hf : DataW.trod enc Try.prog w 0 (fun _ => true) held fuel 32 l = some x) : ∃ o : LOp, l = opV o ∧ in64 o.kind ∧ in64 o.txn ∧ in64 o.want.mode := by
  obtain ⟨xs, n, _, hx, hl, hlen, hg⟩ := Go.DataW.trod_struct Try.underlying32 hf
  rw [show Try.prog.cellsOf 32 = 4 by kernel_rfl] at hl
  match xs, hlen with
  | [x0, x1, x2], _ =>
  match l, hl with
  | [a0, a1, a2, a3], _ =>
  have c1 : ∀ {t : TypeId}, t = 3 ∨ t = 9 ∨ t = 28 → Try.prog.cellsOf t = 1 := by
    rintro t (rfl | rfl | rfl) <;> kernel_rfl
  have k0 : DataW.trod enc Try.prog w 0 (fun _ => true) held n 3 [a0] = some x0 := by simpa [c1] using hg 0 _ rfl
  have k1 : DataW.trod enc Try.prog w 0 (fun _ => true) held n 3 [a1] = some x1 := by simpa [c1] using hg 1 _ rfl
  have k2 : DataW.trod enc Try.prog w 0 (fun _ => true) held n 30 [a2, a3] = some x2 := by simpa [c1, show Try.prog.cellsOf 30 = 2 by kernel_rfl] using hg 2 _ rfl
  obtain ⟨n0, e0, _, w0⟩ := Go.DataW.trod_int Try.underlying3 k0
  obtain ⟨n1, e1, _, w1⟩ := Go.DataW.trod_int Try.underlying3 k1
  obtain ⟨ys, m, _, hy, _, hyl, hh⟩ := Go.DataW.trod_struct Try.underlying30 k2
  match ys, hyl with
  | [y0, y1], _ =>
  have j0 : DataW.trod enc Try.prog w 0 (fun _ => true) held m 9 [a2] = some y0 := by simpa [c1] using hh 0 _ rfl
  have j1 : DataW.trod enc Try.prog w 0 (fun _ => true) held m 28 [a3] = some y1 := by simpa [c1] using hh 1 _ rfl
  obtain ⟨s, e2, _⟩ := Go.DataW.trod_string Try.underlying9 j0
  obtain ⟨n3, e3, _, w3⟩ := Go.DataW.trod_int Try.underlying28 j1
  simp only [List.cons.injEq, and_true] at e0 e1 e2 e3
  subst e0 e1 e2 e3
  obtain ⟨s, rfl⟩ := mk_surj s
  exact ⟨⟨n0, n1, s, n3⟩, rfl, in64_wf w0, in64_wf w1, in64_wf w3⟩
def okO (o : LOp) : Prop := in64 o.kind ∧ in64 o.txn ∧ in64 o.want.mode
theorem ops_of_trod {r : Go.Reach} {b0 : Nat} {v : Value} {d : DataW H} {p : List MemPlace} (hv : Value.okWide Try.prog w r b0 22 v) (h : DataW.Trod enc Try.prog w 0 (fun _ => true) held 22 v d p) :
    ∃ x : List LOp, v = v ∧ RdS w opV 4 v x ∧ ∀ o ∈ x, okO o := by
  obtain ⟨A, len, cap, rfl⟩ := okWide_slice Try.underlying22 hv
  obtain ⟨fuel, hf⟩ := h
  rcases Go.Deep.open_slice Try.underlying22 hf with ⟨hcs, _⟩ | ⟨a, len', cap', m, n, D, Pl, hcs, hb, hl, hm, hmm, hx, hi⟩
  · simp [Value.cells] at hcs
    obtain ⟨rfl, rfl, rfl⟩ := hcs
    exact ⟨[], rfl, ⟨none, 0, rfl, Nat.zero_le _, Rd.nil_ _ _⟩, fun o h => by cases h⟩
  · simp [Value.cells] at hcs
    obtain ⟨rfl, rfl, rfl⟩ := hcs
    simp at hmm
    have key : ∀ i, i < len → ∃ o : LOp, okO o ∧ ∀ j u, (opV o)[j]? = some u → w.cell? (a.add (i * 4 + j)) = some u := by
      intro i hil
      obtain ⟨cs', hc, ht'⟩ := hi i (by omega)
      rw [show Try.prog.cellsOf 32 = 4 by kernel_rfl] at hc
      obtain ⟨_, hcl, hat⟩ := World.cells?_some hc
      obtain ⟨o, rfl, h1⟩ := op_of_cells ht'
      refine ⟨o, h1, fun j u hu => ?_⟩
      have hj : j < 4 := (List.getElem?_eq_some_iff.1 hu).1
      rw [← add_add', hat j hj, ← hu]
    have hL : ∀ n, n ≤ len → ∃ L : List LOp, L.length = n ∧ ∀ i (hi : i < L.length), okO L[i] ∧ ∀ j u, (opV L[i])[j]? = some u → w.cell? (a.add (i * 4 + j)) = some u := by
      intro n
      induction n with
      | zero => exact fun _ => ⟨[], rfl, fun i hi => by simp at hi⟩
      | succ n ih =>
        intro hn
        obtain ⟨L, hl, h⟩ := ih (by omega)
        obtain ⟨o, ho⟩ := key n (by omega)
        refine ⟨L ++ [o], by simp [hl], fun i hi => ?_⟩
        by_cases hin : i < L.length
        · simpa [List.getElem_append_left hin] using h i hin
        · have : i = L.length := by simp at hi; omega
          subst this
          simpa [hl] using ho
    obtain ⟨L, rfl, h⟩ := hL len (Nat.le_refl _)
    refine ⟨L, rfl, ⟨some a, cap, rfl, by omega, some a, cap, rfl, hl, flat_len opV 4 (fun _ => rfl) L, fun j u hu => ⟨a, rfl, ?_⟩⟩, fun o ho => ?_⟩
    · have hj : j < L.length * 4 := by
        have := (List.getElem?_eq_some_iff.1 hu).1
        rwa [flat_len opV 4 (fun _ => rfl)] at this
      have hq : j / 4 < L.length := by omega
      have e : j = j / 4 * 4 + j % 4 := by omega
      rw [e] at hu ⊢
      rw [flat_at opV 4 (fun _ => rfl) L _ hq _ (by omega)] at hu
      exact (h _ hq).2 _ u hu
    · obtain ⟨i, hi, rfl⟩ := List.mem_iff_getElem.1 ho
      exact (h i hi).1
theorem op_of_trod {r : Go.Reach} {b0 : Nat} {v : Value} {d : DataW H} {p : List MemPlace} (hv : Value.okWide Try.prog w r b0 32 v) (h : DataW.Trod enc Try.prog w 0 (fun _ => true) held 32 v d p) :
    ∃ o : LOp, v = v ∧ v = .agg (opV o).toArray ∧ okO o := by
  obtain ⟨cs, rfl, hsz⟩ := okWide_struct Try.underlying32 hv
  obtain ⟨fuel, hf⟩ := h
  obtain ⟨o, ho, h1⟩ := op_of_cells hf
  refine ⟨o, rfl, ?_, h1⟩
  obtain ⟨l⟩ := cs
  have : l = opV o := ho
  rw [this]
end
end Go.Proofs.Ytakifgecgmdjcaa
