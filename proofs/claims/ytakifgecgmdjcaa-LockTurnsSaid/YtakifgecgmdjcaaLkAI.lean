/- Locks: edges, whole. -/
import Derived.Test.YtakifgecgmdjcaaLkAH
namespace Go.Proofs.Ytakifgecgmdjcaa
open Go Xf Go.RowKit
set_option linter.unusedVariables false
set_option linter.unusedSimpArgs false
set_option maxRecDepth 100000

def sumE (l : List (List UInt8 × (Nat × Nm))) : Nat := (l.map fun p => szE p.2.2).sum
theorem sumE_perm {l l' : List (List UInt8 × (Nat × Nm))} (h : l.Perm l') : sumE l = sumE l' := (h.map _).sum_nat
theorem sumE_le {B : Nat} : ∀ l : List (List UInt8 × (Nat × Nm)), (∀ p ∈ l, szE p.2.2 ≤ B) → sumE l ≤ l.length * B
  | [], _ => Nat.zero_le _
  | p :: l, h => by
    have h1 := sumE_le l fun p hp => h p (List.mem_cons_of_mem _ hp)
    have h2 := h p (List.mem_cons_self ..)
    unfold sumE at *
    rw [List.map_cons, List.sum_cons, List.length_cons, Nat.succ_mul]
    omega
theorem szE_le {n : Nm} {B : Nat} (h : szN n ≤ B) : szE n ≤ B * B := by
  have : n.held.length + (rowsN n).length ≤ B := by unfold szN at h; unfold rowsN; rw [List.length_append]; omega
  unfold szE
  exact Nat.mul_le_mul (by omega) this
section
variable {W w w' : World} {ks : List Nat} {F R R' : List (Nat × Obj)} {es : List Ed} {b g : Nat} {T : Tb} {K : Value → World → Prop}
theorem edges_spec {B bn bw : Nat} {on ow : Obj} {hs : List (Nat × Obj)} (h : EdO W ks (tbL g bn bw on ow hs ++ F) [] b w) (hB : TbB T on ow hs) (hfine : Fine T B) (hB5 : B ≤ 500) :
    CallsR Try.prog 32 #[.pointer (some ⟨g, 0, none⟩), yieldV b] w fun u w' => u = .tuple #[] ∧ ∃ es, EdO W ks (tbL g bn bw on ow hs ++ F) es b w' ∧ (∀ e, e ∈ es ↔ EdgeT T e) ∧ es.length ≤ 200000000 := by
  apply lock_Table_edges_sound
  unfold lock_Table_edges_x
  have hgm : (g, tbO bn bw) ∈ tbL g bn bw on ow hs ++ F := List.mem_append_left _ (by simp [tbL])
  have hbnm : (bn, on) ∈ tbL g bn bw on ow hs ++ F := List.mem_append_left _ (by simp [tbL])
  have hbwm : (bw, ow) ∈ tbL g bn bw on ow hs ++ F := List.mem_append_left _ (by simp [tbL])
  have hhs : ∀ p ∈ hs, p ∈ tbL g bn bw on ow hs ++ F := fun p hp => List.mem_append_left _ (by simp [tbL, hp])
  generalize tbL g bn bw on ow hs ++ F = R at h hgm hbnm hbwm hhs
  have c0 : w.cell? ⟨g, 0, none⟩ = some (.map (some bn)) := (cell_at (h.at_ hgm)).trans rfl
  simp (disch := first | assumption | omega) only [PX, LX, add_mk, Nat.reduceAdd]
  refine h.range uNames hbnm hB.1 ?_
  intro r w1 ob hI h1 hr
  have hsz : ∀ p ∈ T.names, szE p.2.2 ≤ B * B := fun p hp => szE_le (hfine.sz.nm p.1 p.2 (mem_names hfine.ok.keys hp))
  have hBB : B * B ≤ 250000 := Nat.mul_le_mul hB5 hB5
  have hsum : sumE T.names ≤ 125000000 := Nat.le_trans (sumE_le T.names hsz) (Nat.le_trans (Nat.mul_le_mul hfine.ok.len (Nat.le_refl (B * B))) (Nat.mul_le_mul hB5 hBB))
  let I : Nat → List Value → World → Prop := fun k vs w' => ∃ left ob es', k = left.length ∧ IterH strV ptV bn on left ob ∧ EdO W ks ((r, ob) :: R) es' b w' ∧ es'.length + sumE left ≤ sumE T.names ∧ (∀ p ∈ left, p ∈ T.names) ∧ (∀ e, (e ∈ es' ∨ ∃ p ∈ left, edgeN T.waits p.2.2 e) ↔ EdgeT T e)
  refine st_loop (fun vs w' => ∃ k, I k vs w') (minK I) ⟨_, T.names, ob, [], rfl, hI, h1, by simp, fun p hp => hp, fun e => by simp [EdgeT]⟩ ?_
  rintro dv vs w2 - hex
  obtain ⟨⟨left, ob2, es2, hk, hI2, h2, hl2, hsub2, hx2⟩, -⟩ := minK_spec hex
  generalize minK I vs w2 = k at hk
  refine h2.next hbnm hI2 hr ?_ ?_
  · rintro rfl
    rw [px_ext1]
    simp only [BX]
    refine ⟨trivial, es2, h2.weak (List.sublist_cons_self ..), fun e => ?_, by have : sumE [] = 0 := rfl; omega⟩
    rw [← hx2 e]; simp
  · intro p left' w3 ob3 hperm hI3 hent h3
    have hlen := hperm.length_eq
    simp only [List.length_cons] at hlen
    have hp : p ∈ T.names := hsub2 p (hperm.mem_iff.1 (List.mem_cons_self ..))
    have hpsz := hsz p hp
    have hs3 : sumE left = szE p.2.2 + sumE left' := by rw [← sumE_perm hperm]; unfold sumE; rw [List.map_cons, List.sum_cons]
    simp only [PX, BX]
    rw [step_run hent]
    simp only [PX, BX]
    obtain ⟨bh, oh, vt, vr, ht, hr', hm1, hm2, hmap, hrt, hrr, hs1, hs2⟩ := hB.memAll hp
    obtain ⟨hN, hN1, hN2⟩ := hB.memNm hp
    have hok := hfine.ok.nm p.1 p.2 (mem_names hfine.ok.keys hp)
    have hrl : (rowsN p.2.2).length ≤ 1000000 := by unfold rowsN; rw [List.length_append]; have := hok.1; have := hok.2.1; omega
    unfold ptV
    refine edges_row (n := p.2.2) h3 (List.mem_cons_of_mem _ (hhs _ hm1)) hrt hrr (fun x hx => List.mem_cons_of_mem _ (hhs _ (hs1 x hx))) (fun x hx => List.mem_cons_of_mem _ (hhs _ (hs2 x hx))) (by have := hok.1; have := hok.2.1; omega) ?_
    intro v33 hrow w4 hrow4 h4
    refine edges_rows (ws := T.waits) (n := p.2.2) h4 hrow4 (fun x hx => List.mem_append_left _ hx) (List.mem_append_right _ (List.mem_cons_of_mem _ hgm)) (List.mem_append_right _ (List.mem_cons_of_mem _ hbwm)) hB.2.1 hN1 (fun x hx => List.mem_append_right _ (List.mem_cons_of_mem _ (hhs _ (hN2 x hx)))) hrl (by omega) ?_
    intro es5 w5 h5 hx5 hl5
    refine minK_go (I := I) (k' := left'.length) ⟨left', ob3, es5, rfl, hI3, h5.weak (List.sublist_append_right _ _), by omega, fun p' hp' => hsub2 p' (hperm.mem_iff.1 (List.mem_cons_of_mem _ hp')), fun e => ?_⟩ (by omega)
    rw [hx5 e, ← hx2 e]
    constructor
    · rintro ((h | h) | ⟨p', hp', h⟩)
      · exact .inl h
      · exact .inr ⟨p, hperm.mem_iff.1 (List.mem_cons_self ..), h⟩
      · exact .inr ⟨p', hperm.mem_iff.1 (List.mem_cons_of_mem _ hp'), h⟩
    · rintro (h | ⟨p', hp', h⟩)
      · exact .inl (.inl h)
      · rcases List.mem_cons.1 (hperm.mem_iff.2 hp') with rfl | hp'
        · exact .inl (.inr h)
        · exact .inr ⟨p', hp', h⟩
end
end Go.Proofs.Ytakifgecgmdjcaa
