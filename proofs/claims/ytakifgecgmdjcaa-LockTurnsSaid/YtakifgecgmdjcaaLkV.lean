/- Locks: what holds of every table. -/
import Derived.Test.YtakifgecgmdjcaaLkU
namespace Go.Proofs.Ytakifgecgmdjcaa
open Go Xf Go.RowKit
set_option linter.unusedVariables false
set_option linter.unusedSimpArgs false
set_option maxRecDepth 100000

def rowsN (n : Nm) : List Int := n.turns ++ n.row
def GoodW (n : Nm) (x : Int) (w : Wt) : Prop := 1 ≤ x ∧ in64 x ∧ 1 ≤ w.mode ∧ w.mode ≤ 5 ∧ ∀ h, aGet n.held x = some h → cov (sureN h) (sureN w.mode) = false
structure GoodN (ws : List (Int × Wt)) (s : List UInt8) (n : Nm) : Prop where
  held1 : ∀ x m, aGet n.held x = some m → 1 ≤ x ∧ in64 x ∧ 1 ≤ m ∧ m ≤ 5
  bes : ∀ x y mx my, aGet n.held x = some mx → aGet n.held y = some my → x ≠ y → bes (sureN mx) (sureN my) = true
  rows : ∀ x ∈ rowsN n, ∃ w, aGet ws x = some w ∧ w.name = s ∧ GoodW n x w
  nodup : (rowsN n).Nodup
  turns : ∀ x ∈ n.turns, (aGet n.held x).isSome = true
  row : ∀ x ∈ n.row, aGet n.held x = none
theorem bes_symm {i j : Nat} (hi : i < 6) (hj : j < 6) (h : bes i j = true) : bes j i = true := by
  have := all2 (p := fun i j => bes i j == bes j i) (by decide +kernel) hi hj
  simp only [beq_iff_eq] at this
  rw [← this]; exact h
theorem wouldN_range {n : Nm} {x m : Int} (h1 : 1 ≤ m) (h5 : m ≤ 5) : 1 ≤ wouldN n x m ∧ wouldN n x m ≤ 5 := by
  unfold wouldN
  have hm : 1 ≤ sureN m := by unfold sureN; rw [if_pos (by omega)]; omega
  have hlt := joi_lt (sureN_lt ((aGet n.held x).getD 0)) (sureN_lt m)
  have : 1 ≤ joi (sureN ((aGet n.held x).getD 0)) (sureN m) := by unfold joi; split <;> omega
  omega
theorem rowsN_leave (n : Nm) (x : Int) : rowsN (leaveN n x) = outN (rowsN n) x := by
  unfold rowsN leaveN outN; rw [List.filter_append]
theorem mem_outN {l : List Int} {x y : Int} : y ∈ outN l x ↔ y ∈ l ∧ y ≠ x := by
  unfold outN; rw [List.mem_filter]; simp
theorem goesB_mem {n : Nm} {x m : Int} (h : goesB n x m = true) {y my : Int} (hy : aGet n.held y = some my) (hne : y ≠ x) : bes (sureN my) (sureN m) = true := by
  have := List.all_eq_true.1 h (y, my) (aGet_mem hy)
  simpa [hne] using this
/-- somebody goes in -/
theorem GoodN.give {ws ws' : List (Int × Wt)} {s : List UInt8} {n n' : Nm} {x m : Int} (h : GoodN ws s n) (hx : 1 ≤ x) (hx64 : in64 x) (h1 : 1 ≤ m) (h5 : m ≤ 5) (hgo : goesB n x (wouldN n x m) = true)
    (hh : n'.held = aSet n.held x (wouldN n x m)) (ht : ∀ y, y ∈ n'.turns → y ∈ n.turns ∧ y ≠ x) (hr : ∀ y, y ∈ n'.row → y ∈ n.row ∧ y ≠ x) (hnd : (rowsN n').Nodup) (hws : ∀ y w, y ≠ x → aGet ws y = some w → aGet ws' y = some w) : GoodN ws' s n' := by
  have hr1 := wouldN_range (n := n) (x := x) h1 h5
  have ne : ∀ y, y ≠ x → aGet n'.held y = aGet n.held y := fun y hy => by rw [hh, aGet_aSet, if_neg hy]
  have eq : aGet n'.held x = some (wouldN n x m) := by rw [hh, aGet_aSet, if_pos rfl]
  refine ⟨fun y my hy => ?_, fun y z my mz hy hz hne => ?_, fun y hy => ?_, hnd, fun y hy => ?_, fun y hy => ?_⟩
  · by_cases he : y = x
    · subst he; rw [eq] at hy; injection hy with hy; subst hy; exact ⟨hx, hx64, hr1.1, hr1.2⟩
    · rw [ne y he] at hy; exact h.held1 y my hy
  · by_cases he : y = x
    · subst he
      rw [eq] at hy; injection hy with hy; subst hy
      rw [ne z (Ne.symm hne)] at hz
      exact bes_symm (sureN_lt _) (sureN_lt _) (goesB_mem hgo hz (Ne.symm hne))
    · rw [ne y he] at hy
      by_cases hez : z = x
      · subst hez
        rw [eq] at hz; injection hz with hz; subst hz
        exact goesB_mem hgo hy he
      · rw [ne z hez] at hz; exact h.bes y z my mz hy hz hne
  · have hy' : y ∈ rowsN n ∧ y ≠ x := by
      rcases List.mem_append.1 hy with hy | hy
      · exact ⟨List.mem_append_left _ (ht y hy).1, (ht y hy).2⟩
      · exact ⟨List.mem_append_right _ (hr y hy).1, (hr y hy).2⟩
    obtain ⟨w, e1, e2, e3, e4, e5, e6, e7⟩ := h.rows y hy'.1
    exact ⟨w, hws y w hy'.2 e1, e2, e3, e4, e5, e6, fun hm hhm => e7 hm (by rw [← ne y hy'.2]; exact hhm)⟩
  · rw [ne y (ht y hy).2]; exact h.turns y (ht y hy).1
  · rw [ne y (hr y hy).2]; exact h.row y (hr y hy).1
theorem outN_nodup {l : List Int} (h : l.Nodup) (x : Int) : (outN l x).Nodup := h.sublist List.filter_sublist
/-- who goes in, one behind the other -/
theorem passN_good {s : List UInt8} : ∀ (k : Nat) (n : Nm) (ws : List (Int × Wt)), GoodN ws s n → Keys1 ws → n.turns.length + n.row.length ≤ k →
    GoodN (passN k n ws).2.1 s (passN k n ws).1 ∧ Keys1 (passN k n ws).2.1 ∧ (∀ y w, aGet (passN k n ws).2.1 y = some w → aGet ws y = some w) ∧ (∀ y w, aGet ws y = some w → w.name ≠ s → aGet (passN k n ws).2.1 y = some w) ∧
      (∀ y w, y ∈ rowsN n → aGet (passN k n ws).2.1 y = some w → y ∈ rowsN (passN k n ws).1) ∧ ((passN k n ws).1.held = [] → rowsN (passN k n ws).1 = [])
  | 0, n, ws, h, hk, hl => ⟨h, hk, fun _ _ h => h, fun _ _ h _ => h, fun _ _ h _ => h, fun _ => by
      have : (rowsN n).length = 0 := by unfold rowsN; rw [List.length_append]; omega
      exact List.eq_nil_of_length_eq_zero this⟩
  | k + 1, n, ws, h, hk, hl => by
    by_cases hx : firstN n = 0
    · have e : passN (k + 1) n ws = (n, ws, []) := by unfold passN; rw [if_pos hx]
      rw [e]
      refine ⟨h, hk, fun _ _ h => h, fun _ _ h _ => h, fun _ _ h _ => h, fun _ => ?_⟩
      cases hr : rowsN n with
      | nil => rfl
      | cons y l =>
        exfalso
        have h1 : ∀ y ∈ rowsN n, y ≠ 0 := fun y hy => by obtain ⟨w, -, -, e3, -⟩ := h.rows y hy; omega
        unfold firstN at hx
        cases ht : n.turns with
        | cons z l => rw [ht] at hx; exact h1 z (by unfold rowsN; rw [ht]; simp) hx
        | nil =>
          cases hrr : n.row with
          | cons z l => rw [ht, hrr] at hx; exact h1 z (by unfold rowsN; rw [hrr]; simp) hx
          | nil => unfold rowsN at hr; rw [ht, hrr] at hr; cases hr
    · have hmem : firstN n ∈ rowsN n := List.mem_append.2 (firstN_mem hx)
      obtain ⟨w, e1, e2, e3, e4, e5, e6, e7⟩ := h.rows _ hmem
      by_cases hgo : goesB n (firstN n) (wouldN n (firstN n) ((aGet ws (firstN n)).getD ⟨[], 0⟩).mode) = true
      · rw [passN_go hx hgo]
        have hw : (aGet ws (firstN n)).getD ⟨[], 0⟩ = w := by rw [e1]; rfl
        rw [hw] at hgo ⊢
        have hlt := leaveN_lt hx
        have hg : GoodN (aDel ws (firstN n)) s { leaveN n (firstN n) with held := aSet n.held (firstN n) (wouldN n (firstN n) w.mode) } := by
          refine h.give e3 e4 e5 e6 hgo rfl (fun y hy => mem_outN.1 hy) (fun y hy => mem_outN.1 hy) ?_ fun y w' hy hw' => ?_
          · show (rowsN (leaveN n (firstN n))).Nodup
            rw [rowsN_leave]; exact outN_nodup h.nodup _
          · rw [aGet_aDel hk, if_neg hy]; exact hw'
        obtain ⟨g1, g2, g3, g4, g5, g6⟩ := passN_good k _ _ hg hk.del (by show (outN n.turns (firstN n)).length + (outN n.row (firstN n)).length ≤ k; omega)
        refine ⟨g1, g2, fun y w' hy => ?_, fun y w' hy hs => ?_, fun y w' hy hw' => ?_, g6⟩
        · have := g3 y w' hy
          rw [aGet_aDel hk] at this
          split at this
          · cases this
          · exact this
        · refine g4 y w' ?_ hs
          rw [aGet_aDel hk, if_neg]
          · exact hy
          · intro he
            subst he
            rw [e1] at hy; injection hy with hy; subst hy; exact hs e2
        · refine g5 y w' ?_ hw'
          show y ∈ rowsN (leaveN n (firstN n))
          rw [rowsN_leave, mem_outN]
          refine ⟨hy, fun he => ?_⟩
          have := g3 y w' hw'
          rw [aGet_aDel hk, if_pos he] at this
          cases this
      · have e : passN (k + 1) n ws = (n, ws, []) := by unfold passN; rw [if_neg hx, if_neg hgo]
        rw [e]
        refine ⟨h, hk, fun _ _ h => h, fun _ _ h _ => h, fun _ _ h _ => h, fun hh => ?_⟩
        exfalso
        refine hgo ?_
        have hh : n.held = [] := hh
        unfold goesB; rw [hh]; rfl
end Go.Proofs.Ytakifgecgmdjcaa
