/- The plain law of OwnOne: crashes. -/
import Derived.Test.YtilfkccahlkcaaaS11
namespace Go.Proofs.Ytilfkccahlkcaaa
open Go Xf Go.RowKit
set_option linter.unusedVariables false
set_option linter.unusedSimpArgs false
set_option maxRecDepth 100000

def ownF (xs : List Lf) (l : List Int) : List Int := (List.range 16).map fun (k : Nat) => if (k : Int) ∈ l then 0 else (lfAt xs (k : Int)).owner
def lostF (xs : List Lf) (l : List Int) : List Bool := (List.range 16).map fun (k : Nat) => if (k : Int) ∈ l then true else (lfAt xs (k : Int)).lost
theorem ownF_len (xs : List Lf) (l : List Int) : (ownF xs l).length = 16 := by simp [ownF]
theorem lostF_len (xs : List Lf) (l : List Int) : (lostF xs l).length = 16 := by simp [lostF]
theorem ownF_at (xs : List Lf) (l : List Int) {p : Nat} (h : p < 16) : (ownF xs l)[p]? = some (if (p : Int) ∈ l then 0 else (lfAt xs (p : Int)).owner) := by simp [ownF, h]
theorem lostF_at (xs : List Lf) (l : List Int) {p : Nat} (h : p < 16) : (lostF xs l)[p]? = some (if (p : Int) ∈ l then true else (lfAt xs (p : Int)).lost) := by simp [lostF, h]
theorem ownF_nil (xs : List Lf) : ownF xs [] = ownA xs := by simp [ownF, ownA]
theorem lostF_nil (xs : List Lf) : lostF xs [] = lostA xs := by simp [lostF, lostA]
theorem ownF_set (xs : List Lf) (l : List Int) {p : Nat} (h : p < 16) : ownF xs (l ++ [(p : Int)]) = (ownF xs l).set p 0 := by
  apply List.ext_getElem?
  intro j
  by_cases he : p = j
  · subst he
    rw [List.getElem?_set_self (by rw [ownF_len]; exact h), ownF_at _ _ h, if_pos (by simp)]
  · rw [List.getElem?_set_ne he]
    by_cases hj : j < 16
    · rw [ownF_at _ _ hj, ownF_at _ _ hj]
      by_cases hm : (j : Int) ∈ l
      · rw [if_pos (List.mem_append_left _ hm), if_pos hm]
      · rw [if_neg (by rw [List.mem_append, List.mem_singleton]; rintro (h | h); exact hm h; omega), if_neg hm]
    · rw [List.getElem?_eq_none (by rw [ownF_len]; omega), List.getElem?_eq_none (l := ownF xs l) (by rw [ownF_len]; omega)]
theorem lostF_set (xs : List Lf) (l : List Int) {p : Nat} (h : p < 16) : lostF xs (l ++ [(p : Int)]) = (lostF xs l).set p true := by
  apply List.ext_getElem?
  intro j
  by_cases he : p = j
  · subst he
    rw [List.getElem?_set_self (by rw [lostF_len]; exact h), lostF_at _ _ h, if_pos (by simp)]
  · rw [List.getElem?_set_ne he]
    by_cases hj : j < 16
    · rw [lostF_at _ _ hj, lostF_at _ _ hj]
      by_cases hm : (j : Int) ∈ l
      · rw [if_pos (List.mem_append_left _ hm), if_pos hm]
      · rw [if_neg (by rw [List.mem_append, List.mem_singleton]; rintro (h | h); exact hm h; omega), if_neg hm]
    · rw [List.getElem?_eq_none (by rw [lostF_len]; omega), List.getElem?_eq_none (l := lostF xs l) (by rw [lostF_len]; omega)]
theorem mem_hasUp {xs : List Lf} {inst j : Int} {n : Nat} : j ∈ hasUp xs inst n ↔ ∃ k : Nat, k < n ∧ j = k ∧ (lfAt xs (k : Int)).owner = inst := by
  unfold hasUp
  rw [List.mem_map]
  constructor
  · rintro ⟨k, hk, rfl⟩
    rw [List.mem_filter, List.mem_range] at hk
    exact ⟨k, hk.1, rfl, of_decide_eq_true hk.2⟩
  · rintro ⟨k, hk, rfl, ho⟩
    exact ⟨k, List.mem_filter.2 ⟨List.mem_range.2 hk, decide_eq_true ho⟩, rfl⟩
theorem hasUp_nodup (xs : List Lf) (inst : Int) (n : Nat) : (hasUp xs inst n).Nodup := by
  unfold hasUp
  refine List.Pairwise.map _ (R := fun (a b : Nat) => a ≠ b) (fun a b h => by omega) ?_
  exact (List.nodup_range).filter _
/-- who crashed had each of the pages that are told, each once -/
theorem fail_had {xs : List Lf} (h : Inv xs) (inst : Int) {k : Nat} (hk : k < (failL xs inst).2.length) : ∃ p : Nat, p < 16 ∧ p < xs.length ∧ (failL xs inst).2[k] = p ∧ (lfAt xs (p : Int)).owner = inst ∧ (p : Int) ∉ (failL xs inst).2.take k := by
  have hm : (failL xs inst).2[k] ∈ (failL xs inst).2 := List.getElem_mem hk
  have hnd : (failL xs inst).2.Nodup := by
    unfold failL
    split
    · exact hasUp_nodup _ _ _
    · exact List.nodup_nil
  have hm2 : ∃ p : Nat, p < xs.length ∧ (failL xs inst).2[k] = p ∧ (lfAt xs (p : Int)).owner = inst := by
    have : ∀ j, j ∈ (failL xs inst).2 → ∃ p : Nat, p < xs.length ∧ j = p ∧ (lfAt xs (p : Int)).owner = inst := by
      intro j hj
      unfold failL at hj
      split at hj
      · exact mem_hasUp.1 hj
      · cases hj
    exact this _ hm
  obtain ⟨p, h1, h2, h3⟩ := hm2
  refine ⟨p, by have := h.1; omega, h1, h2, h3, ?_⟩
  rw [← h2]
  intro hx
  obtain ⟨i, hi, he⟩ := List.getElem_of_mem hx
  rw [List.getElem_take] at he
  have hi' : i < k := by rw [List.length_take] at hi; omega
  have := (List.getElem_inj hnd).1 he
  omega
theorem lfAt_map (xs : List Lf) (f : Lf → Lf) (j : Nat) : lfAt (xs.map f) (j : Int) = if j < xs.length then f (lfAt xs (j : Int)) else lf0 := by
  by_cases hj : j < xs.length
  · rw [lfAt_nat (by rw [List.length_map]; exact hj), lfAt_nat hj, List.getElem_map, if_pos hj]
  · rw [lfAt_out (by rw [List.length_map]; omega), if_neg hj]
theorem fail_own {xs : List Lf} (h : Inv xs) (inst : Int) : ownF xs (failL xs inst).2 = ownA (failL xs inst).1 := by
  unfold failL
  split
  · rename_i hk
    apply List.map_congr_left
    intro j _
    simp only
    rw [lfAt_map]
    by_cases hj : j < xs.length
    · rw [if_pos hj]
      unfold failX
      by_cases ho : (lfAt xs (j : Int)).owner = inst
      · rw [if_pos (mem_hasUp.2 ⟨j, hj, rfl, ho⟩), if_pos ho]
      · rw [if_neg, if_neg ho]
        intro hm
        obtain ⟨k, _, he, h2⟩ := mem_hasUp.1 hm
        obtain rfl : j = k := by omega
        exact ho h2
    · rw [if_neg hj, if_neg, lfAt_out (by omega)]
      intro hm
      obtain ⟨k, h1, he, h2⟩ := mem_hasUp.1 hm
      omega
  · exact ownF_nil xs
theorem fail_lost {xs : List Lf} (h : Inv xs) (inst : Int) : lostF xs (failL xs inst).2 = lostA (failL xs inst).1 := by
  unfold failL
  split
  · rename_i hk
    apply List.map_congr_left
    intro j _
    simp only
    rw [lfAt_map]
    by_cases hj : j < xs.length
    · rw [if_pos hj]
      unfold failX
      by_cases ho : (lfAt xs (j : Int)).owner = inst
      · rw [if_pos (mem_hasUp.2 ⟨j, hj, rfl, ho⟩), if_pos ho]
      · rw [if_neg, if_neg ho]
        intro hm
        obtain ⟨k, _, he, h2⟩ := mem_hasUp.1 hm
        obtain rfl : j = k := by omega
        exact ho h2
    · rw [if_neg hj, if_neg, lfAt_out (by omega)]
      intro hm
      obtain ⟨k, h1, he, h2⟩ := mem_hasUp.1 hm
      omega
  · exact lostF_nil xs
theorem fail_length (xs : List Lf) (inst : Int) : (failL xs inst).1.length = xs.length := by
  unfold failL; split <;> simp
theorem fail_count {xs : List Lf} (h : Inv xs) (inst : Int) : (failL xs inst).2.length ≤ 16 := by
  unfold failL
  split
  · have := hasUp_len xs inst xs.length
    have := h.1
    simp only
    omega
  · simp
theorem ownA_new (n : Nat) (fl : List Bool) : ownA (newL n fl) = List.replicate 16 0 := by
  apply List.ext_getElem (by simp [ownA])
  intro j h1 h2
  have hj : j < 16 := by rw [ownA_len] at h1; exact h1
  have := ownA_at (newL n fl) hj
  rw [List.getElem?_eq_getElem h1] at this
  injection this with this
  rw [this]
  rw [List.getElem_replicate]
  by_cases hn : j < n
  · rw [lfAt_new (by omega) (by omega)]
  · rw [lfAt_out (by rw [newL_len]; omega)]; rfl
theorem lostA_new (n : Nat) (fl : List Bool) : lostA (newL n fl) = List.replicate 16 false := by
  apply List.ext_getElem (by simp [lostA])
  intro j h1 h2
  have hj : j < 16 := by rw [lostA_len] at h1; exact h1
  have := lostA_at (newL n fl) hj
  rw [List.getElem?_eq_getElem h1] at this
  injection this with this
  rw [this]
  rw [List.getElem_replicate]
  by_cases hn : j < n
  · rw [lfAt_new (by omega) (by omega)]
  · rw [lfAt_out (by rw [newL_len]; omega)]; rfl
end Go.Proofs.Ytilfkccahlkcaaa
