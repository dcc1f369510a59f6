/- What comes in: slices of whatever, opened as lists. -/
import Derived.Test.YtakifgecgmdjcaaRf
import Derived.Deep.Slices
import Derived.OpenShut
namespace Go.Proofs.Ytakifgecgmdjcaa
open Go Xf Go.RowKit Go.ChangeShapes Go.WideShapes
set_option linter.unusedVariables false

section
variable {H : Type} {enc : TypeId × Value → H} {P : Program} {w : World} {held : Bool}

theorem rd_of_trod {t e : TypeId} {fuel : Nat} {v : Value} {x : DataW H × List MemPlace} (ht : P.underlying t = some (.slice e)) (he : P.underlying e = some (.int .u8)) (hc : P.cellsOf e = 1)
    (h : DataW.trod enc P w 0 (fun _ => true) held fuel t [v] = some x) : ∃ (l : List UInt8) (a : Option Addr) (c : Nat), v = .slice a l.length c ∧ l.length ≤ maxLen ∧ Rd w 1 v l.length (bytesV l) := by
  rcases open_ints ht he hc h with ⟨hcs, _⟩ | ⟨y, len, c, zs, hcs, _, hl, hm, hz, hx, hcell, hwz⟩
  · simp at hcs
    subst hcs
    exact ⟨[], none, 0, rfl, Nat.zero_le _, Rd.nil_ _ _⟩
  · simp at hcs
    subst hcs
    obtain ⟨l, h1, h2, h3⟩ := rd_of_nums (w := w) (a := some y) (len := len) (cap := c) (zs := zs) (.inr ⟨_, rfl, hl, hm, by simpa using hz, hcell, hwz⟩)
    exact ⟨l, some y, c, by rw [h1], h2, by rw [h1]; exact h3⟩

/-- a [][]byte that reads as the rows ls -/
def RdRows (w : World) (v : Value) (ls : List (List UInt8)) : Prop :=
  ∃ (a : Option Addr) (c : Nat), v = .slice a ls.length c ∧ ls.length ≤ maxLen ∧ ∀ i l, ls[i]? = some l → ∃ (q : Addr) (A : Option Addr) (cc : Nat), a = some q ∧ w.cell? (q.add i) = some (.slice A l.length cc) ∧ l.length ≤ maxLen ∧ Rd w 1 (.slice A l.length cc) l.length (bytesV l)

theorem rows_of_trod {t m e : TypeId} {fuel : Nat} {v : Value} {x : DataW H × List MemPlace} (ht : P.underlying t = some (.slice m)) (hm1 : P.cellsOf m = 1) (hm : P.underlying m = some (.slice e)) (he : P.underlying e = some (.int .u8)) (hc : P.cellsOf e = 1)
    (h : DataW.trod enc P w 0 (fun _ => true) held fuel t [v] = some x) : ∃ ls : List (List UInt8), RdRows w v ls := by
  rcases Deep.open_slice1 ht hm1 h with ⟨hcs, _⟩ | ⟨a, len, cap, mm, n, V, D, Pl, hcs, _, hl, hml, hmm, _, hx⟩
  · simp at hcs
    subst hcs
    exact ⟨[], none, 0, rfl, Nat.zero_le _, fun i l h => by simp at h⟩
  · simp at hcs
    subst hcs
    simp at hmm
    have hx' : ∀ i, i < len → ∃ l : List UInt8, w.cell? (a.add i) = some (V i) ∧ ∃ (A : Option Addr) (c : Nat), V i = .slice A l.length c ∧ l.length ≤ maxLen ∧ Rd w 1 (V i) l.length (bytesV l) := by
      intro i hi
      obtain ⟨h1, h2⟩ := hx i (by omega)
      obtain ⟨l, A, c, h3, h4, h5⟩ := rd_of_trod hm he hc h2
      exact ⟨l, h1, A, c, h3, h4, h5⟩
    obtain ⟨f, hf⟩ := Deep.choose_lt hx'
    refine ⟨(List.range len).map f, some a, cap, by simp, by simp; omega, fun i l hi => ?_⟩
    obtain ⟨hi1, hi2⟩ := List.getElem?_eq_some_iff.1 hi
    simp at hi1 hi2
    subst hi2
    obtain ⟨h1, A, c, h3, h4, h5⟩ := hf i hi1
    exact ⟨a, A, c, rfl, by rw [← h3]; exact h1, h4, by rw [← h3]; exact h5⟩
end
end Go.Proofs.Ytakifgecgmdjcaa
