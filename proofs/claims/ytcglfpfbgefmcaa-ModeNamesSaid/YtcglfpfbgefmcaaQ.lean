/- Slices of whole numbers, and rows. -/
import Derived.Test.YtcglfpfbgefmcaaO
namespace Go.Proofs.Ytcglfpfbgefmcaa
open Go Xf Go.RowKit Go.ChangeShapes Go.WideShapes
set_option linter.unusedVariables false

def intsV (k : IntKind) (l : List Int) : List Value := l.map fun n => .int k n
theorem intsV_len (k : IntKind) (l : List Int) : (intsV k l).length = l.length := by simp [intsV]
theorem intsV_one (k : IntKind) (l : List Int) : ∀ y ∈ intsV k l, y.oneCell' = true := by
  intro y hy; obtain ⟨n, _, rfl⟩ := List.mem_map.1 hy; rfl
theorem intsV_append (k : IntKind) (a b : List Int) : intsV k a ++ intsV k b = intsV k (a ++ b) := by simp [intsV]

theorem rd_row {w : World} {g n c : Nat} {cs : Array Value} {e : TypeId} {fr : Nat × Nat} {xs : List Value} (h : w.heap[g]? = some (.cells cs e fr)) (hn : xs.length = n) (hc : n ≤ c) (hx : cs.toList.take n = xs) : Rd w 1 (.slice (some ⟨g, 0, none⟩) n c) n xs := by
  refine ⟨_, _, rfl, hc, by omega, fun j u hu => ⟨_, rfl, ?_⟩⟩
  rw [add_mk, Nat.zero_add, cell_at h]
  rw [← hx, List.getElem?_take] at hu
  split at hu
  · simpa using hu
  · cases hu
/-- a slice that reads, opened at a place, in a later world -/
theorem Rd.cell {w w' : World} {v : Value} {n : Nat} {xs : List Value} (hr : Rd w 1 v n xs) (hU : Upd w w' []) {i : Nat} {u : Value} (hi : xs[i]? = some u) :
    ∃ A c a, v = .slice A n c ∧ A = some a ∧ w'.cell? (a.add ((i : Int).toNat * 1)) = some u := by
  obtain ⟨A, c, he, _, _, hc⟩ := hr
  obtain ⟨a, ha, hx⟩ := hc i u hi
  refine ⟨A, c, a, he, ha, ?_⟩
  rw [show (i : Int).toNat * 1 = i by omega, hU.cell (World.block_lt_of_cell? w _ hx) (by simp)]; exact hx
theorem row_nil (e : TypeId) (g : Nat) : RowH e 1 (.slice (some ⟨g, 0, none⟩) 0 0) 0 [] [(g, .cells #[] e)] := ⟨rfl, .inr ⟨g, 0, #[], rfl, rfl, Nat.le_refl _, Nat.zero_le _, rfl, rfl⟩⟩

section
variable {H : Type} {enc : TypeId × Value → H} {P : Program} {w : World} {held : Bool}
theorem ints_of_trod {t e : TypeId} {k : IntKind} {fuel : Nat} {v : Value} {x : DataW H × List MemPlace} (ht : P.underlying t = some (.slice e)) (he : P.underlying e = some (.int k)) (hc : P.cellsOf e = 1)
    (h : DataW.trod enc P w 0 (fun _ => true) held fuel t [v] = some x) : ∃ (l : List Int) (a : Option Addr) (c : Nat), v = .slice a l.length c ∧ l.length ≤ maxLen ∧ Rd w 1 v l.length (intsV k l) ∧ ∀ n ∈ l, (Lit.int k n).wf = true := by
  rcases open_ints ht he hc h with ⟨hcs, _⟩ | ⟨y, len, c, zs, hcs, _, hl, hm, hz, hx, hcell, hwz⟩
  · simp at hcs
    subst hcs
    exact ⟨[], none, 0, rfl, Nat.zero_le _, Rd.nil_ _ _, fun n hn => by cases hn⟩
  · simp at hcs
    subst hcs
    simp at hz
    have hlen : (zs.take len).length = len := by simp; omega
    refine ⟨zs.take len, some y, c, by rw [hlen], by omega, ?_, fun n hn => hwz n (List.mem_of_mem_take hn)⟩
    rw [hlen]
    refine ⟨some y, c, rfl, hl, by simp [intsV]; omega, fun j u hu => ⟨y, rfl, ?_⟩⟩
    have hj : j < len := by
      have := (List.getElem?_eq_some_iff.1 hu).1
      simp [intsV] at this
      omega
    have hj2 : j < zs.length := by omega
    rw [hcell j hj2]
    simp [intsV, hj, hj2, List.getElem?_take] at hu
    simp [List.getD, hj2, hu]
end
end Go.Proofs.Ytcglfpfbgefmcaa
