/- Rows at a place of a block; leaves and books as they lie in memory. -/
import Derived.Test.YtilfkccahlkcaaaD
import Derived.Test.YtilfkccahlkcaaaF
import Derived.Test.YtilfkccahlkcaaaV
import Derived.Laws.Append
import Derived.Laws.AppendOwn
namespace Go.Proofs.Ytilfkccahlkcaaa
open Go Xf Go.RowKit
set_option linter.unusedVariables false
set_option linter.unusedSimpArgs false
set_option maxRecDepth 100000

theorem w64 {a : Int} (h0 : -9223372036854775808 ≤ a) (h1 : a < 9223372036854775808) : IntKind.wrap .i64 a = a := by
  rw [IntKind.wrap_i64]; omega

/-- a slice that reads xs, of a block of one's own, at whatever place; cells of one value -/
def RowO (e : TypeId) (v : Value) (n : Nat) (xs : List Value) (h : List (Nat × Obj)) : Prop :=
  xs.length = n ∧ ((v = .slice none 0 0 ∧ n = 0 ∧ h = []) ∨ ∃ (g off cap : Nat) (cs : Array Value), v = .slice (some ⟨g, off, none⟩) n cap ∧ h = [(g, .cells cs e (0, 0))] ∧ n ≤ cap ∧ cap ≤ maxLen ∧ off + cap ≤ cs.size ∧ (cs.toList.drop off).take n = xs)
theorem RowO.nil_ (e : TypeId) : RowO e (.slice none 0 0) 0 [] [] := ⟨rfl, .inl ⟨rfl, rfl, rfl⟩⟩
theorem RowO.rd {e : TypeId} {v : Value} {n : Nat} {xs : List Value} {h F : List (Nat × Obj)} {w : World} (hr : RowO e v n xs h) (hO : Owns w (h ++ F)) : Rd w 1 v n xs := by
  rcases hr.2 with ⟨h1, h2, _⟩ | ⟨g, off, cap, cs, h1, rfl, h3, h4, h5, h6⟩
  · subst h2
    have : xs = [] := List.eq_nil_of_length_eq_zero hr.1
    subst this
    rw [h1]
    exact Rd.nil_ _ _
  · refine ⟨some ⟨g, off, none⟩, cap, h1, h3, by rw [hr.1]; omega, fun j u hu => ⟨_, rfl, ?_⟩⟩
    rw [add_mk, cell_at (hO.at_ 0 rfl)]
    rw [← h6, List.getElem?_take] at hu
    split at hu
    · rw [List.getElem?_drop] at hu
      simpa using hu
    · cases hu
theorem RowO.one {e : TypeId} {v : Value} {n : Nat} {xs : List Value} {h : List (Nat × Obj)} (hr : RowO e v n xs h) : oneB v = true := by
  rcases hr.2 with ⟨h1, _⟩ | ⟨g, off, cap, cs, h1, _⟩ <;> rw [h1] <;> rfl

section
variable {P : Program} {w W : World} {K : Value → World → Prop}
/-- append onto such a row -/
theorem st_appendO {t e ty : TypeId} {c : List Bool} {i : TypeInfo} {z : Value} {bytes : Nat} (ht : P.underlying t = some (.slice e)) (hi : P.info? e = some i) (hz : i.zero = some z) (hs : i.size = 1) (hb : i.bytes = bytes) (hzs : z.cells.size = 1)
    {v u : Value} {n m : Nat} {xs ys : List Value} {h F : List (Nat × Obj)} {ks : List Nat} (hr : RowO e v n xs h) (hO : Owns w (h ++ F)) (hU : Upd W w ks) (hh : ∀ p ∈ h, p.1 ∈ ks ∨ W.heap.size ≤ p.1)
    (hrd : Rd w 1 u m ys) (h1 : ∀ y ∈ ys, y.oneCell' = true) (hm0 : 0 < m) (h63 : n + m ≤ maxLen) (hby : (n + m) * bytes ≤ 140737488355328)
    (hk : ∀ v' w' h', RowO e v' (n + m) (xs ++ ys) h' → Owns w' (h' ++ F) → Upd W w' ks → (∀ p ∈ h', p.1 ∈ ks ∨ W.heap.size ≤ p.1) → K v' w') : (std P).step (sBuiltin .append #[t, t] ty c [v, u]) w K := by
  have hrdO := hr.rd hO
  obtain ⟨A, cc, rfl, hc, hl, hrd⟩ := hrd
  subst hb
  have hsmall : n + m ≤ 9223372036854775807 := by simp only [maxLen] at h63; omega
  obtain ⟨a, rfl⟩ : ∃ a, A = some a := by
    cases ys with
    | nil => simp at hl; omega
    | cons y ys => obtain ⟨a, ha, _⟩ := hrd 0 y rfl; exact ⟨a, ha⟩
  have hnews : ∀ j u, ys[j]? = some u → w.cell? (a.add j) = some u := fun j u hu => by obtain ⟨a', ha, hx⟩ := hrd j u hu; cases ha; exact hx
  have hstep : ∀ {v' : Value} {w' : World}, (Builtin.append_ #[t, t] ty #[v, .slice (some a) m cc]).run P w = .ok v' w' → (sBuiltin .append #[t, t] ty c [v, .slice (some a) m cc]).run P w = .ok (.value v') w' := by
    intro v' w' hrun
    show (do pure (.value (← Builtin.append_ #[t, t] ty #[v, .slice (some a) m cc])) : Sem Next).run P w = _
    rw [Sem.run_bind, hrun]
    rfl
  have hOF : Owns w F := hO.sub (List.sublist_append_right h F)
  have hfl := hr.1
  -- a new row
  have fresh : ∀ (old : Nat), old < n + m → ∀ (k' : Unit),
      K (.slice (some ⟨w.heap.size, 0, none⟩) (n + m) (grownCap w (n + m) old e)) (w.drew.alloc (.cells (xs.toArray ++ ys.toArray ++ Builtin.zeroCells z.cells (grownCap w (n + m) old e - (n + m))) e)) := by
    intro old ho _
    have hge := grownCap_ge w (n + m) old e
    have hcm : grownCap w (n + m) old e ≤ maxLen := grownCap_le_maxLen w (n + m) old e h63
    have hlen : (xs ++ ys).length = n + m := by rw [List.length_append, hfl, hl]; omega
    have hO' : Owns w.drew F := hOF.ext (Upd.drew w [])
    refine hk _ _ [(w.heap.size, .cells (xs.toArray ++ ys.toArray ++ Builtin.zeroCells z.cells (grownCap w (n + m) old e - (n + m))) e (0, 0))] ⟨hlen, .inr ⟨w.heap.size, 0, _, _, rfl, rfl, hge, hcm, ?_, ?_⟩⟩ (hO'.alloc _) ?_ ?_
    · simp only [Array.size_append, List.size_toArray, size_zeroCells, hzs, hfl, hl]
      omega
    · simp only [Array.toList_append, List.drop_zero]
      rw [← hlen]
      exact List.take_left
    · exact (hU.then_ (Upd.drew w []) fun x hx => by cases hx).then_ (Upd.alloc _ _ []) fun x hx => by cases hx
    · intro p hp
      simp at hp
      subst hp
      exact .inr hU.size
  rcases hr.2 with ⟨rfl, rfl, rfl⟩ | ⟨g, off, cap, cs, rfl, rfl, hnc, hcm, hcs, htake⟩
  · have hx : xs = [] := List.eq_nil_of_length_eq_zero hfl
    subst hx
    have hrun := run_append_nil (P := P) w t ty e i z ht hi hz a m cc ys (by rw [hs]; exact hl) hnews (by omega) (by omega) (by have hb := hby; simp only [Nat.zero_add] at hb; omega)
    rw [step_run (hstep hrun)]
    have := fresh 0 (by omega) ()
    simp only [Nat.zero_add, List.nil_append, Array.empty_append] at this ⊢
    exact this
  · by_cases hroom : n + m ≤ cap
    · have hf := run_firstCells_some (P := P) w 1 m a m cc ys (by rw [hl]) hnews
      have hst := run_storeCells_at P g (off + n) e ys 0 cs w (hO.at_ 0 rfl) (by simp at hl ⊢; omega) h1
      simp only [Nat.add_zero] at hst
      have hadd : (⟨g, off, none⟩ : Addr).add n = ⟨g, off + n, none⟩ := add_mk g off n
      have hrun : (Builtin.append_ #[t, t] ty #[.slice (some ⟨g, off, none⟩) n cap, .slice (some a) m cc]).run P w =
          .ok (.slice (some ⟨g, off, none⟩) (n + m) cap) (w.setRow g (cs.toList.take (off + n) ++ ys ++ cs.toList.drop (off + n + ys.length)).toArray) := by
        simp [Builtin.append_, run_underlying ht, sizeOf, typeInfo, hi, hs, Builtin.lenOf, hroom, hf, hadd, hst]
      have hgk : g ∈ ks ∨ W.heap.size ≤ g := hh (g, .cells cs e (0, 0)) (List.mem_singleton.2 rfl)
      rw [step_run (hstep hrun)]
      refine hk _ _ [(g, .cells (cs.toList.take (off + n) ++ ys ++ cs.toList.drop (off + n + ys.length)).toArray e (0, 0))] ⟨by rw [List.length_append, hfl, hl]; omega, .inr ⟨g, off, cap, _, rfl, rfl, hroom, hcm, ?_, ?_⟩⟩ (hO.setRow 0 rfl _) (hU.then_ (Upd.setRow _ _ _) fun x hx => by rw [List.mem_singleton] at hx; rw [hx]; exact hgk) (fun p hp => by rw [List.mem_singleton] at hp; rw [hp]; exact hgk)
      · simp only [List.size_toArray, List.length_append, List.length_take, List.length_drop, Array.length_toList]
        simp at hl
        omega
      · have hyl : ys.length = m := by simpa using hl
        have htl : (cs.toList.take (off + n)).length = off + n := by rw [List.length_take, Array.length_toList]; omega
        rw [List.append_assoc, List.drop_append, htl, show off - (off + n) = 0 by omega, List.drop_zero]
        rw [show (cs.toList.take (off + n)).drop off = xs by rw [← htake, List.drop_take, Nat.add_sub_cancel_left]]
        rw [← List.append_assoc, show n + m = (xs ++ ys).length by rw [List.length_append, hfl, hyl]]
        exact List.take_left
    · obtain ⟨A', c', he, _, _, hcells⟩ := hrdO
      injection he with he1 he2 he3
      subst he1
      have holds : ∀ j u, xs[j]? = some u → w.cell? ((⟨g, off, none⟩ : Addr).add j) = some u := fun j u hu => by obtain ⟨a', ha, hx⟩ := hcells j u hu; cases ha; exact hx
      have hrun := run_append_grow (P := P) w t ty e i z ht hi hz ⟨g, off, none⟩ n cap xs (by rw [hs, hfl]; omega) holds a m cc ys (by rw [hs]; exact hl) hnews (by omega) (by omega) (growslice_fits (by omega) hby)
      rw [step_run (hstep hrun)]
      exact fresh cap (by omega) ()

/-- x[1:len(x):len(x)] -/
theorem run_rest {t e : TypeId} {n c : Nat} {A : Option Addr} {w : World} (ht : P.underlying t = some (.slice e)) (hs : (P.info? e).map (·.size) = some 1) (h1 : 1 ≤ n) (hn : n ≤ c) :
    (sSlice t (.slice A n c) (some (.int .i64 1)) (some (.int .i64 (n : Nat))) (some (.int .i64 (n : Nat)))).run P w = .ok (.value (.slice (if n = 1 then A else A.map (·.add 1)) (n - 1) (n - 1))) w := by
  unfold sSlice Instr.sliceAt
  rw [run_sV, Sem.run_bind, run_underlying' ht]
  simp only [Result.andThen_ok, Instr.slice, Sem.run_bind, run_underlying' ht, Instr.sliceBounds, Sem.run_pure]
  rw [sliceBound_run (show (0 : Int) ≤ (n : Nat) by omega) (show ((n : Nat) : Int) ≤ (c : Nat) by omega)]
  simp only [Result.andThen_ok, Int.toNat_natCast]
  rw [sliceBound_run (show (0 : Int) ≤ (n : Nat) by omega) (show ((n : Nat) : Int) ≤ (n : Nat) by omega)]
  simp only [Result.andThen_ok, Int.toNat_natCast]
  rw [sliceBound_run (show (0 : Int) ≤ 1 by omega) (show (1 : Int) ≤ (n : Nat) by omega)]
  simp only [Result.andThen_ok, run_sizeOf hs, Sem.run_pure]
  rfl
theorem RowO.rest {e : TypeId} {A : Option Addr} {n c : Nat} {xs : List Value} {h : List (Nat × Obj)} (hr : RowO e (.slice A n c) n xs h) (h1 : 1 ≤ n) : RowO e (.slice (if n = 1 then A else A.map (·.add 1)) (n - 1) (n - 1)) (n - 1) (xs.drop 1) h := by
  refine ⟨by rw [List.length_drop, hr.1], ?_⟩
  rcases hr.2 with ⟨_, h2, _⟩ | ⟨g, off, cap, cs, he, rfl, hnc, hcm, hcs, htake⟩
  · omega
  · injection he with he1 _ he3
    subst he1 he3
    by_cases hn : n = 1
    · subst hn
      refine .inr ⟨g, off, 0, cs, by simp, rfl, by omega, by omega, by omega, ?_⟩
      rw [← htake]
      simp
    · refine .inr ⟨g, off + 1, n - 1, cs, by rw [if_neg hn, Option.map_some, add_mk], rfl, by omega, by omega, by omega, ?_⟩
      rw [← htake, List.drop_take, List.drop_drop]
end
end Go.Proofs.Ytilfkccahlkcaaa
