/- Slices of whole numbers, and rows. -/
import Derived.Test.YtakifgecgmdjcaaO
namespace Go.Proofs.Ytakifgecgmdjcaa
open Go Xf Go.RowKit Go.ChangeShapes Go.WideShapes
set_option linter.unusedVariables false
set_option linter.unusedSimpArgs false

def intsV (k : IntKind) (l : List Int) : List Value := l.map fun n => .int k n
theorem intsV_len (k : IntKind) (l : List Int) : (intsV k l).length = l.length := by simp [intsV]
theorem intsV_one (k : IntKind) (l : List Int) : ∀ y ∈ intsV k l, y.oneCell' = true := by
  intro y hy; obtain ⟨n, _, rfl⟩ := List.mem_map.1 hy; rfl
theorem intsV_append (k : IntKind) (a b : List Int) : intsV k a ++ intsV k b = intsV k (a ++ b) := by simp [intsV]

theorem rd_row {w : World} {g n c : Nat} {cs : Array Value} {e : TypeId} {fr : Nat × Nat} {xs : List Value} (h : w.heap[g]? = some (.cells cs e fr)) (hn : xs.length = n) (hc : n ≤ c) (hx : cs.toList.take n = xs) : Rd w 1 (.slice (some ⟨g, 0, none⟩) n c) n xs := by
  refine ⟨_, _, rfl, hc, by omega, fun j u hu => ⟨_, rfl, ?_⟩⟩
  rw [add_mk, Nat.zero_add, cell_at h]
  rw [← hx, List.getElem?_take] at hu
  split at hu
  · simpa using hu
  · cases hu
/-- a slice that reads, opened at a place, in a later world -/
theorem Rd.cell {w w' : World} {v : Value} {n : Nat} {xs : List Value} (hr : Rd w 1 v n xs) (hU : Upd w w' []) {i : Nat} {u : Value} (hi : xs[i]? = some u) :
    ∃ A c a, v = .slice A n c ∧ A = some a ∧ w'.cell? (a.add ((i : Int).toNat * 1)) = some u := by
  obtain ⟨A, c, he, _, _, hc⟩ := hr
  obtain ⟨a, ha, hx⟩ := hc i u hi
  refine ⟨A, c, a, he, ha, ?_⟩
  rw [show (i : Int).toNat * 1 = i by omega, hU.cell (World.block_lt_of_cell? w _ hx) (by simp)]; exact hx
theorem row_nil (e : TypeId) (g : Nat) : RowH e 1 (.slice (some ⟨g, 0, none⟩) 0 0) 0 [] [(g, .cells #[] e)] := ⟨rfl, .inr ⟨g, 0, #[], rfl, rfl, Nat.le_refl _, Nat.zero_le _, rfl, rfl⟩⟩

section
variable {H : Type} {enc : TypeId × Value → H} {P : Program} {w : World} {held : Bool}
theorem ints_of_trod {t e : TypeId} {k : IntKind} {fuel : Nat} {v : Value} {x : DataW H × List MemPlace} (ht : P.underlying t = some (.slice e)) (he : P.underlying e = some (.int k)) (hc : P.cellsOf e = 1)
    (h : DataW.trod enc P w 0 (fun _ => true) held fuel t [v] = some x) : ∃ (l : List Int) (a : Option Addr) (c : Nat), v = .slice a l.length c ∧ l.length ≤ maxLen ∧ Rd w 1 v l.length (intsV k l) ∧ ∀ n ∈ l, (Lit.int k n).wf = true := by
  rcases open_ints ht he hc h with ⟨hcs, _⟩ | ⟨y, len, c, zs, hcs, _, hl, hm, hz, hx, hcell, hwz⟩
  · simp at hcs
    subst hcs
    exact ⟨[], none, 0, rfl, Nat.zero_le _, Rd.nil_ _ _, fun n hn => by cases hn⟩
  · simp at hcs
    subst hcs
    simp at hz
    have hlen : (zs.take len).length = len := by simp; omega
    refine ⟨zs.take len, some y, c, by rw [hlen], by omega, ?_, fun n hn => hwz n (List.mem_of_mem_take hn)⟩
    rw [hlen]
    refine ⟨some y, c, rfl, hl, by simp [intsV]; omega, fun j u hu => ⟨y, rfl, ?_⟩⟩
    have hj : j < len := by
      have := (List.getElem?_eq_some_iff.1 hu).1
      simp [intsV] at this
      omega
    have hj2 : j < zs.length := by omega
    rw [hcell j hj2]
    simp [intsV, hj, hj2, List.getElem?_take] at hu
    simp [List.getD, hj2, hu]
end

section
variable {P : Program} {w W : World} {K : Value → World → Prop}

theorem run_copyN (w : World) (dT sT ty elem : TypeId) (sz g o dLen dCap : Nat) (a : Addr) (sLen sCap : Nat) (cur : Array Value) (t : TypeId) (cs : List Value)
    (hu : P.underlying dT = some (.slice elem)) (hs : (P.info? elem).map (·.size) = some sz)
    (hg : w.heap[g]? = some (.cells cur t (0, 0))) (hn : cs.length = Nat.min sLen dLen * sz)
    (hsrc : ∀ j v, cs[j]? = some v → w.cell? (a.add j) = some v) (hfit : o + cs.length ≤ cur.size) (h1 : ∀ v ∈ cs, v.oneCell' = true) :
    (Builtin.copy_ #[dT, sT] ty #[.slice (some ⟨g, o, none⟩) dLen dCap, .slice (some a) sLen sCap]).run P w =
      .ok (goInt (Nat.min sLen dLen)) (w.setRow g (cur.toList.take o ++ cs ++ cur.toList.drop (o + cs.length)).toArray) := by
  have hl := run_loadCells_list (P := P) w a cs hsrc
  have hst := run_storeCells_at P g o t cs 0 cur w hg (by simpa using hfit) h1
  cases hq : P.info? elem with
  | none => simp [hq] at hs
  | some i =>
    have hi : i.size = sz := by simpa [hq] using hs
    simp [Builtin.copy_, run_underlying hu, Builtin.lenOf, Builtin.firstCells, sizeOf, typeInfo, hq, hi, ← hn, hl, hst]

/-- all of a slice is copied into a row that is as long -/
theorem st_copy {t t' e te ty : TypeId} {c : List Bool} {sz n cap g : Nat} {v : Value} {xs : List Value} {cur : Array Value} {h : List (Nat × Obj)} {ks : List Nat} (ht : P.underlying t = some (.slice e)) (hsz : (P.info? e).map (·.size) = some sz)
    (hU : Upd W w ks) (hO : Owns w h) (i : Nat) (hi : h[i]? = some (g, .cells cur te (0, 0))) (hr : Rd w sz v n xs) (hfit : xs.length ≤ cur.size) (h1 : ∀ u ∈ xs, u.oneCell' = true) (hg : g ∈ ks ∨ W.heap.size ≤ g)
    (hk : ∀ w', Upd W w' ks → Owns w' (h.set i (g, .cells (xs ++ cur.toList.drop xs.length).toArray te (0, 0))) → K (.int .i64 n) w') :
    (std P).step (sBuiltin .copy #[t, t'] ty c [.slice (some ⟨g, 0, none⟩) n cap, v]) w K := by
  obtain ⟨A, cc, rfl, hcc, hl, hrd⟩ := hr
  have hb := hO.at_ i hi
  have hrun : ∀ {u : Value} {w' : World}, (Builtin.copy_ #[t, t'] ty #[.slice (some ⟨g, 0, none⟩) n cap, .slice A n cc]).run P w = .ok u w' → (sBuiltin .copy #[t, t'] ty c [.slice (some ⟨g, 0, none⟩) n cap, .slice A n cc]).run P w = .ok (.value u) w' := by
    intro u w' h
    show (do pure (.value (← Builtin.copy_ #[t, t'] ty #[.slice (some ⟨g, 0, none⟩) n cap, .slice A n cc])) : Sem Next).run P w = _
    rw [Sem.run_bind, h]; rfl
  by_cases hx : xs = []
  · subst hx
    have hz : (Builtin.copy_ #[t, t'] ty #[.slice (some ⟨g, 0, none⟩) n cap, .slice A n cc]).run P w = .ok (goInt n) w := by
      cases hq : P.info? e with
      | none => simp [hq] at hsz
      | some i =>
        have hi : i.size = sz := by simpa [hq] using hsz
        have h0 : n * sz = 0 := by simpa using hl.symm
        cases A with
        | none => simp [Builtin.copy_, run_underlying ht, Builtin.lenOf, Builtin.firstCells, sizeOf, typeInfo, hq, hi, h0, storeCells]
        | some a => simp [Builtin.copy_, run_underlying ht, Builtin.lenOf, Builtin.firstCells, sizeOf, typeInfo, hq, hi, h0, storeCells, loadCells, loadCellsFrom]
    rw [step_run (hrun hz)]
    refine hk w hU ?_
    have : (g, Obj.cells ([] ++ cur.toList.drop ([] : List Value).length).toArray te (0, 0)) = (g, Obj.cells cur te (0, 0)) := by simp
    rw [this]
    have : h.set i (g, Obj.cells cur te (0, 0)) = h := by
      apply List.ext_getElem?
      intro j
      by_cases hij : i = j
      · subst hij; rw [List.getElem?_set_self (List.getElem?_eq_some_iff.1 hi).1, hi]
      · rw [List.getElem?_set_ne hij]
    rw [this]; exact hO
  · obtain ⟨x, xs', rfl⟩ := List.exists_cons_of_ne_nil hx
    obtain ⟨a, rfl, _⟩ := hrd 0 x rfl
    have hsrc : ∀ j u, (x :: xs')[j]? = some u → w.cell? (a.add j) = some u := fun j u hj => by
      obtain ⟨a', ha, hc⟩ := hrd j u hj
      injection ha with ha; subst ha; exact hc
    have := run_copyN (P := P) w t t' ty e sz g 0 n cap a n cc cur te (x :: xs') ht hsz hb (by simpa using hl) hsrc (by simpa using hfit) h1
    rw [show Nat.min n n = n from Nat.min_self n] at this
    rw [step_run (hrun this)]
    have e : (cur.toList.take 0 ++ (x :: xs') ++ cur.toList.drop (0 + (x :: xs').length)).toArray = ((x :: xs') ++ cur.toList.drop (x :: xs').length).toArray := by simp
    rw [e]
    exact hk _ (hU.then_ (Upd.setRow _ _ _) fun y hy => by simp at hy; subst hy; exact hg) (hO.setRow i hi _)

theorem st_make {t e : TypeId} {i : TypeInfo} {z : Value} {sz bytes : Nat} {q : IntKind} {n : Nat} {h : List (Nat × Obj)} {ks : List Nat} (ht : P.underlying t = some (.slice e)) (hi : P.info? e = some i) (hz : i.zero = some z) (hs : i.size = sz) (hb : i.bytes = bytes)
    (hby : bytes * n ≤ 281474976710656) (h63 : n ≤ 9223372036854775807) (hU : Upd W w ks) (hO : Owns w h)
    (hk : ∀ g w', Upd W w' ks → Owns w' ((g, .cells (madeCells z.cells (n * sz)) e) :: h) → W.heap.size ≤ g → K (.slice (some ⟨g, 0, none⟩) n n) w') : (std P).step (sMakeSlice t (.int q n) (.int q n)) w K := by
  subst hs hb
  refine st_newRow (fun w => ?_) hU hO hk
  have h2 : ((i.bytes * n : Nat) : Int) ≤ 281474976710656 := by omega
  rw [Int.natCast_mul] at h2
  have := run_make (P := P) w t e i z ht hi hz q q n n (by omega) (by omega) h2 (by omega)
  unfold sMakeSlice
  rw [run_sV, this, Int.toNat_natCast]
  rfl
end
end Go.Proofs.Ytakifgecgmdjcaa
