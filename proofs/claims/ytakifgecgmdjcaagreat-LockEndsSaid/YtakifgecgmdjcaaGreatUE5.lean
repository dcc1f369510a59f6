/- Texts of this work, put together: LkAN, LkAO, GrA, GrB, GrC, GrD, LkBA, LkBB, LkBC, LkCA, LkCB, LkCC, LkCD, LkCE. -/
import Derived.Test.YtakifgecgmdjcaaGreatUE4
import Derived.ArgAppend
/- Locks: LockTurns. -/
namespace Go.Proofs.YtakifgecgmdjcaaGreat
open Go Xf Go.RowKit
set_option linter.unusedVariables false
set_option linter.unusedSimpArgs false
set_option maxRecDepth 100000

def opBx (b : Nat) (o : LOp) : Nat × Obj := (b, .cells (opV o).toArray 33 (0, 0))
theorem op_cells {w : World} {b : Nat} {o : LOp} (h : w.heap[b]? = some (opBx b o).2) : w.cell? ⟨b, 0, none⟩ = some (.int .i64 o.kind) ∧ w.cell? ⟨b, 1, none⟩ = some (.int .i64 o.txn) ∧ w.cell? ⟨b, 2, none⟩ = some (strV o.want.name) ∧ w.cell? ⟨b, 3, none⟩ = some (.int .i64 o.want.mode) :=
  ⟨(cell_at h).trans rfl, (cell_at h).trans rfl, (cell_at h).trans rfl, (cell_at h).trans rfl⟩
theorem op_boxload {w : World} {b : Nat} {o : LOp} (h : w.heap[b]? = some (opBx b o).2) : (loadVar 33 ⟨b, 0, none⟩).run Tryz.prog w = .ok (.agg (opV o).toArray) w :=
  run_loadVarN (cs := opV o) ag33 (by rw [sz33]; rfl) (cells_read (cs := (opV o).toArray) h)
theorem op_boxwant {w : World} {b : Nat} {o : LOp} (h : w.heap[b]? = some (opBx b o).2) : (loadVar 31 ⟨b, 2, none⟩).run Tryz.prog w = .ok (wtV o.want) w :=
  run_loadVarN (cs := [strV o.want.name, .int .i64 o.want.mode]) ag31 (by rw [sz31]; rfl) fun j v hj => by
    rw [add_mk, cell_at h]
    match j with
    | 0 => exact hj
    | 1 => exact hj
    | j + 2 => simp at hj
theorem Fine.ask {T : Tb} {B : Nat} (h : Fine T B) (new : Nat) (txn : Int) (v : Wt) (ho : in64 txn) : Fine (askT T new txn v).1 (B + 1) := ⟨askT_ok new txn v h.ok, askT_sz new txn v h.sz, askT_good h.good new txn v ho⟩
theorem askT_no {T : Tb} {new : Nat} {txn : Int} {v : Wt} (h : (askT T new txn v).2.2 ≠ 0) : (askT T new txn v).2.1 = false := by
  unfold askT at h ⊢
  by_cases hok : argsOk txn v
  · rw [if_pos hok] at h ⊢
    by_cases hw : (aGet T.waits txn).isSome = true
    · rw [if_pos hw]
    · rw [if_neg hw] at h; exact absurd rfl h
  · rw [if_neg hok]
section
variable {W w w' : World} {F : List (Nat × Obj)} {g : Nat} {T : Tb} {K : Value → World → Prop}
theorem Turns_lives {Q : Value → World → Prop} (hU : Upd W w []) (hQ : ∀ w', Upd W w' [] → Q (.bool true) w') : (std Tryz.prog).calls 8 #[] w Q :=
  st_call (lives_spec hU (Owns.nil w)) fun u w' ⟨h1, h2⟩ => by subst h1; exact hQ w' h2
end
end Go.Proofs.YtakifgecgmdjcaaGreat

/- Locks: LockTurns, put together. -/
namespace Go.Proofs.YtakifgecgmdjcaaGreat
open Go Xf Go.RowKit
set_option linter.unusedVariables false
set_option linter.unusedSimpArgs false
set_option maxRecDepth 100000

end Go.Proofs.YtakifgecgmdjcaaGreat

/- Graphs: the keys of a map of edges; a row of numbers that wait. -/
namespace Go.Proofs.YtakifgecgmdjcaaGreat
open Go Xf Go.RowKit
set_option linter.unusedVariables false
set_option linter.unusedSimpArgs false
set_option maxRecDepth 100000

def keyE (e : Ed) : Value := .agg (edV e).toArray
theorem uEdge : ∃ fs, Tryz.prog.underlying 129 = some (.struct fs) := ⟨Tryz.prog.fieldsOf 129, by kernel_rfl⟩
theorem uGraphMap : Tryz.prog.underlying 125 = some (.map 129 4) := by kernel_rfl
theorem check_ed (e : Bool) (a : Ed) (w : World) : (Instr.checkKey e 10000 129 (keyE a)).run Tryz.prog w = .ok () w := by kernel_rfl
theorem eqIn_ged (a b : Ed) (w : World) : (Op.equalIn 10000 129 (keyE a) (keyE b)).run Tryz.prog w = .ok (decide (a = b)) w := by
  have u3 := Tryz.underlying3
  have a3 := Tryz.isAgg3
  have z3 := Tryz.sizeOf3
  have hS : Tryz.prog.underlying 129 = some (.struct (Tryz.prog.fieldsOf 129)) := by kernel_rfl
  have hp : Tryz.prog.stoodInHeld 129 = false := by kernel_rfl
  have he : (a.1 == b.1 && a.2 == b.2) = decide (a = b) := by
    obtain ⟨a1, a2⟩ := a
    obtain ⟨b1, b2⟩ := b
    by_cases h1 : a1 = b1 <;> by_cases h2 : a2 = b2 <;> simp [h1, h2]
  rw [← he]
  simp only [keyE, edV]
  rw [show (10000 : Nat) = 9999 + 1 from rfl, run_equalIn_agg w 9999 129 _ _ hS hp]
  simp only [Program.fieldsOf, Tryz.underlying129]
  go_simp
  by_cases h1 : a.fst = b.fst <;> by_cases h2 : a.snd = b.snd <;> simp [h1, h2, Prod.ext_iff]
theorem findAsking_ed {ν : Type} {ve : ν → Value} {w : World} (k : Ed) : ∀ (es : List MapEntry) (l : List (Ed × ν)) (i : Nat), es.map (fun e => (e.key, e.val)) = l.map (fun p => (keyE p.1, ve p.2)) →
    (Instr.findAsking 129 (keyE k) es i).run Tryz.prog w = .ok ((aFind l k i).map fun p => (p.1, ve p.2)) w
  | [], [], i, h => rfl
  | [], p :: l, i, h => by simp at h
  | e :: es, [], i, h => by simp at h
  | e :: es, p :: l, i, h => by
    simp only [List.map_cons, List.cons.injEq, Prod.mk.injEq] at h
    obtain ⟨⟨h1, h2⟩, h3⟩ := h
    unfold Instr.findAsking aFind
    have heq : (Op.equal 129 (keyE k) e.key).run Tryz.prog w = .ok (decide (k = p.1)) w := by rw [h1]; exact eqIn_ged k p.1 w
    rw [Sem.run_bind, heq]
    simp only [Result.andThen_ok]
    by_cases he : k = p.1
    · rw [if_pos he, if_pos (decide_eq_true he), h2]; rfl
    · rw [if_neg he, if_neg (by simpa using he)]
      exact findAsking_ed k es l (i + 1) h3
theorem keyE_ok : KeyOk Tryz.prog 129 keyE := by
  refine ⟨fun w e a => check_ed e a w, fun ve w k es l h => ?_, fun a => ?_⟩
  · obtain ⟨fs, hS⟩ := uEdge
    unfold Instr.findKey
    rw [Sem.run_bind, run_underlying' hS]
    simp only [Result.andThen_ok]
    match es, l, h with
    | [], [], h => rfl
    | [], p :: l, h => simp at h
    | e :: es, [], h => simp at h
    | e :: es, p :: l, h =>
      unfold Instr.findNow
      have : Instr.sameNow (.struct fs) (keyE k) e.key = none := rfl
      rw [this]
      exact findAsking_ed k _ _ 0 h
  · simp [keyE, edV, Instr.sameBits]
/-- a row of numbers that may begin behind the first cell of its one block -/
def RowQ (v : Value) (l : List Int) (q : Nat × Obj) : Prop :=
  ∃ off cap cs, v = .slice (some ⟨q.1, off, none⟩) l.length cap ∧ q.2 = .cells cs 3 (0, 0) ∧ l.length ≤ cap ∧ off + cap ≤ cs.size ∧ ∀ i (h : i < l.length), cs[off + i]? = some (.int .i64 l[i])
section
variable {W w w' : World} {ks : List Nat} {F : List (Nat × Obj)} {K : Value → World → Prop} {q : Nat × Obj} {l : List Int} {v : Value}
theorem RowQ.at_ (h : RowQ v l q) (hq : w.heap[q.1]? = some q.2) {i : Nat} (hi : i < l.length) : ∃ off cap, v = .slice (some ⟨q.1, off, none⟩) l.length cap ∧ w.cell? ⟨q.1, off + i, none⟩ = some (.int .i64 l[i]) := by
  obtain ⟨off, cap, cs, rfl, h2, -, -, h6⟩ := h
  rw [h2] at hq
  exact ⟨off, cap, rfl, (cell_at hq).trans (h6 i hi)⟩
/-- the row without its first number -/
theorem RowQ.tail {x : Int} {l : List Int} (h : RowQ v (x :: l) q) : ∃ v', RowQ v' l q ∧ ∀ w : World, (sSlice 44 v (some (.int .i64 1)) none none).run Tryz.prog w = .ok (.value v') w := by
  obtain ⟨off, cap, cs, rfl, h2, h3, h5, h6⟩ := h
  rw [List.length_cons] at h3
  refine ⟨.slice (some ⟨q.1, if cap = 1 then off else off + 1, none⟩) l.length (cap - 1), ⟨_, _, cs, rfl, h2, by omega, by split <;> omega, fun i hi => ?_⟩, fun w => ?_⟩
  · have h7 := h6 (i + 1) (by simp; omega)
    rw [if_neg (by omega)]
    rw [show off + 1 + i = off + (i + 1) by omega, h7]
    rfl
  · rw [run_sliceFrom u44 sz3 (by omega) (by rw [List.length_cons]; omega) (by rw [List.length_cons]; exact h3), List.length_cons]
    have e1 : (1 : Int).toNat = 1 := rfl
    rw [e1, Nat.add_sub_cancel]
    by_cases hc : cap = 1
    · rw [if_pos hc, if_pos hc]
    · rw [if_neg hc, if_neg hc]; rfl
/-- one number more -/
theorem st_push (hr : RowQ v l q) (hl : l.length ≤ 1000000000) (hU : Upd W w ks) (hO : Owns w (q :: F)) (hq : q.1 ∈ ks ∨ W.heap.size ≤ q.1) (x : Int)
    (hk : ∀ v' q' w', RowQ v' (l ++ [x]) q' → Owns w' (q' :: F) → Upd W w' ks → (q'.1 ∈ ks ∨ W.heap.size ≤ q'.1) → K v' w') :
    (std Tryz.prog).step (sBuildSlice 44 1 [(0, .int .i64 x)]) w fun u w => (std Tryz.prog).step (sBuiltin .append #[44, 44] 44 [false, false] [v, u]) w K := by
  refine st_newRow (fun w => row_int x w) hU hO ?_
  intro gr w1 hU1 hO1 hgr
  obtain ⟨inf, e1, e2, e3, e4⟩ := info_int
  obtain ⟨off, cap, cs, rfl, h2, h3, h5, h6⟩ := hr
  obtain ⟨b, ob⟩ := q
  simp only at h2 hq
  subst h2
  have hb1 := hO1.at_ 1 rfl
  have hnew : ∀ j u, [Value.int .i64 x][j]? = some u → w1.cell? ((⟨gr, 0, none⟩ : Addr).add j) = some u := cells_read (cs := #[.int .i64 x]) (hO1.at_ 0 rfl)
  by_cases hroom : l.length + 1 ≤ cap
  · have ha : off + l.length < cs.size := by omega
    have hrun := run_append_room_cells (P := Tryz.prog) w1 44 44 3 inf u44 e1 b off l.length cap ⟨gr, 0, none⟩ 1 1 [.int .i64 x] (by rw [e3]; rfl) hnew (by simp [Value.oneCell']) hroom
      (fun j hj => by
        have : j = 0 := by simpa using hj
        subst this
        rw [e3, Nat.mul_one, Nat.add_zero, cell_at hb1, Array.getElem?_eq_getElem ha]; rfl)
      (fun j hj => frozen_at hb1 (.inr (Nat.zero_le _)))
    rw [e3, Nat.mul_one] at hrun
    have hstep : (sBuiltin .append #[44, 44] 44 [false, false] [.slice (some ⟨b, off, none⟩) l.length cap, .slice (some ⟨gr, 0, none⟩) 1 1]).run Tryz.prog w1 = .ok (.value (.slice (some ⟨b, off, none⟩) (l.length + 1) cap)) (w1.setCells b (off + l.length) [.int .i64 x]) := by
      show (do pure (.value (← Builtin.append_ #[44, 44] 44 #[.slice (some ⟨b, off, none⟩) l.length cap, .slice (some ⟨gr, 0, none⟩) 1 1])) : Sem Next).run Tryz.prog w1 = _
      rw [Sem.run_bind, hrun]; rfl
    rw [step_run hstep]
    have hset : w1.setCells b (off + l.length) [.int .i64 x] = w1.setCell ⟨b, off + l.length, none⟩ (.int .i64 x) := rfl
    rw [hset]
    have hO2 := hO1.setCell (off := off + l.length) 1 rfl (.int .i64 x)
    refine hk _ (b, .cells (cs.setIfInBounds (off + l.length) (.int .i64 x)) 3 (0, 0)) _ ⟨off, cap, _, by rw [List.length_append, List.length_singleton], rfl, by rw [List.length_append, List.length_singleton]; omega, by simpa using h5, fun i hi => ?_⟩ (hO2.sub (List.sublist_cons_self ..)) (hU1.then_ (Upd.setCell _ _ _) fun y hy => by simp at hy; subst hy; exact hq) hq
    rw [List.length_append, List.length_singleton] at hi
    rw [Array.getElem?_setIfInBounds]
    by_cases he : i = l.length
    · subst he; rw [if_pos rfl, if_pos ha]; simp
    · rw [if_neg (by omega), List.getElem_append_left (by omega)]
      exact h6 i (by omega)
  · have hcap : cap = l.length := by omega
    have holds : ∀ j u, (intsV .i64 l)[j]? = some u → w1.cell? ((⟨b, off, none⟩ : Addr).add j) = some u := fun j u hu => by
      unfold intsV at hu
      rw [List.getElem?_map] at hu
      cases hj : l[j]? with
      | none => rw [hj] at hu; cases hu
      | some y =>
        rw [hj] at hu
        obtain ⟨hjl, rfl⟩ := List.getElem?_eq_some_iff.1 hj
        rw [add_mk, cell_at hb1, h6 j hjl]; exact hu
    have hrun := run_append_grow (P := Tryz.prog) w1 44 44 3 inf (.int .i64 0) u44 e1 e2 ⟨b, off, none⟩ l.length cap (intsV .i64 l) (by rw [e3]; unfold intsV; simp) holds ⟨gr, 0, none⟩ 1 1 [.int .i64 x] (by rw [e3]; rfl) hnew (by omega) (by omega) (growslice_fits (by omega) (by rw [e4]; omega))
    have hge := grownCap_ge w1 (l.length + 1) cap 3
    generalize grownCap w1 (l.length + 1) cap 3 = gc at hrun hge
    have hstep : (sBuiltin .append #[44, 44] 44 [false, false] [.slice (some ⟨b, off, none⟩) l.length cap, .slice (some ⟨gr, 0, none⟩) 1 1]).run Tryz.prog w1 = .ok (.value (.slice (some ⟨w1.heap.size, 0, none⟩) (l.length + 1) gc)) (w1.drew.alloc (.cells ((intsV .i64 l).toArray ++ #[Value.int .i64 x] ++ Builtin.zeroCells (Value.int .i64 0).cells (gc - (l.length + 1))) 3)) := by
      show (do pure (.value (← Builtin.append_ #[44, 44] 44 #[.slice (some ⟨b, off, none⟩) l.length cap, .slice (some ⟨gr, 0, none⟩) 1 1])) : Sem Next).run Tryz.prog w1 = _
      rw [Sem.run_bind, hrun]; rfl
    rw [step_run hstep]
    have hz : (Builtin.zeroCells (Value.int .i64 0).cells (gc - (l.length + 1))).size = gc - (l.length + 1) := by rw [size_zeroCells]; show (gc - (l.length + 1)) * 1 = _; omega
    have hO2 := (hO1.ext (Upd.drew w1 [])).alloc (.cells ((intsV .i64 l).toArray ++ #[Value.int .i64 x] ++ Builtin.zeroCells (Value.int .i64 0).cells (gc - (l.length + 1))) 3)
    have hls : (intsV .i64 l).length = l.length := by unfold intsV; simp
    refine hk _ (w1.heap.size, .cells ((intsV .i64 l).toArray ++ #[Value.int .i64 x] ++ Builtin.zeroCells (Value.int .i64 0).cells (gc - (l.length + 1))) 3 (0, 0)) _ ⟨0, gc, _, by rw [List.length_append, List.length_singleton], rfl, by rw [List.length_append, List.length_singleton]; omega, ?_, fun i hi => ?_⟩ (hO2.sub (List.Sublist.cons_cons _ (.cons _ (.cons _ (List.Sublist.refl _))))) (hU1.trans ((Upd.drew w1 _).trans (Upd.alloc _ _ _))) (.inr hU1.size)
    · simp only [Array.size_append, List.size_toArray, hz, hls]
      show 0 + gc ≤ l.length + 1 + (gc - (l.length + 1)); omega
    · rw [List.length_append, List.length_singleton] at hi
      rw [Nat.zero_add, Array.getElem?_append_left (by simp [hls]; omega)]
      have : (intsV .i64 l).toArray ++ #[Value.int .i64 x] = (intsV .i64 (l ++ [x])).toArray := by simp [intsV]
      rw [this]
      unfold intsV
      simp only [List.getElem?_toArray, List.getElem?_map]
      rw [List.getElem?_eq_getElem (by simpa using hi)]; rfl
end
end Go.Proofs.YtakifgecgmdjcaaGreat

/- Graphs: what a thing leads to. -/
namespace Go.Proofs.YtakifgecgmdjcaaGreat
open Go Xf Go.RowKit
set_option linter.unusedVariables false
set_option linter.unusedSimpArgs false
set_option maxRecDepth 100000

abbrev eK (E : List (Ed × Unit)) : List Ed := E.map (·.1)
/-- b is reached from a -/
inductive Path (E : List Ed) : Int → Int → Prop
  | one {a b : Int} : (a, b) ∈ E → Path E a b
  | more {a b c : Int} : Path E a b → (b, c) ∈ E → Path E a c
theorem countP_lt {α : Type} {p q : α → Bool} : ∀ {l : List α}, (∀ x ∈ l, q x = true → p x = true) → ∀ {x : α}, x ∈ l → p x = true → q x = false → l.countP q + 1 ≤ l.countP p
  | [], _, x, hx, _, _ => by cases hx
  | y :: l, h, x, hx, h1, h2 => by
    have hle : l.countP q ≤ l.countP p := List.countP_mono_left fun z hz => h z (List.mem_cons_of_mem _ hz)
    rw [List.countP_cons, List.countP_cons]
    rcases List.mem_cons.1 hx with rfl | hx
    · rw [h1, h2]; simp; omega
    · have := countP_lt (fun z hz => h z (List.mem_cons_of_mem _ hz)) hx h1 h2
      have hy := h y (List.mem_cons_self ..)
      cases hq : q y <;> cases hp : p y <;> simp_all <;> omega
/-- edges whose end was not seen -/
def uns (E : List (Ed × Unit)) (la : List (Int × Unit)) : Nat := E.countP fun p => !(aGet la p.1.2).isSome
theorem uns_set {E : List (Ed × Unit)} {la : List (Int × Unit)} {e : Ed × Unit} (he : e ∈ E) (h : (aGet la e.1.2).isSome = false) : uns E (aSet la e.1.2 ()) + 1 ≤ uns E la := by
  unfold uns
  refine countP_lt (x := e) (fun x hx hq => ?_) he (by rw [h]; rfl) (by rw [aGet_aSet, if_pos rfl]; rfl)
  rw [aGet_aSet] at hq
  split at hq
  · cases hq
  · exact hq
def grO (bm : Nat) : Obj := .cells #[.map (some bm)] 127 (0, 0)
def ReachPost (W : World) (ks : List Nat) (F : List (Nat × Obj)) (E : List Ed) (n : Nat) (a : Int) (u : Value) (w' : World) : Prop :=
  ∃ b o la, u = .map (some b) ∧ MapO keyI uV la o ∧ Keys1 la ∧ (∀ y, y ∈ keysOf la ↔ Path E a y) ∧ la.length ≤ n ∧ Upd W w' ks ∧ Owns w' ((b, o) :: F) ∧ W.heap.size ≤ b
section
variable {W w w' : World} {ks : List Nat} {F : List (Nat × Obj)} {K : Value → World → Prop}
theorem reached_spec {E : List (Ed × Unit)} {bg bm : Nat} {om : Obj} (hm : MapO keyE uV E om) (hE : E.length ≤ 900000000) (hU : Upd W w ks) (hO : Owns w F) (hg : (bg, grO bm) ∈ F) (hbm : (bm, om) ∈ F) (a : Int) :
    CallsR Tryz.prog 91 #[.pointer (some ⟨bg, 0, none⟩), .int .i64 a] w fun u w' => ReachPost W ks F (eK E) E.length a u w' := by
  apply graph_Graph_int_reached_sound
  unfold graph_Graph_int_reached_x
  refine st_makeMap hU hO ?_
  intro ba w1 hU1 hO1 hba
  simp (disch := first | assumption | omega) only [PX, BX]
  refine st_newRow (fun w => row_int a w) hU1 hO1 ?_
  intro gq w2 hU2 hO2 hgq
  have huns : uns E [] ≤ E.length := List.countP_le_length
  let I : Nat → List Value → World → Prop := fun k vs w' => ∃ wt q la oa, wt.length + uns E la = k ∧ k ≤ E.length + 1 ∧ RowQ (vs.getD 2 undef) wt q ∧ MapO keyI uV la oa ∧ Keys1 la ∧ Owns w' (q :: (ba, oa) :: F) ∧ Upd W w' ks ∧ (q.1 ∈ ks ∨ W.heap.size ≤ q.1) ∧ la.length + uns E la ≤ E.length ∧ (∀ y ∈ keysOf la, Path (eK E) a y) ∧ (∀ y ∈ wt, y = a ∨ y ∈ keysOf la) ∧ (∀ x, (x = a ∨ x ∈ keysOf la) → x ∉ wt → ∀ y, (x, y) ∈ eK E → y ∈ keysOf la)
  refine st_loop (fun vs w' => ∃ k, I k vs w') (minK I) ⟨_, [a], (gq, .cells #[.int .i64 a] 3 (0, 0)), [], _, rfl, ?_, ⟨0, 1, _, rfl, rfl, Nat.le_refl _, Nat.le_refl _, fun i hi => ?_⟩, MapO.nil _ _, List.nodup_nil, hO2, hU2, .inr hgq, by simpa using huns, fun y hy => (by cases hy), fun y hy => .inl (by simpa using hy), ?_⟩ ?_
  · show 1 + uns E [] ≤ _; omega
  · have : i = 0 := by simpa using hi
    subst this; rfl
  · rintro x (rfl | hx) hn
    · exact absurd (List.mem_singleton.2 rfl) hn
    · cases hx
  rintro dv vs w3 - hex
  obtain ⟨⟨wt, q, la, oa, hk, hkE, hq, hmA, hk1, hO3, hU3, hqW, hla, hs1, hs2, hcl⟩, -⟩ := minK_spec hex
  generalize minK I vs w3 = k at hk hkE
  clear hex
  obtain ⟨off, cap, cs, ev, -⟩ := id hq
  cases wt with
  | nil =>
    rw [ev]
    simp (disch := first | assumption | omega) only [PX, BX, List.length_nil]
    refine ⟨fun h => absurd h (by decide), fun _ => ?_⟩
    unfold graph_Graph_int_reached_k1
    refine ⟨ba, oa, la, rfl, hmA, hk1, fun y => ⟨hs1 y, fun hp => ?_⟩, by omega, hU3, hO3.sub (List.sublist_cons_self ..), hba⟩
    induction hp with
    | one h => exact hcl _ (.inl rfl) (by simp) _ h
    | more _ h ih => exact hcl _ (.inr ih) (by simp) _ h
  | cons x wt =>
    have h63 : (x :: wt).length ≤ 9223372036854775807 := by omega
    obtain ⟨off', cap', ev', hc0⟩ := hq.at_ (hO3.at_ 0 rfl) (i := 0) (by simp)
    obtain ⟨v2, hq2, hsl⟩ := hq.tail
    rw [ev']
    have hlen1 : (0 : Int) < ((x :: wt).length : Nat) := by simp
    simp (disch := first | assumption | omega) only [PX, BX]
    refine ⟨fun _ => ?_, fun h => absurd hlen1 h⟩
    simp only [Nat.add_zero, List.getElem_cons_zero] at hc0
    have h0n : 0 < (x :: wt).length := by simp
    rw [show (Value.int .i64 0) = .int .i64 ((0 : Nat) : Int) from rfl, px_ix44 h0n]
    simp (disch := first | assumption | omega) only [PX, LX, add_mk, Nat.mul_one, Nat.add_zero]
    rw [← ev', step_run (hsl w3)]
    have cg : w3.cell? ⟨bg, 0, none⟩ = some (.map (some bm)) := (cell_at (hO3.2 (bg, grO bm) (by simp [hg]))).trans rfl
    simp (disch := first | assumption | omega) only [PX, LX, add_mk, Nat.reduceAdd]
    have hin : (bm, om) ∈ q :: (ba, oa) :: F := by simp [hbm]
    obtain ⟨jm, hjm⟩ := List.getElem?_of_mem hin
    refine st_range uGraphMap hU3 hO3 jm hjm hm ?_
    intro r w4 ob hI hU4 hO4 hr
    have hO4 : Owns w4 (q :: (r, ob) :: (ba, oa) :: F) := hO4.perm (List.Perm.swap ..)
    let J : Nat → List Value → World → Prop := fun k2 vs w' => ∃ left ob wt q la oa, left.length = k2 ∧ IterH keyE uV bm om left ob ∧ wt.length + uns E la + 1 ≤ k ∧ RowQ (vs.getD 1 undef) wt q ∧ MapO keyI uV la oa ∧ Keys1 la ∧ Owns w' (q :: (r, ob) :: (ba, oa) :: F) ∧ Upd W w' ks ∧ (q.1 ∈ ks ∨ W.heap.size ≤ q.1) ∧ la.length + uns E la ≤ E.length ∧ (∀ y ∈ keysOf la, Path (eK E) a y) ∧ (∀ y ∈ wt, y = a ∨ y ∈ keysOf la) ∧ (x = a ∨ x ∈ keysOf la) ∧ (∀ p ∈ left, p ∈ E) ∧ (∀ z, (z = a ∨ z ∈ keysOf la) → z ∉ wt → z ≠ x → ∀ y, (z, y) ∈ eK E → y ∈ keysOf la) ∧ (∀ y, (x, y) ∈ eK E → y ∈ keysOf la ∨ (x, y) ∈ eK left)
    refine st_loop (fun vs w' => ∃ k, J k vs w') (minK J) ⟨_, E, ob, wt, q, la, oa, rfl, hI, ?_, hq2, hmA, hk1, hO4, hU4, hqW, hla, hs1, fun y hy => hs2 y (List.mem_cons_of_mem _ hy), hs2 x (List.mem_cons_self ..), fun p hp => hp, fun z hz hn hx y hy => hcl z hz (fun hm => (List.mem_cons.1 hm).elim hx hn) y hy, fun y hy => .inr hy⟩ ?_
    · rw [List.length_cons] at hk; omega
    rintro dv2 vs2 w5 - hex2
    obtain ⟨⟨left, ob5, wt5, q5, la5, oa5, hk5, hI5, hb5, hr5, hm5, hk15, hO5, hU5, hqW5, hla5, hs15, hs25, hxa5, hE5, hcl5, hx5⟩, -⟩ := minK_spec hex2
    generalize minK J vs2 w5 = k2 at hk5
    clear hex2
    have hin5 : (bm, om) ∈ q5 :: (r, ob5) :: (ba, oa5) :: F := by simp [hbm]
    obtain ⟨jm5, hjm5⟩ := List.getElem?_of_mem hin5
    refine st_next hU5 hO5 1 rfl jm5 hjm5 hI5 (.inr hr) ?_ ?_
    · rintro rfl
      rw [px_ext1]
      simp only [BX]
      refine minK_go (I := I) (k' := wt5.length + uns E la5) ⟨wt5, q5, la5, oa5, rfl, by omega, hr5, hm5, hk15, hO5.sub (List.Sublist.cons_cons _ (List.sublist_cons_self ..)), hU5, hqW5, hla5, hs15, hs25, fun z hz hn y hy => ?_⟩ (by omega)
      by_cases hzx : z = x
      · subst hzx
        rcases hx5 y hy with h | h
        · exact h
        · cases h
      · exact hcl5 z hz hn hzx y hy
    · intro e left' w6 ob6 hperm hI6 hent hU6 hO6
      have hO6 : Owns w6 (q5 :: (r, ob6) :: (ba, oa5) :: F) := hO6
      have hlen := hperm.length_eq
      simp only [List.length_cons] at hlen
      have heE : e ∈ E := hE5 e (hperm.mem_iff.1 (List.mem_cons_self ..))
      have hE6 : ∀ p ∈ left', p ∈ E := fun p hp => hE5 p (hperm.mem_iff.1 (List.mem_cons_of_mem _ hp))
      have hx6 : ∀ y, (x, y) ∈ eK E → y ∈ keysOf la5 ∨ (x, y) = e.1 ∨ (x, y) ∈ eK left' := fun y hy => by
        rcases hx5 y hy with h | h
        · exact .inl h
        · obtain ⟨p, hp, hpe⟩ := List.mem_map.1 h
          rcases List.mem_cons.1 (hperm.mem_iff.2 hp) with h2 | h2
          · exact .inr (.inl (by rw [← hpe, h2]))
          · exact .inr (.inr (by rw [← hpe]; exact List.mem_map_of_mem (f := (·.1)) h2))
      simp only [PX, BX]
      rw [step_run (hent w6 (hO6.at_ 1 rfl) (hO6.2 (bm, om) (by simp [hbm])))]
      simp only [PX, BX]
      refine st_alloc ze129 hU6 hO6 ?_
      intro b8 w7 hU7 hO7 hb8
      refine st_storeN (vs := edV e.1) (by rw [sz129]; rfl) hU7 hO7 0 rfl (by show 0 + 2 ≤ 2; decide) (fun u hu => by simp [edV] at hu; rcases hu with rfl | rfl <;> rfl) (.inr hb8) ?_
      intro w8 hU8 hO8
      have hO8 : Owns w8 ((b8, .cells (edV e.1).toArray 129 (0, 0)) :: q5 :: (r, ob6) :: (ba, oa5) :: F) := hO8
      have c0 : w8.cell? ⟨b8, 0, none⟩ = some (.int .i64 e.1.1) := (cell_at (hO8.at_ 0 rfl)).trans rfl
      have c1 : w8.cell? ⟨b8, 1, none⟩ = some (.int .i64 e.1.2) := (cell_at (hO8.at_ 0 rfl)).trans rfl
      simp (disch := first | assumption | omega) only [PX, BX, LX, add_mk, Nat.reduceAdd]
      refine ⟨fun hfx => ?_, fun hfx => ?_⟩
      rotate_left
      · -- another's edge
        refine minK_go (I := J) (k' := left'.length) ⟨left', ob6, wt5, q5, la5, oa5, rfl, hI6, hb5, hr5, hm5, hk15, hO8.sub (List.sublist_cons_self ..), hU8, hqW5, hla5, hs15, hs25, hxa5, hE6, hcl5, fun y hy => ?_⟩ (by omega)
        rcases hx6 y hy with h | h | h
        · exact .inl h
        · exact absurd (by rw [← h]) hfx
        · exact .inr h
      rw [step_run (run_lookup (ve := uV) uAll keyI_ok ze4 (hO8.at_ 3 rfl) hm5 e.1.2 false), if_neg (by decide)]
      have hval : ((aGet la5 e.1.2).map uV).getD (.bool false) = .bool (aGet la5 e.1.2).isSome := by cases aGet la5 e.1.2 <;> rfl
      rw [hval]
      simp (disch := first | assumption | omega) only [PX]
      rw [bool_var]
      refine ⟨fun hno => ?_, fun his => ?_⟩
      rotate_left
      · have his : (aGet la5 e.1.2).isSome = true := by simpa using his
        refine minK_go (I := J) (k' := left'.length) ⟨left', ob6, wt5, q5, la5, oa5, rfl, hI6, hb5, hr5, hm5, hk15, hO8.sub (List.sublist_cons_self ..), hU8, hqW5, hla5, hs15, hs25, hxa5, hE6, hcl5, fun y hy => ?_⟩ (by omega)
        rcases hx6 y hy with h | h | h
        · exact .inl h
        · refine .inl ?_
          have : y = e.1.2 := by rw [← h]
          rw [this]; exact aGet_keys.1 his
        · exact .inr h
      have hno : (aGet la5 e.1.2).isSome = false := by simpa using hno
      simp (disch := first | assumption | omega) only [PX, LX, add_mk, Nat.reduceAdd]
      refine st_mapUpdate (ve := uV) uAll keyI_ok hU8 hO8 3 rfl hm5 (.inr hba) e.1.2 () ?_
      intro w9 oa9 hm9 hU9 hO9
      have hO9 : Owns w9 ((b8, .cells (edV e.1).toArray 129 (0, 0)) :: q5 :: (r, ob6) :: (ba, oa9) :: F) := hO9
      have d1 : w9.cell? ⟨b8, 1, none⟩ = some (.int .i64 e.1.2) := (cell_at (hO9.at_ 0 rfl)).trans rfl
      simp (disch := first | assumption | omega) only [PX, LX, add_mk, Nat.reduceAdd]
      refine st_push hr5 (by omega) hU9 (hO9.sub (List.sublist_cons_self ..)) hqW5 e.1.2 ?_
      intro v' q' w10 hr10 hO10 hU10 hq10
      have hu := uns_set heE hno
      have hnew : ∀ z, z ∈ keysOf (aSet la5 e.1.2 ()) ↔ z = e.1.2 ∨ z ∈ keysOf la5 := fun z => aSet_keys
      have hpe : Path (eK E) a e.1.2 := by
        have h1 : (x, e.1.2) ∈ eK E := by rw [← hfx]; exact List.mem_map_of_mem (f := (·.1)) heE
        rcases hxa5 with h | h
        · rw [h] at h1; exact .one h1
        · exact .more (hs15 x h) h1
      refine minK_go (I := J) (k' := left'.length) ⟨left', ob6, wt5 ++ [e.1.2], q', aSet la5 e.1.2 (), oa9, rfl, hI6, ?_, hr10, hm9, hk15.set, hO10, hU10, hq10, ?_, fun y hy => ?_, fun y hy => ?_, ?_, hE6, fun z hz hn hzx y hy => ?_, fun y hy => ?_⟩ (by omega)
      · rw [List.length_append, List.length_singleton]; omega
      · have := aSet_length e.1.2 () la5
        rw [hno] at this
        simp only [Bool.false_eq_true, if_false] at this
        omega
      · rcases (hnew y).1 hy with h | h
        · rw [h]; exact hpe
        · exact hs15 y h
      · rw [hnew]
        rcases List.mem_append.1 hy with h | h
        · exact (hs25 y h).elim .inl fun h => .inr (.inr h)
        · rw [List.mem_singleton] at h; exact .inr (.inl h)
      · rw [hnew]; exact hxa5.elim .inl fun h => .inr (.inr h)
      · rw [hnew]
        rw [List.mem_append, List.mem_singleton] at hn
        rw [hnew] at hz
        refine .inr (hcl5 z ?_ (fun h => hn (.inl h)) hzx y hy)
        rcases hz with h | h | h
        · exact .inl h
        · exact absurd h fun h => hn (.inr h)
        · exact .inr h
      · rw [hnew]
        rcases hx6 y hy with h | h | h
        · exact .inl (.inr h)
        · exact .inl (.inl (by rw [← h]))
        · exact .inr h
end
end Go.Proofs.YtakifgecgmdjcaaGreat

/- Graphs: rings. -/
namespace Go.Proofs.YtakifgecgmdjcaaGreat
open Go Xf Go.RowKit Go.Sort Go.Shelf
set_option linter.unusedVariables false
set_option linter.unusedSimpArgs false
set_option maxRecDepth 100000

section
variable {W w w' : World} {ks : List Nat} {F : List (Nat × Obj)} {K : Value → World → Prop}
/-- slices.Sort of numbers -/
theorem SortN_spec {hl : List (Nat × Obj)} {v : Value} {l : List Int} (hr : RowH 3 1 v l.length (intsV .i64 l) hl) (hl9 : l.length ≤ 1000000000) (hO : Owns w (hl ++ F)) (hU : Upd W w ks) (hh : ∀ p ∈ hl, p.1 ∈ ks ∨ W.heap.size ≤ p.1) :
    CallsR Tryz.prog 66 #[v] w fun u w' => ∃ h' : List (Nat × Obj), RowH 3 1 v (sortI l).length (intsV .i64 (sortI l)) h' ∧ Owns w' (h' ++ F) ∧ Upd W w' ks ∧ ∀ p ∈ h', p.1 ∈ ks ∨ W.heap.size ≤ p.1 := by
  have hsl : (sortI l).length = l.length := (sortI_perm l).length_eq
  rcases hr.2 with ⟨rfl, h0, rfl⟩ | ⟨gt, cap, cs0, rfl, rfl, hcap, hmax, hsz0, htk0⟩
  · have hl0 : l = [] := List.eq_nil_of_length_eq_zero h0
    subst hl0
    have hcon := AnyM.slices_Sort_int_none Tryz.sortB none 0 w
    change Calls Tryz.prog 66 _ _ _ at hcon
    refine Calls.mono hcon ?_
    rintro e w' ⟨rfl, rfl⟩
    have e0 : sortI [] = [] := by simp [sortI]
    rw [e0]
    exact ⟨_, rfl, [], RowH.nil_ _ _, hO, hU, fun p hp => (by cases hp)⟩
  have hb := hO.at_ 0 (rfl : ([(gt, Obj.cells cs0 3 (0, 0))] ++ F)[0]? = _)
  rw [Nat.mul_one] at hsz0 htk0
  have hget : ∀ j (h : j < l.length), cs0[j]? = some (.int .i64 l[j]) := fun j h => by
    have h1 : (intsV .i64 l)[j]? = some (.int .i64 l[j]) := by unfold intsV; simp [h]
    rw [← htk0, List.getElem?_take, if_pos h] at h1
    simpa using h1
  have hH : Holds (Value.int .i64) w gt 0 l.toArray := by
    intro j hj
    have hj' : j < l.length := by simpa using hj
    refine ⟨?_, frozen_at hb (.inr (Nat.zero_le _))⟩
    rw [cell_at hb, Nat.zero_add, hget j hj', getElem!_pos _ j hj]
    simp
  have hcon := AnyM.slices_Sort_int Tryz.sortB gt 0 cap l w hH (lt_of_some hb) (by omega)
  change Calls Tryz.prog 66 _ _ _ at hcon
  refine Calls.mono hcon ?_
  rintro e w' ⟨rfl, n, os, rfl⟩
  have hgW := hh _ (List.mem_cons_self ..)
  have hS : (l.mergeSort fun x y => decide (x ≤ y)) = sortI l := rfl
  rw [hS]
  have hheap : (grow (putRow (Value.int .i64) (Sort.ahead w n) gt 0 (sortI l).toArray) os).heap[gt]? = some (.cells (putCells (Value.int .i64) 0 (sortI l).toArray cs0) 3 (0, 0)) := by
    have hlt := lt_of_some hb
    unfold grow putRow mapBlock
    show (Array.modify w.heap gt _ ++ os)[gt]? = _
    rw [Array.getElem?_append_left (by simpa using hlt), Array.getElem?_modify, if_pos rfl, hb]
    rfl
  have hother : ∀ k, k < w.heap.size → k ≠ gt → (grow (putRow (Value.int .i64) (Sort.ahead w n) gt 0 (sortI l).toArray) os).heap[k]? = w.heap[k]? := fun k hk hne => by
    unfold grow putRow mapBlock
    show (Array.modify w.heap gt _ ++ os)[k]? = _
    rw [Array.getElem?_append_left (by simpa using hk), Array.getElem?_modify, if_neg (Ne.symm hne)]
  have hUs : Upd w (grow (putRow (Value.int .i64) (Sort.ahead w n) gt 0 (sortI l).toArray) os) [gt] := ⟨rfl, rfl, rfl, by unfold grow putRow mapBlock; simp [Sort.ahead], fun k hk hn => hother k hk (by simpa using hn)⟩
  have hF : Owns w F := hO.sub (List.sublist_append_right _ _)
  have hnd : ∀ p ∈ F, p.1 ≠ gt := fun p hp he => by
    have := hO.1
    rw [List.map_append, List.nodup_append] at this
    exact this.2.2 gt (by simp) p.1 (List.mem_map_of_mem hp) he.symm
  have hcsz : (putCells (Value.int .i64) 0 (sortI l).toArray cs0).size = cap := by unfold putCells; simp [hsz0]
  refine ⟨_, rfl, [(gt, .cells (putCells (Value.int .i64) 0 (sortI l).toArray cs0) 3 (0, 0))], ⟨by unfold intsV; simp, .inr ⟨gt, cap, _, by rw [hsl], rfl, by omega, hmax, by rw [Nat.mul_one]; exact hcsz, ?_⟩⟩, ⟨?_, ?_⟩, hU.then_ hUs (fun x hx => by simp at hx; subst hx; exact hgW), fun p hp => ?_⟩
  · apply List.ext_getElem?
    intro t
    unfold intsV
    rw [Nat.mul_one, List.getElem?_map]
    by_cases ht : t < (sortI l).length
    · rw [List.getElem?_take, if_pos ht, List.getElem?_eq_getElem ht]
      have h1 : t < cs0.size := by rw [hsz0]; omega
      have hs2 : t < (sortI l).toArray.size := by simpa using ht
      rw [Array.getElem?_toList]
      unfold putCells
      rw [Array.getElem?_mapIdx, Array.getElem?_eq_getElem h1, Option.map_some, if_pos ⟨Nat.zero_le _, by omega⟩, Nat.sub_zero, getElem!_pos _ t hs2]
      simp
    · rw [List.getElem?_eq_none (by rw [List.length_take]; omega), List.getElem?_eq_none (by omega)]; rfl
  · rw [List.map_append, List.nodup_append]
    exact ⟨by simp, hF.1, fun a ha b hb he => by
      obtain ⟨p, hp, rfl⟩ := List.mem_map.1 hb
      simp at ha
      exact hnd p hp (by rw [← he, ha])⟩
  · intro p hp
    rcases List.mem_append.1 hp with hp | hp
    · rw [List.mem_singleton] at hp; subst hp; exact hheap
    · rw [hother p.1 (hF.lt hp) (hnd p hp)]; exact hF.2 p hp
  · rw [List.mem_singleton] at hp; subst hp; exact hgW
/-- one number onto a row -/
theorem st_pushH {v : Value} {l : List Int} {hr : List (Nat × Obj)} (hrow : RowH 3 1 v l.length (intsV .i64 l) hr) (hO : Owns w (hr ++ F)) (hU : Upd W w ks) (hm : ∀ p ∈ hr, p.1 ∈ ks ∨ W.heap.size ≤ p.1) (hl : l.length ≤ 1000000000) (x : Int)
    (hk : ∀ v' hr' w', RowH 3 1 v' (l ++ [x]).length (intsV .i64 (l ++ [x])) hr' → Owns w' (hr' ++ F) → Upd W w' ks → (∀ p ∈ hr', p.1 ∈ ks ∨ W.heap.size ≤ p.1) → K v' w') :
    (std Tryz.prog).step (sBuildSlice 44 1 [(0, .int .i64 x)]) w fun u w => (std Tryz.prog).step (sBuiltin .append #[44, 44] 44 [false, false] [v, u]) w K := by
  refine st_newRow (fun w => row_int x w) hU hO ?_
  intro gr w1 hU1 hO1 hgr
  obtain ⟨inf, e1, e2, e3, e4⟩ := info_int
  have hP : Owns w1 (hr ++ ((gr, .cells #[.int .i64 x] 3 (0, 0)) :: F)) := hO1.perm (by
    classical
    refine List.perm_iff_count.2 fun y => ?_
    simp only [List.count_cons, List.count_append]
    omega)
  have hrd : Rd w1 1 (.slice (some ⟨gr, 0, none⟩) 1 1) 1 (intsV .i64 [x]) := ⟨_, 1, rfl, Nat.le_refl _, rfl, fun j u hu => ⟨_, rfl, cells_read (cs := #[.int .i64 x]) (hO1.at_ 0 rfl) j u hu⟩⟩
  have hmx : (1000000001 : Nat) ≤ maxLen := by decide
  refine st_append u44 e1 e2 e3 e4 rfl (by omega) hrow hP hU1 hm hrd (intsV_one _ _) (by omega) (by omega) ?_
  intro v2 w2 hr2 hrow2 hO2 hU2 hm2
  have hrow2 : RowH 3 1 v2 (l ++ [x]).length (intsV .i64 (l ++ [x])) hr2 := by
    rw [List.length_append, List.length_singleton]
    have : intsV .i64 (l ++ [x]) = intsV .i64 l ++ intsV .i64 [x] := by simp [intsV]
    rw [this]; exact hrow2
  exact hk v2 hr2 w2 hrow2 (hO2.sub (List.Sublist.append_left (List.sublist_cons_self ..) _)) hU2 hm2
theorem Leads_spec {E : List (Ed × Unit)} {bg bm : Nat} {om : Obj} (hm : MapO keyE uV E om) (hE : E.length ≤ 900000000) (hU : Upd W w ks) (hO : Owns w F) (hg : (bg, grO bm) ∈ F) (hbm : (bm, om) ∈ F) (a c : Int) :
    CallsR Tryz.prog 92 #[.pointer (some ⟨bg, 0, none⟩), .int .i64 a, .int .i64 c] w fun u w' => ∃ r : Bool, u = .bool r ∧ (r = true ↔ Path (eK E) a c) ∧ Upd W w' ks ∧ Owns w' F := by
  apply graph_Graph_int_Leads_sound
  unfold graph_Graph_int_Leads_x
  refine st_call (reached_spec hm hE hU hO hg hbm a) ?_
  rintro _ w1 ⟨b, o, la, rfl, hmA, hk1, hkey, hlen, hU1, hO1, hb⟩
  rw [step_run (run_lookup (ve := uV) uAll keyI_ok ze4 (hO1.at_ 0 rfl) hmA c false), if_neg (by decide)]
  have hval : ((aGet la c).map uV).getD (.bool false) = .bool (aGet la c).isSome := by cases aGet la c <;> rfl
  rw [hval]
  exact ⟨_, rfl, by rw [aGet_keys]; exact hkey c, hU1, hO1.sub (List.sublist_cons_self ..)⟩
def RingPost (W : World) (ks : List Nat) (F : List (Nat × Obj)) (E : List Ed) (n : Nat) (a : Int) (u : Value) (w' : World) : Prop :=
  ∃ L hl, RowH 3 1 u L.length (intsV .i64 L) hl ∧ Owns w' (hl ++ F) ∧ Upd W w' ks ∧ (∀ p ∈ hl, p.1 ∈ ks ∨ W.heap.size ≤ p.1) ∧ L.Pairwise (· < ·) ∧ (∀ b, b ∈ L ↔ Path E a b ∧ Path E b a) ∧ L.length ≤ n
theorem Ring_spec {E : List (Ed × Unit)} {bg bm : Nat} {om : Obj} (hm : MapO keyE uV E om) (hE : E.length ≤ 900000000) (hU : Upd W w ks) (hO : Owns w F) (hg : (bg, grO bm) ∈ F) (hbm : (bm, om) ∈ F) (a : Int) :
    CallsR Tryz.prog 68 #[.pointer (some ⟨bg, 0, none⟩), .int .i64 a] w fun u w' => RingPost W ks F (eK E) E.length a u w' := by
  apply graph_Graph_int_Ring_sound
  unfold graph_Graph_int_Ring_x
  refine st_call (reached_spec hm hE hU hO hg hbm a) ?_
  rintro _ w1 ⟨bs, os, ls, rfl, hmS, hk1, hkey, hlen, hU1, hO1, hbs⟩
  refine st_range uAll hU1 hO1 0 rfl hmS ?_
  intro r w2 ob hI hU2 hO2 hr
  let I : Nat → List Value → World → Prop := fun k vs w' => ∃ left ob L hl, left.length = k ∧ IterH keyI uV bs os left ob ∧ RowH 3 1 (vs.getD 1 undef) L.length (intsV .i64 L) hl ∧ Owns w' (hl ++ ((r, ob) :: (bs, os) :: F)) ∧ Upd W w' ks ∧ (∀ p ∈ hl, p.1 ∈ ks ∨ W.heap.size ≤ p.1) ∧ (L ++ keysOf left).Nodup ∧ L.length + left.length ≤ E.length ∧ (∀ b, b ∈ L → Path (eK E) a b ∧ Path (eK E) b a) ∧ (∀ b, Path (eK E) a b → Path (eK E) b a → b ∈ L ∨ b ∈ keysOf left) ∧ (∀ b ∈ keysOf left, Path (eK E) a b)
  refine st_loop (fun vs w' => ∃ k, I k vs w') (minK I) ⟨_, ls, ob, [], [], rfl, hI, RowH.nil_ _ _, hO2, hU2, fun p hp => (by cases hp), hk1, by simpa using hlen, fun b hb => (by cases hb), fun b h1 _ => .inr ((hkey b).2 h1), fun b hb => (hkey b).1 hb⟩ ?_
  rintro dv vs w3 - hex
  obtain ⟨⟨left, ob3, L, hl, hk, hI3, hrow, hO3, hU3, hmn, hnd, hln, hsd, hcp, hlf⟩, -⟩ := minK_spec hex
  generalize minK I vs w3 = k at hk
  clear hex
  have hO3' : Owns w3 ((r, ob3) :: (bs, os) :: (hl ++ F)) := hO3.perm (by
    classical
    refine List.perm_iff_count.2 fun y => ?_
    simp only [List.count_cons, List.count_append]
    omega)
  refine st_next hU3 hO3' 0 rfl 1 rfl hI3 (.inr hr) ?_ ?_
  · rintro rfl
    rw [px_ext1]
    simp only [BX]
    unfold graph_Graph_int_Ring_k1
    refine st_call (SortN_spec hrow (by omega) (hO3.sub (List.Sublist.append_left (.cons _ (.cons _ (List.Sublist.refl _))) _)) hU3 hmn) ?_
    rintro _ w4 ⟨h', hr4, hO4, hU4, hm4⟩
    refine ⟨sortI L, h', hr4, hO4, hU4, hm4, sortI_lt (by simpa using hnd), fun b => ?_, by rw [(sortI_perm L).length_eq]; simpa using hln⟩
    rw [(sortI_perm L).mem_iff]
    exact ⟨hsd b, fun ⟨h1, h2⟩ => (hcp b h1 h2).elim id fun h => (by cases h)⟩
  · intro e left' w4 ob4 hperm hI4 hent hU4 hO4
    have hO4 : Owns w4 ((r, ob4) :: (bs, os) :: (hl ++ F)) := hO4
    have hlen2 := hperm.length_eq
    simp only [List.length_cons] at hlen2
    have hpk : (e.1 :: keysOf left').Perm (keysOf left) := hperm.map (fun p : Int × Unit => p.1)
    simp only [PX, BX]
    rw [step_run (hent w4 (hO4.at_ 0 rfl) (hO4.at_ 1 rfl))]
    simp only [PX, BX]
    refine st_call (Leads_spec hm hE hU4 hO4 (List.mem_cons_of_mem _ (List.mem_cons_of_mem _ (List.mem_append_right _ hg))) (List.mem_cons_of_mem _ (List.mem_cons_of_mem _ (List.mem_append_right _ hbm))) e.1 a) ?_
    rintro _ w5 ⟨rb, rfl, hrb, hU5, hO5⟩
    have hO5' : Owns w5 (hl ++ ((r, ob4) :: (bs, os) :: F)) := hO5.perm (by
      classical
      refine List.perm_iff_count.2 fun y => ?_
      simp only [List.count_cons, List.count_append]
      omega)
    have hnd' : (L ++ e.1 :: keysOf left').Nodup := ((hpk.append_left L).nodup_iff).2 hnd
    rw [bool_var]
    refine ⟨fun hT => ?_, fun hF => ?_⟩
    · refine st_pushH hrow hO5' hU5 hmn (by omega) e.1 ?_
      intro v' hr' w6 hrow6 hO6 hU6 hm6
      refine minK_go (I := I) (k' := left'.length) ⟨left', ob4, L ++ [e.1], hr', rfl, hI4, hrow6, hO6, hU6, hm6, by rw [List.append_assoc]; exact hnd', by rw [List.length_append, List.length_singleton]; omega, fun b hb => ?_, fun b h1 h2 => ?_, fun b hb => hlf b (hpk.mem_iff.1 (List.mem_cons_of_mem _ hb))⟩ (by omega)
      · rcases List.mem_append.1 hb with hb | hb
        · exact hsd b hb
        · rw [List.mem_singleton] at hb
          subst hb
          exact ⟨hlf _ (hpk.mem_iff.1 (List.mem_cons_self ..)), hrb.1 hT⟩
      · rcases hcp b h1 h2 with h | h
        · exact .inl (List.mem_append_left _ h)
        · rcases List.mem_cons.1 (hpk.mem_iff.2 h) with h | h
          · exact .inl (List.mem_append_right _ (by rw [h]; exact List.mem_singleton.2 rfl))
          · exact .inr h
    · refine minK_go (I := I) (k' := left'.length) ⟨left', ob4, L, hl, rfl, hI4, hrow, hO5', hU5, hmn, hnd'.sublist (List.Sublist.append_left (List.sublist_cons_self ..) _), by omega, hsd, fun b h1 h2 => ?_, fun b hb => hlf b (hpk.mem_iff.1 (List.mem_cons_of_mem _ hb))⟩ (by omega)
      rcases hcp b h1 h2 with h | h
      · exact .inl h
      · rcases List.mem_cons.1 (hpk.mem_iff.2 h) with h | h
        · rw [h] at h2; exact absurd (hrb.2 h2) (by rw [hF]; exact Bool.false_ne_true)
        · exact .inr h
end
end Go.Proofs.YtakifgecgmdjcaaGreat

/- Graphs: victims; the victim of a table. -/
namespace Go.Proofs.YtakifgecgmdjcaaGreat
open Go Xf Go.RowKit
set_option linter.unusedVariables false
set_option linter.unusedSimpArgs false
set_option maxRecDepth 100000

theorem Path.mono {E E' : List Ed} (h : ∀ e ∈ E, e ∈ E') {a b : Int} (p : Path E a b) : Path E' a b := by
  induction p with
  | one hm => exact .one (h _ hm)
  | more _ hm ih => exact .more ih (h _ hm)
theorem Path.congr {E E' : List Ed} (h : ∀ e, e ∈ E ↔ e ∈ E') (a b : Int) : Path E a b ↔ Path E' a b := ⟨.mono fun e he => (h e).1 he, .mono fun e he => (h e).2 he⟩
theorem Path.trans {E : List Ed} {a b c : Int} (p : Path E a b) (q : Path E b c) : Path E a c := by
  induction q with
  | one hm => exact .more p hm
  | more _ hm ih => exact .more ih hm
theorem Path.cons_ {E : List Ed} {a b c : Int} (h : (a, b) ∈ E) (q : Path E b c) : Path E a c := (Path.one h).trans q
/-- the ring of a thing -/
def RingL (E : List Ed) (a : Int) (L : List Int) : Prop := L.Pairwise (· < ·) ∧ ∀ b, b ∈ L ↔ Path E a b ∧ Path E b a
def vicV (L : List Int) : Value := .tuple #[.int .i64 (L.getLast?.getD 0), .bool (!L.isEmpty)]
section
variable {W w w' : World} {ks : List Nat} {F : List (Nat × Obj)} {K : Value → World → Prop}
theorem gVictim_spec {E : List (Ed × Unit)} {bg bm : Nat} {om : Obj} (hm : MapO keyE uV E om) (hE : E.length ≤ 900000000) (hU : Upd W w ks) (hO : Owns w F) (hg : (bg, grO bm) ∈ F) (hbm : (bm, om) ∈ F) (a : Int) :
    CallsR Tryz.prog 47 #[.pointer (some ⟨bg, 0, none⟩), .int .i64 a] w fun u w' => ∃ L, u = vicV L ∧ RingL (eK E) a L ∧ Upd W w' ks ∧ Owns w' F := by
  apply graph_Graph_int_Victim_sound
  unfold graph_Graph_int_Victim_x
  refine st_call (Ring_spec hm hE hU hO hg hbm a) ?_
  rintro v w1 ⟨L, hl, hr, hO1, hU1, -, hlt, hmem, hlen⟩
  have hrd := hr.rd hO1
  have hOF := hO1.sub (List.sublist_append_right hl F)
  obtain ⟨A, c, rfl⟩ := RowH.sl' hr
  have hc : L.length ≤ c := by
    obtain ⟨A', c', h1, h2, -⟩ := hrd
    injection h1 with _ _ h3
    omega
  simp (disch := first | assumption | omega) only [PX, BX]
  refine ⟨fun h0 => ⟨[], ?_, ⟨List.Pairwise.nil, fun b => ?_⟩, hU1, hOF⟩, fun h0 => ?_⟩
  · rfl
  · rw [← hmem]
    have : L = [] := List.eq_nil_of_length_eq_zero (by omega)
    rw [this]
  · have hpos : 0 < L.length := by omega
    obtain ⟨A', c', h1, -, -, hx⟩ := hrd
    injection h1 with q1 q2 q3
    subst q1 q3
    obtain ⟨a', rfl, ha⟩ := hx (L.length - 1) (.int .i64 L[L.length - 1]) (by unfold intsV; simp [List.getElem?_eq_getElem (show L.length - 1 < L.length by omega)])
    have e : ((L.length : Nat) : Int) - 1 = ((L.length - 1 : Nat) : Int) := by omega
    have hlt' : L.length - 1 < L.length := by omega
    simp (disch := first | assumption | omega) only [PX, LX, w64, e, Nat.mul_one]
    refine ⟨L, ?_, ⟨hlt, hmem⟩, hU1, hOF⟩
    unfold vicV
    have hne : L ≠ [] := fun h => by rw [h] at hpos; exact absurd hpos (by decide)
    rw [List.getLast?_eq_some_getLast hne, List.getLast_eq_getElem hne]
    have : L.isEmpty = false := by cases L; exact absurd rfl hne; rfl
    rw [this]; rfl
theorem build_grf (b : Nat) (w : World) : (sBuild 127 [(0, .map (some b))]).run Tryz.prog w = .ok (.value (.agg #[.map (some b)])) w := by kernel_rfl
theorem gNew_spec (hU : Upd W w ks) (hO : Owns w F) : CallsR Tryz.prog 45 #[] w fun u w' => ∃ bg bm, u = .pointer (some ⟨bg, 0, none⟩) ∧ Upd W w' ks ∧ Owns w' ((bm, .map #[] 0) :: (bg, grO bm) :: F) ∧ W.heap.size ≤ bm ∧ W.heap.size ≤ bg := by
  apply graph_New_int_sound
  unfold graph_New_int_x
  refine st_makeMap hU hO ?_
  intro bm w1 hU1 hO1 hbm
  rw [step_run (build_grf bm w1)]
  refine st_box hU1 hO1 ?_
  intro bg w2 hU2 hO2 hbg
  exact ⟨bg, bm, rfl, hU2, hO2.perm (List.Perm.swap ..), hbm, hbg⟩
theorem build_ged (x y : Int) (w : World) : (sBuild 129 [(0, .int .i64 x), (1, .int .i64 y)]).run Tryz.prog w = .ok (.value (keyE (x, y))) w := by kernel_rfl
theorem gAdd_spec {E : List (Ed × Unit)} {bg bm : Nat} {om : Obj} (hm : MapO keyE uV E om) (hU : Upd W w ks) (hO : Owns w ((bm, om) :: (bg, grO bm) :: F)) (hb : W.heap.size ≤ bm) (x y : Int) :
    CallsR Tryz.prog 46 #[.pointer (some ⟨bg, 0, none⟩), .int .i64 x, .int .i64 y] w fun u w' => ∃ om', MapO keyE uV (aSet E (x, y) ()) om' ∧ Upd W w' ks ∧ Owns w' ((bm, om') :: (bg, grO bm) :: F) := by
  apply graph_Graph_int_Add_sound
  unfold graph_Graph_int_Add_x
  have c0 : w.cell? ⟨bg, 0, none⟩ = some (.map (some bm)) := (cell_at (hO.at_ 1 rfl)).trans rfl
  simp (disch := first | assumption | omega) only [PX, BX, LX, add_mk, Nat.reduceAdd]
  rw [st_mapLen uGraphMap (hO.at_ 0 rfl) hm]
  simp (disch := first | assumption | omega) only [PX, BX, LX, add_mk, Nat.reduceAdd]
  rw [step_run (build_ged x y w)]
  refine st_mapUpdate (ve := uV) uGraphMap keyE_ok hU hO 0 rfl hm (.inr hb) (x, y) () ?_
  intro w1 om1 hm1 hU1 hO1
  have hO1 : Owns w1 ((bm, om1) :: (bg, grO bm) :: F) := hO1
  have d0 : w1.cell? ⟨bg, 0, none⟩ = some (.map (some bm)) := (cell_at (hO1.at_ 1 rfl)).trans rfl
  simp (disch := first | assumption | omega) only [PX, BX, LX, add_mk, Nat.reduceAdd]
  rw [st_mapLen uGraphMap (hO1.at_ 0 rfl) hm1]
  simp (disch := first | assumption | omega) only [PX, BX, LX, add_mk, Nat.reduceAdd]
  exact ⟨om1, hm1, hU1, hO1⟩
theorem Victim_spec {g : Nat} {T : Tb} {B : Nat} (h : TbAt W ks F T g w) (hfine : Fine T B) (hB5 : B ≤ 500) (x : Int) :
    CallsR Tryz.prog 16 #[.pointer (some ⟨g, 0, none⟩), .int .i64 x] w fun u w' => ∃ E L, (∀ e, e ∈ E ↔ EdgeT T e) ∧ u = vicV L ∧ RingL E x L ∧ TbAt W ks F T g w' := by
  apply lock_Table_Victim_sound
  unfold lock_Table_Victim_x
  obtain ⟨hU, hh, hTb, hO, hmine⟩ := h
  refine st_call (gNew_spec hU hO) ?_
  rintro _ w1 ⟨bg, bm, rfl, hU1, hO1, hbm, hbg⟩
  have hT1 : TbAt W ks ((bm, .map #[] 0) :: (bg, grO bm) :: F) T g w1 := ⟨hU1, hh, hTb, hO1.perm (by
    classical
    refine List.perm_iff_count.2 fun y => ?_
    simp only [List.count_cons, List.count_append]
    omega), hmine⟩
  refine st_call (Edges_spec hT1 hfine hB5) ?_
  rintro v w2 ⟨Es, ⟨hl, hr, ⟨hU2, hh2, hTb2, hO2, hmine2⟩, -⟩, -, hEs, hEl⟩
  have hlen2 : Es.length ≤ 1000000000 := by omega
  obtain ⟨A, c, rfl⟩ := RowH.sl' hr
  simp (disch := first | assumption | omega) only [PX, BX]
  refine st_loop (fun vs w' => ∃ (i : Nat) (E : List (Ed × Unit)) (om : Obj), i ≤ Es.length ∧ vs.getD 1 undef = .int .i64 i ∧ MapO keyE uV E om ∧ Upd W w' ks ∧ Owns w' ((bm, om) :: (bg, grO bm) :: (hl ++ (hh2 ++ F))) ∧ E.length ≤ i ∧ ∀ e, e ∈ eK E ↔ e ∈ Es.take i) (fun vs _ => Es.length - (intOf (vs.getD 1 undef)).toNat) ⟨0, [], _, Nat.zero_le _, rfl, MapO.nil _ _, hU2, hO2.perm ?_, Nat.le_refl _, fun e => by simp⟩ ?_
  · classical
    refine List.perm_iff_count.2 fun y => ?_
    simp only [List.count_cons, List.count_append]
    omega
  rintro dv vs w3 - ⟨i, E, om, hi, e1, hmE, hU3, hO3, hEi, hEm⟩
  simp (disch := first | assumption | omega) only [e1, PX, BX]
  refine ⟨fun hlt => ?_, fun hge => ?_⟩
  rotate_left
  · obtain rfl : i = Es.length := by omega
    rw [List.take_length] at hEm
    unfold lock_Table_Victim_k1
    refine st_call (gVictim_spec (bm := bm) hmE (by omega) hU3 hO3 (by simp) (by simp) x) ?_
    rintro _ w4 ⟨L, rfl, hR, hU4, hO4⟩
    unfold vicV
    simp (disch := first | assumption | omega) only [PX]
    refine ⟨eK E, L, fun e => (hEm e).trans (hEs e), rfl, hR, hU4, hh2, hTb2, hO4.sub (.cons _ (.cons _ (List.sublist_append_right _ _))), hmine2⟩
  have hi' : i < Es.length := by omega
  have hOr : Owns w3 (hl ++ ((bm, om) :: (bg, grO bm) :: (hh2 ++ F))) := hO3.perm (by
    classical
    refine List.perm_iff_count.2 fun y => ?_
    simp only [List.count_cons, List.count_append]
    omega)
  obtain ⟨a, c', he, hc⟩ := ed_at (RowH.ed hr hOr hlen2) hi'
  injection he with q1 q2 q3
  subst q1
  simp (disch := first | assumption | omega) only [PX]
  rw [step_run (run_sLoad (hc w3 (Upd.refl w3 [])))]
  refine st_alloc ze78 hU3 hO3 ?_
  intro b8 w4 hU4 hO4 hb8
  refine st_storeN (vs := edV Es[i]) (by rw [sz78]; rfl) hU4 hO4 0 rfl (by show 0 + 2 ≤ 2; decide) (fun u hu => by simp [edV] at hu; rcases hu with rfl | rfl <;> rfl) (.inr hb8) ?_
  intro w5 hU5 hO5
  have hO5 : Owns w5 ((b8, .cells (edV Es[i]).toArray 78 (0, 0)) :: (bm, om) :: (bg, grO bm) :: (hl ++ (hh2 ++ F))) := hO5
  have c0 : w5.cell? ⟨b8, 0, none⟩ = some (.int .i64 Es[i].1) := (cell_at (hO5.at_ 0 rfl)).trans rfl
  have c1 : w5.cell? ⟨b8, 1, none⟩ = some (.int .i64 Es[i].2) := (cell_at (hO5.at_ 0 rfl)).trans rfl
  simp (disch := first | assumption | omega) only [PX, BX, LX, add_mk, Nat.reduceAdd]
  refine st_call (gAdd_spec hmE hU5 (hO5.sub (List.sublist_cons_self ..)) hbm Es[i].1 Es[i].2) ?_
  rintro _ w6 ⟨om6, hm6, hU6, hO6⟩
  simp (disch := first | assumption | omega) only [e1, PX, w64]
  refine ⟨⟨i + 1, _, om6, by omega, rfl, hm6, hU6, hO6, ?_, fun e => ?_⟩, ?_⟩
  · rw [aSet_length]; split <;> omega
  · rw [List.take_succ_eq_append_getElem hi', List.mem_append, List.mem_singleton, ← hEm e]
    unfold eK
    rw [aSet_keys]
    exact ⟨fun h => h.elim .inr .inl, fun h => h.elim .inr .inl⟩
  · simp only [List.getD_cons_succ, List.getD_cons_zero, intOf]; omega
end
end Go.Proofs.YtakifgecgmdjcaaGreat

/- Locks: are two lists the same? -/
namespace Go.Proofs.YtakifgecgmdjcaaGreat
open Go Xf Go.RowKit
set_option linter.unusedVariables false
set_option linter.unusedSimpArgs false
set_option maxRecDepth 100000

theorem eqIn_he (a b : He) (w : World) : (Op.equalIn 10000 104 (.agg (heV a).toArray) (.agg (heV b).toArray)).run Tryz.prog w = .ok (decide (a = b)) w := by
  have u3 := Tryz.underlying29
  have a3 := Tryz.isAgg29
  have z3 := Tryz.sizeOf29
  have u9 := Tryz.underlying9
  have a9 := Tryz.isAgg9
  have z9 := Tryz.sizeOf9
  have hS : Tryz.prog.underlying 104 = some (.struct (Tryz.prog.fieldsOf 104)) := by kernel_rfl
  have hp : Tryz.prog.stoodInHeld 104 = false := by kernel_rfl
  have he : ((⟨a.1.toArray⟩ : ByteArray) == ⟨b.1.toArray⟩ && a.2 == b.2) = decide (a = b) := by
    rw [bytes_beq]
    obtain ⟨a1, a2⟩ := a
    obtain ⟨b1, b2⟩ := b
    by_cases h1 : a1 = b1 <;> by_cases h2 : a2 = b2 <;> simp [h1, h2]
  rw [← he]
  simp only [heV, strV]
  rw [show (10000 : Nat) = 9999 + 1 from rfl, run_equalIn_agg w 9999 104 _ _ hS hp]
  simp only [Program.fieldsOf, Tryz.underlying104]
  go_simp
  by_cases h1 : a.fst = b.fst <;> by_cases h2 : a.snd = b.snd <;> simp [h1, h2, Prod.ext_iff]
theorem hm_he : Tryz.prog.eqGuardType Tryz.prog.depth 104 = false := by kernel_rfl
theorem ne_he (x y : Operand) (a b : He) (w : World) : (sBin .neq 104 x y (.agg (heV a).toArray) (.agg (heV b).toArray)).run Tryz.prog w = .ok (.value (.bool (!decide (a = b)))) w := by
  simp only [sBin, run_sV, Sem.run_bind, run_eqGuard_agg w .neq 104 x y _ _ hm_he, Result.andThen_ok, run_neq_struct, eqIn_he]
section
variable {w : World}
theorem he_load {v : Value} {l : List He} {i : Nat} (hr : RdS w heV 2 v l) (hi : i < l.length) : ∃ a c, v = .slice (some a) l.length c ∧ ∀ w', Upd w w' [] → (loadVar 104 (a.add (i * 2))).run Tryz.prog w' = .ok (.agg (heV l[i]).toArray) w' := by
  obtain ⟨A, c, rfl, hm, hrd⟩ := hr
  obtain ⟨a, rfl, hx⟩ := Rd.row (f := heV) (k := 2) (fun _ => rfl) (by omega) hrd hi
  have e : ((i : Nat) : Int).toNat = i := by omega
  rw [e] at hx
  exact ⟨a, c, rfl, fun w' hU => run_loadVarN (cs := heV l[i]) ag104 (by rw [sz104]; rfl) fun j v hj => by rw [add_add']; exact hx w' hU j v hj⟩
theorem sameEdges_spec {v1 v2 : Value} {l : List Ed} (h1 : RdS w edV 2 v1 l) (h2 : RdS w edV 2 v2 l) (hl : l.length ≤ 1000000000) :
    CallsR Tryz.prog 11 #[v1, v2] w fun u w' => u = .bool true ∧ Upd w w' [] := by
  apply flotillalaw13_sameEdges_sound
  unfold flotillalaw13_sameEdges_x flotillalaw13_sameEdges_k1
  obtain ⟨A1, c1, rfl, -⟩ := id h1
  obtain ⟨A2, c2, rfl, -⟩ := id h2
  simp (disch := first | assumption | omega) only [PX, BX]
  refine ⟨fun h => absurd rfl h, fun _ => ?_⟩
  refine st_loop (fun vs w' => ∃ i : Nat, i ≤ l.length ∧ vs.getD 1 undef = .int .i64 i ∧ Upd w w' []) (fun vs _ => l.length - (intOf (vs.getD 1 undef)).toNat) ⟨0, Nat.zero_le _, rfl, Upd.refl _ _⟩ ?_
  rintro dv vs w1 - ⟨i, hi, e1, hU⟩
  simp (disch := first | assumption | omega) only [e1, PX, BX]
  refine ⟨fun hlt => ?_, fun hge => ⟨trivial, hU⟩⟩
  have hi' : i < l.length := by omega
  obtain ⟨a1, c1', q1, hc1⟩ := ed_at h1 hi'
  injection q1 with q1; subst q1
  obtain ⟨a2, c2', q2, hc2⟩ := ed_at h2 hi'
  injection q2 with q2; subst q2
  have hUd := hU.trans (Upd.drew w1 [])
  have hne : ∃ w', (fun w' => Upd w w' []) w' := ⟨_, hUd⟩
  refine st_draw (fun w' => Upd w w' []) hUd ?_
  simp (disch := first | exact hne | assumption | omega) only [SX]
  rw [stepS_run hne fun w' hs => run_sLoad (hc1 w' hs), stepS_run hne fun w' hs => run_sLoad (hc2 w' hs), stepS_run hne fun w' hs => ne_ed _ _ _ _ _, bool_var]
  refine ⟨fun h => by simp at h, fun _ => ?_⟩
  simp (disch := omega) only [PX, w64]
  refine ⟨⟨i + 1, by omega, rfl, hUd⟩, ?_⟩
  simp only [List.getD_cons_succ, List.getD_cons_zero, intOf]; omega
theorem sameHeld_spec {v1 v2 : Value} {l : List He} (h1 : RdS w heV 2 v1 l) (h2 : RdS w heV 2 v2 l) (hl : l.length ≤ 1000000000) :
    CallsR Tryz.prog 25 #[v1, v2] w fun u w' => u = .bool true ∧ Upd w w' [] := by
  apply flotillalaw13_sameHeld_sound
  unfold flotillalaw13_sameHeld_x flotillalaw13_sameHeld_k1
  obtain ⟨A1, c1, rfl, -⟩ := id h1
  obtain ⟨A2, c2, rfl, -⟩ := id h2
  simp (disch := first | assumption | omega) only [PX, BX]
  refine ⟨fun h => absurd rfl h, fun _ => ?_⟩
  refine st_loop (fun vs w' => ∃ i : Nat, i ≤ l.length ∧ vs.getD 1 undef = .int .i64 i ∧ Upd w w' []) (fun vs _ => l.length - (intOf (vs.getD 1 undef)).toNat) ⟨0, Nat.zero_le _, rfl, Upd.refl _ _⟩ ?_
  rintro dv vs w1 - ⟨i, hi, e1, hU⟩
  simp (disch := first | assumption | omega) only [e1, PX, BX]
  refine ⟨fun hlt => ?_, fun hge => ⟨trivial, hU⟩⟩
  have hi' : i < l.length := by omega
  obtain ⟨a1, c1', q1, hc1⟩ := he_load h1 hi'
  injection q1 with q1; subst q1
  obtain ⟨a2, c2', q2, hc2⟩ := he_load h2 hi'
  injection q2 with q2; subst q2
  have hUd := hU.trans (Upd.drew w1 [])
  have hne : ∃ w', (fun w' => Upd w w' []) w' := ⟨_, hUd⟩
  refine st_draw (fun w' => Upd w w' []) hUd ?_
  simp (disch := first | exact hne | assumption | omega) only [SX]
  rw [stepS_run hne fun w' hs => run_sLoad (hc1 w' hs), stepS_run hne fun w' hs => run_sLoad (hc2 w' hs), stepS_run hne fun w' hs => ne_he _ _ _ _ _, bool_var]
  refine ⟨fun h => by simp at h, fun _ => ?_⟩
  simp (disch := omega) only [PX, w64]
  refine ⟨⟨i + 1, by omega, rfl, hUd⟩, ?_⟩
  simp only [List.getD_cons_succ, List.getD_cons_zero, intOf]; omega
theorem Same_spec {v1 v2 : Value} {l : List Int} (h1 : Rd w 1 v1 l.length (intsV .i64 l)) (h2 : Rd w 1 v2 l.length (intsV .i64 l)) (hl : l.length ≤ 1000000000) :
    CallsR Tryz.prog 24 #[v1, v2] w fun u w' => u = .bool true ∧ Upd w w' [] := by
  apply flotillaref12_Same_sound
  unfold flotillaref12_Same_x flotillaref12_Same_k1
  obtain ⟨A1, c1, rfl, -⟩ := id h1
  obtain ⟨A2, c2, rfl, -⟩ := id h2
  simp (disch := first | assumption | omega) only [PX, BX]
  refine ⟨fun h => absurd rfl h, fun _ => ?_⟩
  refine st_loop (fun vs w' => ∃ i : Nat, i ≤ l.length ∧ vs.getD 1 undef = .int .i64 i ∧ Upd w w' []) (fun vs _ => l.length - (intOf (vs.getD 1 undef)).toNat) ⟨0, Nat.zero_le _, rfl, Upd.refl _ _⟩ ?_
  rintro dv vs w1 - ⟨i, hi, e1, hU⟩
  simp (disch := first | assumption | omega) only [e1, PX, BX]
  refine ⟨fun hlt => ?_, fun hge => ⟨trivial, hU⟩⟩
  have hi' : i < l.length := by omega
  obtain ⟨a1, c1', q1, -⟩ := int_at h1 hi'
  injection q1 with q1; subst q1
  obtain ⟨a2, c2', q2, -⟩ := int_at h2 hi'
  injection q2 with q2; subst q2
  have hc1 : ∀ w', Upd w w' [] → w'.cell? (a1.add i) = some (.int .i64 l[i]) := fun w' hU => by
    obtain ⟨a, c, q, hc⟩ := int_at (h1.mono hU) hi'
    injection q with q; injection q with q; subst q; exact hc
  have hc2 : ∀ w', Upd w w' [] → w'.cell? (a2.add i) = some (.int .i64 l[i]) := fun w' hU => by
    obtain ⟨a, c, q, hc⟩ := int_at (h2.mono hU) hi'
    injection q with q; injection q with q; subst q; exact hc
  have hUd := hU.trans (Upd.drew w1 [])
  have hne : ∃ w', (fun w' => Upd w w' []) w' := ⟨_, hUd⟩
  refine st_draw (fun w' => Upd w w' []) hUd ?_
  simp (disch := first | exact hne | assumption | omega) only [SX, SLX, Nat.mul_one]
  rw [bool_dec]
  refine ⟨fun h => absurd rfl h, fun _ => ?_⟩
  simp (disch := omega) only [PX, w64]
  refine ⟨⟨i + 1, by omega, rfl, hUd⟩, ?_⟩
  simp only [List.getD_cons_succ, List.getD_cons_zero, intOf]; omega
end
end Go.Proofs.YtakifgecgmdjcaaGreat

/- Locks: what a nil table answers. -/
namespace Go.Proofs.YtakifgecgmdjcaaGreat
open Go Xf Go.RowKit
set_option linter.unusedVariables false
set_option linter.unusedSimpArgs false
set_option maxRecDepth 100000

section
variable {w : World}
theorem nAsk_spec (txn : Int) (v : Wt) : CallsR Tryz.prog 21 #[.pointer none, .int .i64 txn, wtV v] w fun u w' => u = .tuple #[.bool false, .int .i64 1] ∧ Upd w w' [] := by
  apply lock_Table_Ask_sound
  unfold lock_Table_Ask_x lock_Table_Ask_k1
  refine st_box (Upd.refl w []) (Owns.nil w) ?_
  intro b w1 hU hO hb
  simp (disch := first | assumption | omega) only [PX, BX]
  exact ⟨trivial, hU⟩
theorem nWaits_spec (x : Int) : CallsR Tryz.prog 17 #[.pointer none, .int .i64 x] w fun u w' => u = .tuple #[wtV ⟨[], 0⟩, .bool false] ∧ Upd w w' [] := by
  apply lock_Table_Waits_sound
  unfold lock_Table_Waits_x
  refine st_alloc ze_want (Upd.refl w []) (Owns.nil w) ?_
  intro b w1 hU hO hb
  simp (disch := first | assumption | omega) only [PX, BX]
  have hbuild : ∀ w : World, (sBuild 31 []).run Tryz.prog w = .ok (.value (wtV ⟨[], 0⟩)) w := fun w => by kernel_rfl
  rw [step_run (hbuild w1)]
  refine st_storeN (vs := [strV [], .int .i64 0]) (by rw [sz31]; rfl) hU hO 0 rfl (by show 0 + 2 ≤ 2; decide) (by simp [Value.oneCell']) (.inr hb) ?_
  intro w2 hU2 hO2
  have hO2 : Owns w2 [wtBx b ⟨[], 0⟩] := hO2
  refine st_loadR (wt_load (hO2.at_ 0 rfl)) ?_
  exact ⟨rfl, hU2⟩
theorem ngone_spec (x : Int) (b : Bool) : CallsR Tryz.prog 48 #[.pointer none, .int .i64 x, .bool b] w fun u w' => u = .slice none 0 0 ∧ Upd w w' [] := by
  apply lock_Table_gone_sound
  unfold lock_Table_gone_x
  simp (disch := first | assumption | omega) only [PX, BX]
  exact ⟨trivial, Upd.refl w []⟩
theorem nFree_spec (x : Int) : CallsR Tryz.prog 18 #[.pointer none, .int .i64 x] w fun u w' => u = .slice none 0 0 ∧ Upd w w' [] := by
  apply lock_Table_Free_sound
  unfold lock_Table_Free_x
  exact st_call (ngone_spec x true) fun _ _ h => h
theorem nCancel_spec (x : Int) : CallsR Tryz.prog 22 #[.pointer none, .int .i64 x] w fun u w' => u = .slice none 0 0 ∧ Upd w w' [] := by
  apply lock_Table_Cancel_sound
  unfold lock_Table_Cancel_x
  exact st_call (ngone_spec x false) fun _ _ h => h
theorem nHeld_spec (x : Int) : CallsR Tryz.prog 23 #[.pointer none, .int .i64 x] w fun u w' => u = .slice none 0 0 ∧ Upd w w' [] := by
  apply lock_Table_Held_sound
  unfold lock_Table_Held_x
  simp (disch := first | assumption | omega) only [PX, BX]
  exact ⟨trivial, Upd.refl w []⟩
theorem nEdges_specO {W : World} {ks : List Nat} {F : List (Nat × Obj)} (hU : Upd W w ks) (hO : Owns w F) : CallsR Tryz.prog 12 #[.pointer none] w fun u w' => u = .slice none 0 0 ∧ Upd W w' ks ∧ Owns w' F := by
  apply lock_Table_Edges_sound
  unfold lock_Table_Edges_x
  refine st_alloc (z := .slice none 0 0) ze39 hU hO ?_
  intro b w1 hU1 hO1 hb
  have c0 : w1.cell? ⟨b, 0, none⟩ = some (.slice none 0 0) := (cell_at (hO1.at_ 0 rfl)).trans rfl
  simp (disch := first | assumption | omega) only [PX, BX]
  refine st_load ag39 c0 ?_
  exact ⟨rfl, hU1, hO1.sub (List.sublist_cons_self ..)⟩
theorem nTxns_spec : CallsR Tryz.prog 15 #[.pointer none] w fun u w' => u = .slice none 0 0 ∧ Upd w w' [] := by
  apply lock_Table_Txns_sound
  unfold lock_Table_Txns_x
  refine st_makeMap (Upd.refl w []) (Owns.nil w) ?_
  intro b w1 hU hO hb
  simp (disch := first | assumption | omega) only [PX, BX]
  exact ⟨trivial, hU⟩
theorem Path.nil_ {a b : Int} : ¬ Path [] a b := fun h => by
  cases h with
  | one h => cases h
  | more _ h => cases h
theorem nVictim_spec (x : Int) : CallsR Tryz.prog 16 #[.pointer none, .int .i64 x] w fun u w' => u = .tuple #[.int .i64 0, .bool false] ∧ Upd w w' [] := by
  apply lock_Table_Victim_sound
  unfold lock_Table_Victim_x
  refine st_call (gNew_spec (Upd.refl w []) (Owns.nil w)) ?_
  rintro _ w1 ⟨bg, bm, rfl, hU1, hO1, hbm, hbg⟩
  refine st_call (nEdges_specO hU1 hO1) ?_
  rintro _ w2 ⟨rfl, hU2, hO2⟩
  simp (disch := first | assumption | omega) only [PX, BX]
  refine st_loop (fun vs w' => vs.getD 1 undef = .int .i64 ((0 : Nat) : Int) ∧ w' = w2) (fun _ _ => 0) ⟨rfl, rfl⟩ ?_
  rintro dv vs w3 - ⟨e1, rfl⟩
  simp (disch := first | assumption | omega) only [e1, PX, BX]
  refine ⟨fun h => absurd h (by omega), fun _ => ?_⟩
  unfold lock_Table_Victim_k1
  refine st_call (gVictim_spec (bm := bm) (MapO.nil _ _) (Nat.zero_le _) hU2 hO2 (by simp) (by simp) x) ?_
  rintro _ w4 ⟨L, rfl, ⟨-, hR⟩, hU4, hO4⟩
  have hL : L = [] := by
    cases L with
    | nil => rfl
    | cons b L => exact absurd ((hR b).1 (List.mem_cons_self ..)).1 Path.nil_
  subst hL
  unfold vicV
  simp (disch := first | assumption | omega) only [PX]
  exact ⟨rfl, hU4⟩
end
end Go.Proofs.YtakifgecgmdjcaaGreat

/- Locks: LockNils. -/
namespace Go.Proofs.YtakifgecgmdjcaaGreat
open Go Xf Go.RowKit
set_option linter.unusedVariables false
set_option linter.unusedSimpArgs false
set_option maxRecDepth 100000

theorem sorted_ext {α : Type} {R : α → α → Prop} (has : ∀ a b, R a b → R b a → False) : ∀ {l1 l2 : List α}, l1.Pairwise R → l2.Pairwise R → (∀ x, x ∈ l1 ↔ x ∈ l2) → l1 = l2
  | [], [], _, _, _ => rfl
  | [], b :: t, _, _, h => absurd ((h b).2 (List.mem_cons_self ..)) (by simp)
  | a :: s, [], _, _, h => absurd ((h a).1 (List.mem_cons_self ..)) (by simp)
  | a :: s, b :: t, h1, h2, h => by
    rw [List.pairwise_cons] at h1 h2
    have hab : a = b := by
      rcases List.mem_cons.1 ((h a).1 (List.mem_cons_self ..)) with e | e
      · exact e
      · rcases List.mem_cons.1 ((h b).2 (List.mem_cons_self ..)) with e' | e'
        · exact e'.symm
        · exact (has _ _ (h1.1 b e') (h2.1 a e)).elim
    subst hab
    rw [sorted_ext has h1.2 h2.2 fun x => ?_]
    have hx := h x
    rw [List.mem_cons, List.mem_cons] at hx
    constructor
    · intro hxs
      rcases hx.1 (.inr hxs) with e | e
      · subst e; exact (has _ _ (h1.1 x hxs) (h1.1 x hxs)).elim
      · exact e
    · intro hxs
      rcases hx.2 (.inr hxs) with e | e
      · subst e; exact (has _ _ (h2.1 x hxs) (h2.1 x hxs)).elim
      · exact e
theorem edLt_as (a b : Ed) (h1 : edLt a b) (h2 : edLt b a) : False := by unfold edLt at *; omega
theorem askT_same {T : Tb} {new : Nat} {txn : Int} {v : Wt} (h : (askT T new txn v).2.2 ≠ 0) : (askT T new txn v).1 = T := by
  unfold askT at h ⊢
  by_cases hok : argsOk txn v
  · rw [if_pos hok] at h ⊢
    by_cases hw : (aGet T.waits txn).isSome = true
    · rw [if_pos hw]
    · rw [if_neg hw] at h; exact absurd rfl h
  · rw [if_neg hok]
section
variable {W w w' : World} {ks : List Nat} {F : List (Nat × Obj)} {T : Tb} {g : Nat}
theorem TbAt.rdEd {l : List Ed} {v : Value} {hl : List (Nat × Obj)} (hr : RowH 78 2 v l.length (edsV l) hl) (h : TbAt W ks F T g w) (hs : ∀ p ∈ hl, p ∈ F) (hlen : l.length ≤ 1000000000) : RdS w edV 2 v l :=
  RowH.ed (F := []) hr ⟨by rw [List.append_nil]; rcases hr.2 with ⟨_, _, rfl⟩ | ⟨g', _, _, _, rfl, _⟩ <;> simp, fun p hp => h.owns.2 p (hs p (by simpa using hp))⟩ hlen
/-- behind the guards -/
theorem Nils_k {B b3 : Nat} {o : LOp} {v82 v84 v88 : Value} {L1 : List Ed} {L2 : List Int} {h1 h2 h3 : List (Nat × Obj)} (hT : TbAt W [] F T g w) (hfine : Fine T B) (hB : B ≤ 400) (ho : okO o) (hb3 : opBx b3 o ∈ F)
    (hr1 : RowH 78 2 v82 L1.length (edsV L1) h1) (hs1 : ∀ p ∈ h1, p ∈ F) (hp1 : L1.Pairwise edLt) (hm1 : ∀ e, e ∈ L1 ↔ EdgeT T e) (hl1 : L1.length ≤ 200000000)
    (hr2 : RowH 3 1 v84 L2.length (intsV .i64 L2) h2) (hs2 : ∀ p ∈ h2, p ∈ F) (hp2 : L2.Pairwise (· < ·)) (hm2 : ∀ x, x ∈ L2 ↔ TxK T x) (hl2 : L2.length ≤ 300000)
    (hr3 : RowH 104 2 v88 (heldT T o.txn).length (hesV (heldT T o.txn)) h3) (hs3 : ∀ p ∈ h3, p ∈ F) :
    (std Tryz.prog).calls 12 #[.pointer (some ⟨g, 0, none⟩)] w fun v105_1 w =>
      (std Tryz.prog).calls 11 #[v105_1, v82] w fun v107_1 w =>
      (std Tryz.prog).bool v107_1
      ((std Tryz.prog).calls 15 #[.pointer (some ⟨g, 0, none⟩)] w fun v111_1 w =>
      (std Tryz.prog).calls 24 #[v111_1, v84] w fun v113_1 w =>
      (std Tryz.prog).bool v113_1
      ((std Tryz.prog).step (sFieldAddr 33 (.pointer (some ⟨b3, 0, none⟩)) 1) w fun v117_1 w =>
      (std Tryz.prog).step (sLoad 3 v117_1) w fun v118_1 w =>
      (std Tryz.prog).calls 23 #[.pointer (some ⟨g, 0, none⟩), v118_1] w fun v119_1 w =>
      (std Tryz.prog).calls 25 #[v119_1, v88] w fun v121_1 w =>
      (std Tryz.prog).bool v121_1
      ((std Tryz.prog).calls 8 #[] w fun v124_1 w =>
      (fun r w' => r = .bool true ∧ Upd W w' []) v124_1 w)
      (flotillalaw13_LockNils_k2 (std Tryz.prog) w fun r w' => r = .bool true ∧ Upd W w' []))
      (flotillalaw13_LockNils_k2 (std Tryz.prog) w fun r w' => r = .bool true ∧ Upd W w' []))
      (flotillalaw13_LockNils_k2 (std Tryz.prog) w fun r w' => r = .bool true ∧ Upd W w' []) := by
  refine st_call (Edges_spec hT hfine (by omega)) ?_
  rintro v w1 ⟨L, ⟨hl, hr, hT1, -⟩, hp, hm, hlen⟩
  obtain rfl : L = L1 := sorted_ext edLt_as hp hp1 fun e => by rw [hm, hm1]
  refine st_call (sameEdges_spec (hT1.rdEd hr (fun p hp => List.mem_append_left _ hp) (by omega)) (hT1.rdEd hr1 (fun p hp => List.mem_append_right _ (hs1 p hp)) (by omega)) (by omega)) ?_
  rintro _ w2 ⟨rfl, hU2⟩
  have hT2 := (hT1.upd hU2).weak (List.sublist_append_right _ _)
  simp only [BX]
  refine st_call (Txns_spec hT2 hfine (by omega)) ?_
  rintro v' w3 ⟨L', ⟨hl', hr', hT3, -⟩, hp', hm', hlen'⟩
  obtain rfl : L' = L2 := sorted_ext (fun a b h1 h2 => by omega) hp' hp2 fun e => by rw [hm', hm2]
  refine st_call (Same_spec (hT3.rdI hr' (fun p hp => List.mem_append_left _ hp)) (hT3.rdI hr2 (fun p hp => List.mem_append_right _ (hs2 p hp))) (by omega)) ?_
  rintro _ w4 ⟨rfl, hU4⟩
  have hT4 := (hT3.upd hU4).weak (List.sublist_append_right _ _)
  obtain ⟨c0, c1, c2, c3⟩ := op_cells (hT4.at_ hb3)
  simp (disch := first | assumption | omega) only [PX, BX, LX, add_mk, Nat.reduceAdd]
  refine st_call (Held_spec hT4 hfine.ok (by omega) o.txn) ?_
  rintro v'' w5 ⟨hl'', hr'', hT5, -⟩
  have hh := heldT_len hfine.ok o.txn
  refine st_call (sameHeld_spec (hT5.rdHe hr'' (fun p hp => List.mem_append_left _ hp) (by omega)) (hT5.rdHe hr3 (fun p hp => List.mem_append_right _ (hs3 p hp)) (by omega)) (by omega)) ?_
  rintro _ w6 ⟨rfl, hU6⟩
  simp only [BX]
  exact Turns_lives (hT5.upd hU6).1 fun w' h => ⟨rfl, h⟩
theorem LockNils_spec (W : World) {v0 : Value} {ops : List LOp} {o : LOp} (h0 : RdS W opV 4 v0 ops) (hops : ∀ o ∈ ops, okO o) (ho : okO o) :
    CallsR Tryz.prog 5 #[v0, .agg (opV o).toArray] W fun r w' => r = .bool true ∧ Upd W w' [] := by
  apply flotillalaw13_LockNils_sound
  unfold flotillalaw13_LockNils_x
  refine st_box (Upd.refl W []) (Owns.nil W) ?_
  intro b3 w0 hU0 hO0 hb3
  have hO0 : Owns w0 [opBx b3 o] := hO0
  have hbuild : ∀ w : World, (sBuild 31 [(0, .string ⟨#[97]⟩), (1, .int .i64 3)]).run Tryz.prog w = .ok (.value (wtV ⟨[97], 3⟩)) w := fun w => by kernel_rfl
  rw [step_run (hbuild w0)]
  refine st_call (nAsk_spec 1 ⟨[97], 3⟩) ?_
  rintro _ w1 ⟨rfl, hU1⟩
  simp (disch := first | assumption | omega) only [PX]
  refine st_call (nWaits_spec 1) ?_
  rintro _ w2 ⟨rfl, hU2⟩
  simp (disch := first | assumption | omega) only [PX]
  refine st_alloc ze_want ((hU0.trans hU1).trans hU2) ((hO0.ext hU1).ext hU2) ?_
  intro b8 w3 hU3 hO3 hb8
  refine st_storeN (vs := [strV [], .int .i64 0]) (by rw [sz31]; rfl) hU3 hO3 0 rfl (by show 0 + 2 ≤ 2; decide) (by simp [Value.oneCell']) (.inr hb8) ?_
  intro w4 hU4 hO4
  have hO4 : Owns w4 [opBx b3 o] := hO4.sub (List.sublist_cons_self ..)
  refine st_call (nVictim_spec 1) ?_
  rintro _ w5 ⟨rfl, hU5⟩
  have w00 : IntKind.wrap .i64 ((0 : Int) + ((0 : Nat) : Int)) = 0 := by decide
  simp (disch := first | assumption | omega) only [PX, BX]
  refine ⟨fun h => absurd rfl h, fun _ => ?_⟩
  refine st_call (nFree_spec 1) ?_
  rintro _ w6 ⟨rfl, hU6⟩
  simp (disch := first | assumption | omega) only [PX, BX, w00]
  refine st_call (nCancel_spec 1) ?_
  rintro _ w7 ⟨rfl, hU7⟩
  simp (disch := first | assumption | omega) only [PX, BX, w00]
  refine st_call (nHeld_spec 1) ?_
  rintro _ w8 ⟨rfl, hU8⟩
  simp (disch := first | assumption | omega) only [PX, BX, w00]
  refine st_call (nEdges_specO ((((hU4.trans hU5).trans hU6).trans hU7).trans hU8) ((((hO4.ext hU5).ext hU6).ext hU7).ext hU8)) ?_
  rintro _ w9 ⟨rfl, hU9, hO9⟩
  simp (disch := first | assumption | omega) only [PX, BX, w00]
  refine st_call nTxns_spec ?_
  rintro _ w10 ⟨rfl, hU10⟩
  simp (disch := first | assumption | omega) only [PX, BX, w00]
  refine ⟨fun h => absurd rfl h, fun _ => ?_⟩
  refine st_call (led_spec h0 (hU9.trans hU10) (hO9.ext hU10)) ?_
  rintro _ w11 ⟨g, T, rfl, hg, hR, hT⟩
  have hfine : Fine T 60 := (hR.fine fun o ho => hops o (List.mem_of_mem_take ho)).mono (List.length_take_le ..)
  simp (disch := first | assumption | omega) only [PX, BX]
  rw [step_run (run_sLoad (op_boxload (hT.at_ (List.mem_cons_self ..))))]
  refine st_call (short_spec o w11) ?_
  rintro _ w12 ⟨rfl, hU12⟩
  have hT2 := hT.upd hU12
  simp (disch := first | assumption | omega) only [PX, BX]
  rw [bool_var]
  refine ⟨fun hs => ?_, fun hs => ?_⟩
  rotate_left
  · exact Turns_lives hT2.1 fun w' h => ⟨rfl, h⟩
  let S : World → Prop := fun w' => w'.cell? ⟨b3, 1, none⟩ = some (.int .i64 o.txn)
  have hS : ∀ {w' : World} {F' : List (Nat × Obj)}, TbAt W [] F' T g w' → opBx b3 o ∈ F' → S w' := fun h hm => (op_cells (h.at_ hm)).2.1
  have hTd := hT2.upd (Upd.drew w12 [])
  have hne : ∃ w', S w' := ⟨_, hS hTd (List.mem_cons_self ..)⟩
  refine st_draw S (hS hTd (List.mem_cons_self ..)) ?_
  have g1 : ∀ w', S w' → w'.cell? ⟨b3, 1, none⟩ = some (.int .i64 o.txn) := fun w' h => h
  simp (disch := first | exact hne | assumption | omega) only [SX, SLX, add_mk, Nat.reduceAdd]
  refine st_call (Edges_spec hTd hfine (by omega)) ?_
  rintro v82 w13 ⟨L1, ⟨h1, hr1, hT3, -⟩, hp1, hm1, hl1⟩
  refine st_same (hS hT3 (by simp)) ?_
  refine st_call (Txns_spec hT3 hfine (by omega)) ?_
  rintro v84 w14 ⟨L2, ⟨h2, hr2, hT4, -⟩, hp2, hm2, hl2⟩
  refine st_same (hS hT4 (by simp)) ?_
  refine st_call (Held_spec hT4 hfine.ok (by omega) o.txn) ?_
  rintro v88 w15 ⟨h3, hr3, hT5, -⟩
  refine st_keepT (fun _ => True) trivial ?_
  have hmem : opBx b3 o ∈ h3 ++ (h2 ++ (h1 ++ [opBx b3 o])) := by simp
  obtain ⟨c0, c1, c2, c3⟩ := op_cells (hT5.at_ hmem)
  simp (disch := first | assumption | omega) only [PX, BX, LX, add_mk, Nat.reduceAdd]
  rw [step_run (run_sLoad (op_boxwant (hT5.at_ hmem)))]
  refine st_call (Ask_spec hT5 _ _ (ask_small hfine.ok (by omega) _) (by unfold shortB at hs; simp at hs; omega)) ?_
  rintro _ w16 ⟨new, rfl, hT6⟩
  have hno := askT_no (T := T) (new := new) (txn := o.txn) (v := o.want)
  have hsm := askT_same (T := T) (new := new) (txn := o.txn) (v := o.want)
  unfold askV
  generalize askT T new o.txn o.want = r at hT6 hno hsm
  obtain ⟨T', got, e⟩ := r
  simp only at hno hsm hT6
  simp (disch := first | assumption | omega) only [PX, BX]
  refine ⟨fun h => Turns_lives hT6.1 fun w' h => ⟨rfl, h⟩, fun he => ?_⟩
  obtain rfl := hsm he
  obtain rfl := hno he
  simp only [BX, Bool.not_false]
  exact Nils_k hT6 hfine (by omega) ho hmem hr1 (fun p hp => by simp [hp]) hp1 hm1 hl1 hr2 (fun p hp => by simp [hp]) hp2 hm2 hl2 hr3 (fun p hp => by simp [hp])
end
end Go.Proofs.YtakifgecgmdjcaaGreat

/- Locks: who stands first does not go; who goes, goes wholly. -/
namespace Go.Proofs.YtakifgecgmdjcaaGreat
open Go Xf Go.RowKit
set_option linter.unusedVariables false
set_option linter.unusedSimpArgs false
set_option maxRecDepth 100000

/-- who stands first does not go -/
def StuckN (ws : List (Int × Wt)) (n : Nm) : Prop := firstN n ≠ 0 → goesB n (firstN n) (wouldN n (firstN n) ((aGet ws (firstN n)).getD ⟨[], 0⟩).mode) = false
theorem rowsN_nil {n : Nm} (h : rowsN n = []) : firstN n = 0 := by
  unfold rowsN at h
  rw [List.append_eq_nil_iff] at h
  unfold firstN
  rw [h.1, h.2]
theorem firstN_rows {n : Nm} (h : firstN n ≠ 0) : ∃ l, rowsN n = firstN n :: l := by
  unfold firstN rowsN at *
  cases ht : n.turns with
  | cons x l => exact ⟨_, rfl⟩
  | nil =>
    cases hr : n.row with
    | cons x l => exact ⟨_, rfl⟩
    | nil => rw [ht, hr] at h; exact absurd rfl h
/-- one goes in -/
theorem GoodN.next {ws : List (Int × Wt)} {s : List UInt8} {n : Nm} (h : GoodN ws s n) (hk : Keys1 ws) (hx : firstN n ≠ 0) (hgo : goesB n (firstN n) (wouldN n (firstN n) ((aGet ws (firstN n)).getD ⟨[], 0⟩).mode) = true) :
    GoodN (aDel ws (firstN n)) s { leaveN n (firstN n) with held := aSet n.held (firstN n) (wouldN n (firstN n) ((aGet ws (firstN n)).getD ⟨[], 0⟩).mode) } := by
  have hmem : firstN n ∈ rowsN n := List.mem_append.2 (firstN_mem hx)
  obtain ⟨w, e1, e2, e3, e4, e5, e6, e7⟩ := h.rows _ hmem
  have hw : (aGet ws (firstN n)).getD ⟨[], 0⟩ = w := by rw [e1]; rfl
  rw [hw] at hgo ⊢
  refine h.give e3 e4 e5 e6 hgo rfl (fun y hy => mem_outN.1 hy) (fun y hy => mem_outN.1 hy) ?_ fun y w' hy hw' => ?_
  · show (rowsN (leaveN n (firstN n))).Nodup
    rw [rowsN_leave]; exact outN_nodup h.nodup _
  · rw [aGet_aDel hk, if_neg hy]; exact hw'
structure PassEnd (s : List UInt8) (n : Nm) (r : Nm × List (Int × Wt) × List Gr) : Prop where
  stuck : StuckN r.2.1 r.1
  held : ∀ y, (aGet r.1.held y).isSome = true → (aGet n.held y).isSome = true ∨ y ∈ rowsN n
  keep : ∀ y, (aGet n.held y).isSome = true → (aGet r.1.held y).isSome = true
  grants : ∀ g ∈ r.2.2, g.1 ∈ rowsN n ∧ g.2.name = s ∧ aGet r.2.1 g.1 = none ∧ (aGet r.1.held g.1).isSome = true
  rows : ∀ y ∈ rowsN r.1, y ∈ rowsN n
theorem isSome_aSet {l : List (Int × Int)} {k v y : Int} : (aGet (aSet l k v) y).isSome = true ↔ y = k ∨ (aGet l y).isSome = true := by
  rw [aGet_aSet]; split <;> simp_all
theorem passN_end {s : List UInt8} : ∀ (k : Nat) (n : Nm) (ws : List (Int × Wt)), GoodN ws s n → Keys1 ws → n.turns.length + n.row.length ≤ k → PassEnd s n (passN k n ws)
  | 0, n, ws, h, hk, hl => by
    have hr : rowsN n = [] := List.eq_nil_of_length_eq_zero (by unfold rowsN; rw [List.length_append]; omega)
    exact ⟨fun h => absurd (rowsN_nil hr) h, fun y h => .inl h, fun y h => h, fun g hg => (by cases hg), fun y h => h⟩
  | k + 1, n, ws, h, hk, hl => by
    by_cases hx : firstN n = 0
    · have e : passN (k + 1) n ws = (n, ws, []) := by unfold passN; rw [if_pos hx]
      rw [e]
      exact ⟨fun h => absurd hx h, fun y h => .inl h, fun y h => h, fun g hg => (by cases hg), fun y h => h⟩
    · have hmem : firstN n ∈ rowsN n := List.mem_append.2 (firstN_mem hx)
      by_cases hgo : goesB n (firstN n) (wouldN n (firstN n) ((aGet ws (firstN n)).getD ⟨[], 0⟩).mode) = true
      · rw [passN_go hx hgo]
        have hlt := leaveN_lt hx
        have hg := h.next hk hx hgo
        obtain ⟨w, e1, e2, -⟩ := h.rows _ hmem
        have hle : (outN n.turns (firstN n)).length + (outN n.row (firstN n)).length ≤ k := by omega
        have ih := passN_end k _ _ hg hk.del hle
        have ih2 := passN_good k _ _ hg hk.del hle
        have hrl : ∀ y, y ∈ rowsN { leaveN n (firstN n) with held := aSet n.held (firstN n) (wouldN n (firstN n) ((aGet ws (firstN n)).getD ⟨[], 0⟩).mode) } → y ∈ rowsN n := fun y hy => by
          have : y ∈ rowsN (leaveN n (firstN n)) := hy
          rw [rowsN_leave, mem_outN] at this
          exact this.1
        refine ⟨ih.stuck, fun y hy => ?_, fun y hy => ?_, fun g hg => ?_, fun y hy => hrl y (ih.rows y hy)⟩
        · rcases ih.held y hy with h1 | h1
          · rcases isSome_aSet.1 h1 with h2 | h2
            · exact .inr (by rw [h2]; exact hmem)
            · exact .inl h2
          · exact .inr (hrl y h1)
        · exact ih.keep y (isSome_aSet.2 (.inr hy))
        · rcases List.mem_cons.1 hg with rfl | hg
          · refine ⟨hmem, ?_, ?_, ih.keep _ (isSome_aSet.2 (.inl rfl))⟩
            · show ((aGet ws (firstN n)).getD ⟨[], 0⟩).name = s
              rw [e1]; exact e2
            · cases hh : aGet (passN k { leaveN n (firstN n) with held := aSet n.held (firstN n) (wouldN n (firstN n) ((aGet ws (firstN n)).getD ⟨[], 0⟩).mode) } (aDel ws (firstN n))).2.1 (firstN n) with
              | none => rfl
              | some w' =>
                have := ih2.2.2.1 _ _ hh
                rw [aGet_aDel hk, if_pos rfl] at this
                cases this
          · obtain ⟨a1, a2, a3, a4⟩ := ih.grants g hg
            exact ⟨hrl _ a1, a2, a3, a4⟩
      · have e : passN (k + 1) n ws = (n, ws, []) := by unfold passN; rw [if_neg hx, if_neg hgo]
        rw [e]
        exact ⟨fun _ => by simpa using hgo, fun y h => .inl h, fun y h => h, fun g hg => (by cases hg), fun y h => h⟩
theorem StuckN.ws {ws ws' : List (Int × Wt)} {n : Nm} (h : StuckN ws n) (he : firstN n ≠ 0 → aGet ws' (firstN n) = aGet ws (firstN n)) : StuckN ws' n := fun hx => by rw [he hx]; exact h hx
/-- the state while somebody goes: S holds of all who are left -/
structure EndX (S : Int → Prop) (l : List (List UInt8)) (txn : Int) (all : Bool) (T : Tb) : Prop where
  good : GoodX l txn T
  w : ∀ y wy, aGet T.waits y = some wy → S y
  h : ∀ s q, aGet T.names s = some q → ∀ y, (aGet q.2.held y).isSome = true → S y ∨ (all = true ∧ y = txn ∧ s ∈ l)
  st : ∀ s q, aGet T.names s = some q → StuckN T.waits q.2 ∨ (s ∈ l ∧ (txn ∈ rowsN q.2 ∨ (all = true ∧ (aGet q.2.held txn).isSome = true)))
/-- what is told of one who got something -/
def GotX (S : Int → Prop) (T : Tb) (g : Gr) : Prop := S g.1 ∧ aGet T.waits g.1 = none ∧ (hasT T g.1 g.2.name).isSome = true
/-- ahead of pass at s -/
theorem passT_end {S : Int → Prop} {l : List (List UInt8)} {txn : Int} {all : Bool} {T : Tb} {s : List UInt8} {q : Nat × Nm} {B : Nat} (hpre : PreX l txn T s) (hok : okT T B) (hs : s ∉ l) (hq : aGet T.names s = some q)
    (hw : ∀ y wy, aGet T.waits y = some wy → S y) (hh : ∀ y, (aGet q.2.held y).isSome = true → S y)
    (hoth : ∀ s' q', s' ≠ s → aGet T.names s' = some q' → (∀ y, (aGet q'.2.held y).isSome = true → S y ∨ (all = true ∧ y = txn ∧ s' ∈ l)) ∧ (StuckN T.waits q'.2 ∨ (s' ∈ l ∧ (txn ∈ rowsN q'.2 ∨ (all = true ∧ (aGet q'.2.held txn).isSome = true))))) :
    EndX S l txn all (passT T s q).1 ∧ ∀ g ∈ (passT T s q).2, GotX S (passT T s q).1 g ∧ g.2.name = s := by
  have hgood := passT_good hpre hok hs hq
  have hN := hpre.nm s q hq
  unfold virt at hN
  rw [if_neg hs] at hN
  obtain ⟨g1, g2, g3, g4, g5, g6⟩ := passN_good (q.2.turns.length + q.2.row.length) q.2 T.waits hN hok.wkeys (Nat.le_refl _)
  have pe := passN_end (q.2.turns.length + q.2.row.length) q.2 T.waits hN hok.wkeys (Nat.le_refl _)
  have hrow : ∀ y ∈ rowsN q.2, S y := fun y hy => by obtain ⟨w, e1, -⟩ := hN.rows y hy; exact hw y w e1
  have hws : ∀ s' q', s' ≠ s → aGet T.names s' = some q' → ∀ y ∈ rowsN (virt l txn s' q'.2), aGet (passN (q.2.turns.length + q.2.row.length) q.2 T.waits).2.1 y = aGet T.waits y := fun s' q' hne h' y hy => by
    obtain ⟨w, e1, e2, -⟩ := (hpre.nm s' q' h').rows y hy
    rw [e1]
    exact g4 y w e1 (by rw [e2]; exact hne)
  have hfin : ∀ s' q', aGet (passT T s q).1.names s' = some q' → (s' = s ∧ q'.2 = (passN (q.2.turns.length + q.2.row.length) q.2 T.waits).1) ∨ (s' ≠ s ∧ aGet T.names s' = some q') := fun s' q' h' => by
    unfold passT at h'
    by_cases he : s' = s
    · refine .inl ⟨he, ?_⟩
      simp only at h'
      split at h'
      · rw [aGet_aDel hok.keys, if_pos he] at h'; cases h'
      · rw [aGet_aSet, if_pos he] at h'; injection h' with h'; rw [← h']
    · refine .inr ⟨he, ?_⟩
      simp only at h'
      split at h'
      · rw [aGet_aDel hok.keys, if_neg he] at h'; exact h'
      · rw [aGet_aSet, if_neg he] at h'; exact h'
  have hwt : (passT T s q).1.waits = (passN (q.2.turns.length + q.2.row.length) q.2 T.waits).2.1 := rfl
  have hgr : (passT T s q).2 = (passN (q.2.turns.length + q.2.row.length) q.2 T.waits).2.2 := rfl
  refine ⟨⟨hgood, fun y wy hy => hw y wy (g3 y wy hy), fun s' q' h' y hy => ?_, fun s' q' h' => ?_⟩, fun g hg => ?_⟩
  · rcases hfin s' q' h' with ⟨rfl, e⟩ | ⟨hne, h2⟩
    · rw [e] at hy
      rcases pe.held y hy with h3 | h3
      · exact .inl (hh y h3)
      · exact .inl (hrow y h3)
    · exact (hoth s' q' hne h2).1 y hy
  · rcases hfin s' q' h' with ⟨rfl, e⟩ | ⟨hne, h2⟩
    · rw [e, hwt]; exact .inl pe.stuck
    · rcases (hoth s' q' hne h2).2 with h3 | h3
      · by_cases hv : s' ∈ l ∧ txn ∈ rowsN q'.2
        · exact .inr ⟨hv.1, .inl hv.2⟩
        · refine .inl (h3.ws fun hx => ?_)
          rw [hwt]
          refine hws s' q' hne h2 _ ?_
          have hm : firstN q'.2 ∈ rowsN q'.2 := List.mem_append.2 (firstN_mem hx)
          unfold virt
          split
          · rename_i hsl
            rw [rowsN_leave, mem_outN]
            exact ⟨hm, fun he => hv ⟨hsl, he ▸ hm⟩⟩
          · exact hm
      · exact .inr h3
  · rw [hgr] at hg
    obtain ⟨a1, a2, a3, a4⟩ := pe.grants g hg
    refine ⟨⟨hrow _ a1, by rw [hwt]; exact a3, ?_⟩, a2⟩
    have hne : (passN (q.2.turns.length + q.2.row.length) q.2 T.waits).1.held.length ≠ 0 := fun h0 => by
      rw [List.eq_nil_of_length_eq_zero h0] at a4; cases a4
    have : aGet (passT T s q).1.names s = some (q.1, (passN (q.2.turns.length + q.2.row.length) q.2 T.waits).1) := by
      unfold passT
      simp only
      rw [if_neg hne, aGet_aSet, if_pos rfl]
    unfold hasT
    rw [a2, this]; exact a4
theorem outN_not {l : List Int} {x : Int} (h : x ∉ l) : outN l x = l := by
  unfold outN
  exact List.filter_eq_self.2 fun y hy => by simp; exact fun he => h (he ▸ hy)
theorem leaveN_not {n : Nm} {x : Int} (h : x ∉ rowsN n) : leaveN n x = n := by
  unfold rowsN at h
  rw [List.mem_append, not_or] at h
  unfold leaveN
  rw [outN_not h.1, outN_not h.2]
theorem outN_same {l : List Int} {x : Int} (h : (outN l x).length = l.length) : x ∉ l := fun hm => by have := outN_lt hm; omega
theorem leftB_not {n : Nm} {x : Int} (h : leftB n x = false) : x ∉ rowsN n := by
  unfold leftB at h
  have h := of_decide_eq_false h
  have h1 := outN_le n.turns x
  have h2 := outN_le n.row x
  unfold rowsN
  rw [List.mem_append, not_or]
  exact ⟨outN_same (by omega), outN_same (by omega)⟩
end Go.Proofs.YtakifgecgmdjcaaGreat

/- Locks: somebody goes, whole; what is asked for leaves who stands first where it was. -/
namespace Go.Proofs.YtakifgecgmdjcaaGreat
open Go Xf Go.RowKit
set_option linter.unusedVariables false
set_option linter.unusedSimpArgs false
set_option maxRecDepth 100000

theorem preX_of {l : List (List UInt8)} {txn : Int} {T : Tb} {s : List UInt8} {q : Nat × Nm} (h : GoodX (s :: l) txn T) (hs : s ∉ l) (hq : aGet T.names s = some q) (n : Nm) (hn : GoodN T.waits s n) (hr : rowsN n = rowsN (leaveN q.2 txn)) : PreX l txn (putN T s (q.1, n)) s := by
  have vne : ∀ s' n, s' ≠ s → virt (s :: l) txn s' n = virt l txn s' n := fun s' n hne => by
    unfold virt
    by_cases hm : s' ∈ l
    · rw [if_pos hm, if_pos (List.mem_cons_of_mem _ hm)]
    · rw [if_neg hm, if_neg (by simp [hne, hm])]
  have veq : ∀ n, virt l txn s n = n := fun n => by unfold virt; rw [if_neg hs]
  refine ⟨fun s' q' h' => ?_, fun x w hx => ?_, fun s' q' hne h' => ?_⟩
  · rw [putN, aGet_aSet] at h'
    split at h'
    · rename_i he; injection h' with h'; subst h' he
      rw [veq]; exact hn
    · rename_i hne
      rw [← vne s' _ hne]; exact h.nm s' q' h'
  · obtain ⟨q', h1, h2⟩ := h.conv x w hx
    by_cases he : w.name = s
    · rw [he] at h1 h2
      rw [hq] at h1; injection h1 with h1; subst h1
      unfold virt at h2; rw [if_pos (List.mem_cons_self ..)] at h2
      refine ⟨(q.1, n), by rw [putN, aGet_aSet, if_pos he], ?_⟩
      rw [he, veq, hr]; exact h2
    · exact ⟨q', by rw [putN, aGet_aSet, if_neg he]; exact h1, by rw [← vne _ _ he]; exact h2⟩
  · rw [putN, aGet_aSet, if_neg hne] at h'
    exact h.live s' q' h'
theorem goneS_end {S : Int → Prop} {l : List (List UInt8)} {txn : Int} {all : Bool} {T : Tb} {s : List UInt8} {q : Nat × Nm} {B : Nat} (h : EndX S (s :: l) txn all T) (hok : okT T B) (hs : s ∉ l) (hq : aGet T.names s = some q) :
    EndX S l txn all (goneS T s q txn all).1 ∧ ∀ g ∈ (goneS T s q txn all).2, GotX S (goneS T s q txn all).1 g ∧ g.2.name = s := by
  have hN := h.good.nm s q hq
  unfold virt at hN
  rw [if_pos (List.mem_cons_self ..)] at hN
  have hokn := hok.nm s q hq
  have oth : ∀ n : Nm, ∀ s' q', s' ≠ s → aGet (putN T s (q.1, n)).names s' = some q' → (∀ y, (aGet q'.2.held y).isSome = true → S y ∨ (all = true ∧ y = txn ∧ s' ∈ l)) ∧ (StuckN T.waits q'.2 ∨ (s' ∈ l ∧ (txn ∈ rowsN q'.2 ∨ (all = true ∧ (aGet q'.2.held txn).isSome = true)))) := fun n s' q' hne h' => by
    rw [get_putN_ne _ _ hne] at h'
    refine ⟨fun y hy => ?_, ?_⟩
    · rcases h.h s' q' h' y hy with h1 | ⟨h1, h2, h3⟩
      · exact .inl h1
      · exact .inr ⟨h1, h2, (List.mem_cons.1 h3).resolve_left hne⟩
    · rcases h.st s' q' h' with h1 | ⟨h1, h2⟩
      · exact .inl h1
      · exact .inr ⟨(List.mem_cons.1 h1).resolve_left hne, h2⟩
  have gg := goneS_good all h.good hok hs hq
  unfold goneS at gg ⊢
  split
  · rename_i hc
    rw [Bool.and_eq_true] at hc
    refine passT_end (preX_of h.good hs hq { leaveN q.2 txn with held := aDel q.2.held txn } (hN.held_eq hokn.2.2 (not_mem_leave _ _)) rfl) (hok.put hq (q := (q.1, { leaveN q.2 txn with held := aDel q.2.held txn })) (okN.del (n := leaveN q.2 txn) (hokn.leave txn) txn)) hs (get_putN _ _ _) h.w (fun y hy => ?_) (oth _)
    have hy : (aGet (aDel q.2.held txn) y).isSome = true := hy
    rw [aGet_aDel hokn.2.2] at hy
    split at hy
    · cases hy
    · rename_i hne
      exact (h.h s q hq y hy).elim id fun ⟨_, h2, _⟩ => absurd h2 hne
  · rename_i hc
    have hno : all = true → (aGet q.2.held txn).isSome = false := fun ha => by
      rw [ha, Bool.and_true] at hc
      simpa using hc
    have hS : ∀ y, (aGet q.2.held y).isSome = true → S y := fun y hy => (h.h s q hq y hy).elim id fun ⟨h1, h2, _⟩ => by
      rw [h2] at hy; rw [hno h1] at hy; cases hy
    split
    · exact passT_end (preX_of h.good hs hq _ hN rfl) (hok.put hq (q := (q.1, leaveN q.2 txn)) (hokn.leave txn)) hs (get_putN _ _ _) h.w hS (oth _)
    · rename_i hl
      rw [if_neg hc, if_neg hl] at gg
      have hl := leftB_not (by simpa using hl)
      refine ⟨⟨gg, h.w, fun s' q' h' y hy => ?_, fun s' q' h' => ?_⟩, fun g hg => (by cases hg)⟩
      · by_cases he : s' = s
        · subst he
          rw [get_putN] at h'
          injection h' with h'; subst h'
          exact .inl (hS y hy)
        · exact (oth _ s' q' he h').1 y hy
      · by_cases he : s' = s
        · subst he
          rw [get_putN] at h'
          injection h' with h'; subst h'
          rw [leaveN_not hl]
          rcases h.st s' q hq with h1 | ⟨-, h1 | ⟨h1, h2⟩⟩
          · exact .inl h1
          · exact absurd h1 hl
          · rw [hno h1] at h2; cases h2
        · exact (oth _ s' q' he h').2
theorem passN_shrink {y : Int} : ∀ (k : Nat) (n : Nm) (ws : List (Int × Wt)), Keys1 ws → aGet ws y = none → aGet (passN k n ws).2.1 y = none
  | 0, n, ws, _, h => h
  | k + 1, n, ws, hk, h => by
    unfold passN
    split
    · exact h
    · split
      · exact passN_shrink k _ _ hk.del (by rw [aGet_aDel hk]; split; rfl; exact h)
      · exact h
theorem goneS_shrink {T : Tb} {B : Nat} {s : List UInt8} {q : Nat × Nm} {txn : Int} {all : Bool} {y : Int} (hok : okT T B) (h : aGet T.waits y = none) : aGet (goneS T s q txn all).1.waits y = none := by
  unfold goneS
  split
  · exact passN_shrink _ _ _ hok.wkeys h
  · split
    · exact passN_shrink _ _ _ hok.wkeys h
    · exact h
theorem goneL_keep {B : Nat} {txn : Int} {all : Bool} {s : List UInt8} : ∀ (l : List (List UInt8)) (T : Tb), okT T B → s ∉ l → aGet (goneL txn all l T).1.names s = aGet T.names s ∧ ∀ y, aGet T.waits y = none → aGet (goneL txn all l T).1.waits y = none
  | [], T, _, _ => ⟨rfl, fun y h => h⟩
  | s' :: l, T, hok, hn => by
    rw [List.mem_cons, not_or] at hn
    cases hq : aGet T.names s' with
    | none =>
      have e : goneL txn all (s' :: l) T = goneL txn all l T := by conv => lhs; unfold goneL; rw [hq]
      rw [e]
      exact goneL_keep l T hok hn.2
    | some q =>
      rw [goneL_cons hq]
      obtain ⟨h1, -, h3⟩ := goneS_ok txn all hok hq
      obtain ⟨h4, h5⟩ := goneL_keep l _ h1 hn.2
      exact ⟨h4.trans (h3 s hn.1), fun y hy => h5 y (goneS_shrink hok hy)⟩
theorem goneL_end {S : Int → Prop} {B : Nat} {txn : Int} {all : Bool} : ∀ (l : List (List UInt8)) (T : Tb), EndX S l txn all T → okT T B → l.Nodup → EndX S [] txn all (goneL txn all l T).1 ∧ ∀ g ∈ (goneL txn all l T).2, GotX S (goneL txn all l T).1 g
  | [], T, h, _, _ => ⟨h, fun g hg => (by cases hg)⟩
  | s :: l, T, h, hok, hn => by
    rw [List.nodup_cons] at hn
    cases hq : aGet T.names s with
    | none =>
      have e : goneL txn all (s :: l) T = goneL txn all l T := by conv => lhs; unfold goneL; rw [hq]
      rw [e]
      have hne : ∀ s' q', aGet T.names s' = some q' → s' ≠ s := fun s' q' h' he => by rw [he, hq] at h'; cases h'
      have hmem : ∀ s' q', aGet T.names s' = some q' → (s' ∈ s :: l ↔ s' ∈ l) := fun s' q' h' => by simp [hne s' q' h']
      have hv : ∀ s' q' n, aGet T.names s' = some q' → virt (s :: l) txn s' n = virt l txn s' n := fun s' q' n h' => by unfold virt; simp only [hmem s' q' h']
      refine goneL_end l T ⟨⟨fun s' q' h' => by rw [← hv s' q' _ h']; exact h.good.nm s' q' h', fun x w hx => ?_, h.good.live⟩, h.w, fun s' q' h' y hy => by rw [← hmem s' q' h']; exact h.h s' q' h' y hy, fun s' q' h' => by rw [← hmem s' q' h']; exact h.st s' q' h'⟩ hok hn.2
      obtain ⟨q', h1, h2⟩ := h.good.conv x w hx
      exact ⟨q', h1, by rw [← hv _ q' _ h1]; exact h2⟩
    | some q =>
      rw [goneL_cons hq]
      obtain ⟨e1, e2⟩ := goneS_end h hok hn.1 hq
      have hok1 := (goneS_ok txn all hok hq).1
      obtain ⟨e3, e4⟩ := goneL_end l _ e1 hok1 hn.2
      refine ⟨e3, fun g hg => ?_⟩
      rcases List.mem_append.1 hg with hg | hg
      · obtain ⟨⟨a1, a2, a3⟩, a4⟩ := e2 g hg
        obtain ⟨k1, k2⟩ := goneL_keep (txn := txn) (all := all) (s := s) l _ hok1 hn.1
        refine ⟨a1, k2 _ a2, ?_⟩
        rw [a4] at a3 ⊢
        unfold hasT at a3 ⊢
        rw [k1]; exact a3
      · exact e4 g hg
def Stuck (T : Tb) : Prop := ∀ s q, aGet T.names s = some q → StuckN T.waits q.2
theorem goneT_end {T : Tb} {B : Nat} (h : Good T) (hok : okT T B) (hst : Stuck T) (txn : Int) (all : Bool) (S : Int → Prop) (h1 : ∀ y wy, aGet T.waits y = some wy → y ≠ txn → S y) (h2 : ∀ s q, aGet T.names s = some q → ∀ y, (aGet q.2.held y).isSome = true → S y ∨ (all = true ∧ y = txn)) :
    EndX S [] txn all (goneT T txn all).1 ∧ ∀ g ∈ (goneT T txn all).2, GotX S (goneT T txn all).1 g := by
  have hsl : ∀ s q, aGet T.names s = some q → s ∈ sortS (T.names.map (·.1)) := fun s q hq => (sortS_perm _).mem_iff.2 (aGet_key hq)
  refine goneL_end (B := B) _ ⟨T.names, aDel T.waits txn⟩ ⟨⟨fun s q hq => ?_, fun x w hx => ?_, h.live⟩, fun y wy hy => ?_, fun s q hq y hy => ?_, fun s q hq => ?_⟩ ⟨hok.keys, hok.wkeys.del, hok.len, hok.short, hok.nm⟩ ((sortS_perm _).nodup_iff.2 hok.keys)
  · have hN := h.nm s q hq
    rw [virt_nil] at hN
    unfold virt
    rw [if_pos (hsl s q hq)]
    refine ⟨hN.held1, hN.bes, fun y hy => ?_, by rw [rowsN_leave]; exact outN_nodup hN.nodup _, fun y hy => hN.turns y (mem_outN.1 hy).1, fun y hy => hN.row y (mem_outN.1 hy).1⟩
    rw [rowsN_leave, mem_outN] at hy
    obtain ⟨w, e1, e2, e3⟩ := hN.rows y hy.1
    exact ⟨w, by show aGet (aDel T.waits txn) y = some w; rw [aGet_aDel hok.wkeys, if_neg hy.2]; exact e1, e2, e3⟩
  · have hx : aGet (aDel T.waits txn) x = some w := hx
    rw [aGet_aDel hok.wkeys] at hx
    split at hx
    · cases hx
    · rename_i hne
      obtain ⟨q, h1, h2⟩ := h.conv x w hx
      rw [virt_nil] at h2
      refine ⟨q, h1, ?_⟩
      unfold virt
      rw [if_pos (hsl _ q h1), rowsN_leave, mem_outN]
      exact ⟨h2, hne⟩
  · have hy : aGet (aDel T.waits txn) y = some wy := hy
    rw [aGet_aDel hok.wkeys] at hy
    split at hy
    · cases hy
    · rename_i hne
      exact h1 y wy hy hne
  · exact (h2 s q hq y hy).imp id fun ⟨a, b⟩ => ⟨a, b, hsl s q hq⟩
  · by_cases hm : txn ∈ rowsN q.2
    · exact .inr ⟨hsl s q hq, .inl hm⟩
    · refine .inl ((hst s q hq).ws fun hx => ?_)
      show aGet (aDel T.waits txn) (firstN q.2) = _
      rw [aGet_aDel hok.wkeys, if_neg]
      exact fun he => hm (he ▸ List.mem_append.2 (firstN_mem hx))
theorem EndX.stuck {S : Int → Prop} {txn : Int} {all : Bool} {T : Tb} (h : EndX S [] txn all T) : Stuck T := fun s q hq => (h.st s q hq).elim id fun ⟨h1, _⟩ => (by cases h1)
theorem EndX.txk {S : Int → Prop} {txn : Int} {all : Bool} {T : Tb} (h : EndX S [] txn all T) (hk : Keys1 T.names) {y : Int} (hy : TxK T y) : S y := by
  rcases hy with hy | ⟨p, hp, hy⟩
  · obtain ⟨w, hw⟩ := key_get hy
    exact h.w y w hw
  · exact (h.h p.1 p.2 (mem_names hk hp) y (aGet_keys.2 hy)).elim id fun ⟨_, _, h1⟩ => (by cases h1)
theorem txk_waits {T : Tb} {y : Int} {wy : Wt} (h : aGet T.waits y = some wy) : TxK T y := .inl (aGet_key h)
theorem txk_held {T : Tb} {s : List UInt8} {q : Nat × Nm} {y : Int} (h : aGet T.names s = some q) (hy : (aGet q.2.held y).isSome = true) : TxK T y := .inr ⟨(s, q), aGet_mem h, aGet_keys.1 hy⟩
/-- who frees, goes wholly -/
theorem free_end {T : Tb} {B : Nat} (h : Fine T B) (hst : Stuck T) (txn : Int) :
    Fine (goneT T txn true).1 B ∧ Stuck (goneT T txn true).1 ∧ (∀ y, TxK (goneT T txn true).1 y → TxK T y ∧ y ≠ txn) ∧ ∀ g ∈ (goneT T txn true).2, g.1 ≠ txn ∧ aGet (goneT T txn true).1.waits g.1 = none ∧ (hasT (goneT T txn true).1 g.1 g.2.name).isSome = true := by
  obtain ⟨e1, e2⟩ := goneT_end h.good h.ok hst txn true (fun y => TxK T y ∧ y ≠ txn) (fun y wy hy hne => ⟨txk_waits hy, hne⟩) fun s q hq y hy => by
    by_cases he : y = txn
    · exact .inr ⟨rfl, he⟩
    · exact .inl ⟨txk_held hq hy, he⟩
  have hf : Fine (goneT T txn true).1 B := ⟨goneT_ok txn true h.ok, goneT_sz txn true h.sz h.ok, goneT_good h.good h.ok txn true⟩
  exact ⟨hf, e1.stuck, fun y hy => e1.txk hf.ok.keys hy, fun g hg => ⟨(e2 g hg).1.2, (e2 g hg).2⟩⟩
theorem gone_txk {T : Tb} {B : Nat} (h : Good T) (hok : okT T B) (hst : Stuck T) (txn : Int) (all : Bool) : Stuck (goneT T txn all).1 ∧ ∀ y, TxK (goneT T txn all).1 y → TxK T y := by
  obtain ⟨e1, e2⟩ := goneT_end h hok hst txn all (fun y => TxK T y) (fun y wy hy hne => txk_waits hy) fun s q hq y hy => .inl (txk_held hq hy)
  exact ⟨e1.stuck, fun y hy => e1.txk (goneT_ok txn all hok).keys hy⟩
end Go.Proofs.YtakifgecgmdjcaaGreat

/- Locks: rings where all wait. -/
namespace Go.Proofs.YtakifgecgmdjcaaGreat
open Go Xf Go.RowKit
set_option linter.unusedVariables false
set_option linter.unusedSimpArgs false
set_option maxRecDepth 100000

theorem bes_less {i j k : Nat} (hi : i < 6) (hj : j < 6) (hk : k < 6) (h : bes (joi i j) k = true) : bes i k = true := by
  have := all3 (p := fun i j k => !bes (joi i j) k || bes i k) (by decide +kernel) hi hj hk
  rw [h] at this
  simpa using this
theorem goesB_of {n : Nm} {x m : Int} (hk : Keys1 n.held) (h : ∀ y my, aGet n.held y = some my → y ≠ x → bes (sureN my) (sureN m) = true) : goesB n x m = true := by
  unfold goesB
  rw [List.all_eq_true]
  intro p hp
  by_cases he : p.1 = x
  · rw [decide_eq_true he]; rfl
  · rw [decide_eq_false he, h p.1 p.2 (aGet_of_mem hk hp) he]; rfl
theorem askT_stuck {T : Tb} {B : Nat} (h : Good T) (hok : okT T B) (hst : Stuck T) (new : Nat) (txn : Int) (v : Wt) : Stuck (askT T new txn v).1 := by
  unfold askT
  split
  rotate_left
  · exact hst
  split
  · exact hst
  rename_i hnw
  have hnw : aGet T.waits txn = none := by
    cases hh : aGet T.waits txn with
    | none => rfl
    | some x => rw [hh] at hnw; simp at hnw
  show Stuck (askAt T ((aGet T.names v.name).getD (new, noNm)) txn v).1
  have hq : GoodN T.waits v.name ((aGet T.names v.name).getD (new, noNm)).2 ∧ StuckN T.waits ((aGet T.names v.name).getD (new, noNm)).2 ∧ Keys1 ((aGet T.names v.name).getD (new, noNm)).2.held := by
    cases hg : aGet T.names v.name with
    | none => exact ⟨noNm_good _ _, fun h => absurd rfl h, List.nodup_nil⟩
    | some q => exact ⟨h.nm' hg, hst _ _ hg, (hok.nm _ _ hg).2.2⟩
  generalize (aGet T.names v.name).getD (new, noNm) = q at hq
  obtain ⟨hN, hS, hK⟩ := hq
  have hfx : firstN q.2 ≠ 0 → firstN q.2 ≠ txn ∧ firstN q.2 ∈ rowsN q.2 := fun hx => by
    have hm : firstN q.2 ∈ rowsN q.2 := List.mem_append.2 (firstN_mem hx)
    refine ⟨fun he => ?_, hm⟩
    obtain ⟨w, e1, -⟩ := hN.rows _ hm
    rw [he, hnw] at e1; cases e1
  unfold askAt
  split
  · intro s q' h'
    rw [putN, aGet_aSet] at h'
    split at h'
    · injection h' with h'; subst h'; exact hS
    · exact hst s q' h'
  · split
    · rename_i hg
      unfold getsB at hg
      rw [Bool.and_eq_true] at hg
      intro s q' h'
      rw [putN, aGet_aSet] at h'
      split at h'
      rotate_left
      · exact hst s q' h'
      injection h' with h'; subst h'
      intro hx
      have hx : firstN q.2 ≠ 0 := hx
      obtain ⟨hne, hm⟩ := hfx hx
      have hold := hS hx
      have hf : firstN (giveN q.2 txn v.mode) = firstN q.2 := rfl
      show goesB (giveN q.2 txn v.mode) (firstN q.2) (wouldN (giveN q.2 txn v.mode) (firstN q.2) ((aGet T.waits (firstN q.2)).getD ⟨[], 0⟩).mode) = false
      have hwo : ∀ m, wouldN (giveN q.2 txn v.mode) (firstN q.2) m = wouldN q.2 (firstN q.2) m := fun m => by
        unfold wouldN giveN
        rw [aGet_aSet, if_neg hne]
      rw [hwo]
      cases hgo : goesB (giveN q.2 txn v.mode) (firstN q.2) (wouldN q.2 (firstN q.2) ((aGet T.waits (firstN q.2)).getD ⟨[], 0⟩).mode) with
      | false => rfl
      | true =>
        rw [← hold]
        refine (goesB_of hK fun y my hy hyx => ?_).symm
        by_cases he : y = txn
        · subst he
          have := goesB_mem hgo (y := y) (my := wouldN q.2 y v.mode) (by unfold giveN; rw [aGet_aSet, if_pos rfl]) hyx
          unfold wouldN at this
          rw [sureN_of (joi_lt (sureN_lt _) (sureN_lt _)), hy, Option.getD_some] at this
          exact bes_less (sureN_lt _) (sureN_lt _) (sureN_lt _) this
        · exact goesB_mem hgo (by unfold giveN; rw [aGet_aSet, if_neg he]; exact hy) hyx
    · rename_i hg
      have hg : getsB q.2 txn v.mode = false := by simpa using hg
      intro s q' h'
      have h' : aGet (aSet T.names v.name (q.1, queueN q.2 txn)) s = some q' := h'
      show StuckN (aSet T.waits txn v) q'.2
      rw [aGet_aSet] at h'
      split at h'
      rotate_left
      · refine (hst s q' h').ws fun hx => ?_
        rw [aGet_aSet, if_neg]
        intro he
        obtain ⟨w, e1, -⟩ := (h.nm' h').rows _ (List.mem_append.2 (firstN_mem hx))
        rw [he, hnw] at e1; cases e1
      injection h' with h'; subst h'
      show StuckN (aSet T.waits txn v) (queueN q.2 txn)
      have hqh : (queueN q.2 txn).held = q.2.held := by unfold queueN; split <;> rfl
      have hgo : ∀ x m, goesB (queueN q.2 txn) x m = goesB q.2 x m := fun x m => by unfold goesB; rw [hqh]
      have hwo : ∀ x m, wouldN (queueN q.2 txn) x m = wouldN q.2 x m := fun x m => by unfold wouldN; rw [hqh]
      have hfirst : (firstN (queueN q.2 txn) = firstN q.2 ∧ firstN q.2 ≠ 0) ∨ (firstN (queueN q.2 txn) = txn ∧ goesB q.2 txn (wouldN q.2 txn v.mode) = false) := by
        unfold queueN
        unfold getsB at hg
        by_cases his : (aGet q.2.held txn).isSome = true
        · rw [if_pos his]
          rw [his, Bool.true_or, Bool.and_true] at hg
          unfold firstN
          cases ht : q.2.turns with
          | nil => exact .inr ⟨rfl, hg⟩
          | cons x l =>
            refine .inl ⟨rfl, ?_⟩
            obtain ⟨w, -, -, e3, -⟩ := hN.rows x (by unfold rowsN; rw [ht]; simp)
            show x ≠ 0
            omega
        · rw [if_neg his]
          have his : (aGet q.2.held txn).isSome = false := by simpa using his
          rw [his, Bool.false_or] at hg
          unfold firstN
          cases ht : q.2.turns with
          | cons x l =>
            refine .inl ⟨rfl, ?_⟩
            obtain ⟨w, -, -, e3, -⟩ := hN.rows x (by unfold rowsN; rw [ht]; simp)
            show x ≠ 0
            omega
          | nil =>
            cases hr : q.2.row with
            | cons x l =>
              refine .inl ⟨rfl, ?_⟩
              obtain ⟨w, -, -, e3, -⟩ := hN.rows x (by unfold rowsN; rw [hr]; simp)
              show x ≠ 0
              omega
            | nil =>
              refine .inr ⟨rfl, ?_⟩
              rw [ht, hr] at hg
              simpa using hg
      intro hx
      rw [hgo, hwo]
      rcases hfirst with ⟨h1, h2⟩ | ⟨h1, h2⟩
      · rw [h1, aGet_aSet, if_neg (hfx h2).1]
        exact hS h2
      · rw [h1, aGet_aSet, if_pos rfl]
        exact h2
theorem askT_txk {T : Tb} (new : Nat) (txn : Int) (v : Wt) {y : Int} (hk : Keys1 (askT T new txn v).1.names) (h : TxK (askT T new txn v).1 y) : TxK T y ∨ y = txn := by
  have key : (∀ w, aGet (askT T new txn v).1.waits y = some w → TxK T y ∨ y = txn) ∧ ∀ s q, aGet (askT T new txn v).1.names s = some q → (aGet q.2.held y).isSome = true → TxK T y ∨ y = txn := by
    have old : (∀ w, aGet T.waits y = some w → TxK T y ∨ y = txn) ∧ ∀ s q, aGet T.names s = some q → (aGet q.2.held y).isSome = true → TxK T y ∨ y = txn := ⟨fun w hw => .inl (txk_waits hw), fun s q hq hy => .inl (txk_held hq hy)⟩
    have hqq : (aGet ((aGet T.names v.name).getD (new, noNm)).2.held y).isSome = true → TxK T y ∨ y = txn := by
      cases hg : aGet T.names v.name with
      | none => intro h; cases h
      | some q => exact fun hy => .inl (txk_held hg hy)
    unfold askT
    split
    rotate_left
    · exact old
    split
    · exact old
    show (∀ w, aGet (askAt T ((aGet T.names v.name).getD (new, noNm)) txn v).1.waits y = some w → _) ∧ ∀ s q, aGet (askAt T ((aGet T.names v.name).getD (new, noNm)) txn v).1.names s = some q → _
    generalize (aGet T.names v.name).getD (new, noNm) = q at hqq
    have put : ∀ n : Nm, ((aGet n.held y).isSome = true → TxK T y ∨ y = txn) → ∀ s q', aGet (aSet T.names v.name (q.1, n)) s = some q' → (aGet q'.2.held y).isSome = true → TxK T y ∨ y = txn := fun n hn s q' h' hy => by
      rw [aGet_aSet] at h'
      split at h'
      · injection h' with h'; subst h'; exact hn hy
      · exact old.2 s q' h' hy
    unfold askAt
    split
    · exact ⟨old.1, put q.2 hqq⟩
    · split
      · refine ⟨old.1, put (giveN q.2 txn v.mode) fun hy => ?_⟩
        rcases isSome_aSet.1 hy with h1 | h1
        · exact .inr h1
        · exact hqq h1
      · refine ⟨fun w hw => ?_, put (queueN q.2 txn) fun hy => hqq ?_⟩
        · have hw : aGet (aSet T.waits txn v) y = some w := hw
          rw [aGet_aSet] at hw
          split at hw
          · rename_i he; exact .inr he
          · exact old.1 w hw
        · have hqh : (queueN q.2 txn).held = q.2.held := by unfold queueN; split <;> rfl
          rw [← hqh]; exact hy
  rcases h with hy | ⟨p, hp, hy⟩
  · obtain ⟨w, hw⟩ := key_get hy
    exact key.1 w hw
  · exact key.2 p.1 p.2 (mem_names hk hp) (aGet_keys.2 hy)
theorem Reach.end_ {l : List LOp} {T : Tb} (h : Reach l T) (hl : ∀ o ∈ l, okO o) : Stuck T ∧ ∃ M : List Int, M.length ≤ l.length ∧ ∀ x, TxK T x → x ∈ M := by
  induction h with
  | nil => exact ⟨fun s q h => (by cases h), [], Nat.le_refl _, fun x hx => by
      rcases hx with hx | ⟨p, hp, _⟩
      · cases hx
      · cases hp⟩
  | @snoc l T new o hr ih =>
    have hl' : ∀ o ∈ l, okO o := fun o ho => hl o (List.mem_append_left _ ho)
    obtain ⟨hst, M, hM, hMx⟩ := ih hl'
    have hg := hr.good hl'
    suffices hh : Stuck (stepS T new o) ∧ ∀ x, TxK (stepS T new o) x → TxK T x ∨ x = o.txn by
      refine ⟨hh.1, M ++ [o.txn], by rw [List.length_append, List.length_append]; simpa using hM, fun x hx => ?_⟩
      rw [List.mem_append, List.mem_singleton]
      exact (hh.2 x hx).imp (hMx x) id
    unfold stepS
    split
    rotate_left
    · exact ⟨hst, fun x hx => .inl hx⟩
    unfold stepT
    split
    · exact ⟨askT_stuck hg hr.ok hst _ _ _, fun x hx => askT_txk _ _ _ (askT_ok new _ _ hr.ok).keys hx⟩
    · split
      · obtain ⟨a, b⟩ := gone_txk hg hr.ok hst o.txn true
        exact ⟨a, fun x hx => .inl (b x hx)⟩
      · split
        · obtain ⟨a, b⟩ := gone_txk hg hr.ok hst o.txn false
          exact ⟨a, fun x hx => .inl (b x hx)⟩
        · exact ⟨hst, fun x hx => .inl hx⟩
/-- who waits, waits for somebody -/
theorem wait_edge {T : Tb} {B : Nat} (h : Fine T B) (hst : Stuck T) {x : Int} {w : Wt} (hx : aGet T.waits x = some w) : ∃ y, EdgeT T (x, y) ∧ TxK T y := by
  obtain ⟨q, h1, h2, h3⟩ := h.good.wait hx
  have hN := h.good.nm' h1
  have hx0 : firstN q.2 ≠ 0 := fun h0 => by
    unfold firstN at h0
    unfold rowsN at h2
    cases ht : q.2.turns with
    | cons z l =>
      rw [ht] at h0
      obtain ⟨w, -, -, e3, -⟩ := hN.rows z (by unfold rowsN; rw [ht]; simp)
      have h0 : z = 0 := h0
      omega
    | nil =>
      cases hr : q.2.row with
      | cons z l =>
        rw [ht, hr] at h0
        obtain ⟨w, -, -, e3, -⟩ := hN.rows z (by unfold rowsN; rw [hr]; simp)
        have h0 : z = 0 := h0
        omega
      | nil => rw [ht, hr] at h2; cases h2
  obtain ⟨l, hl⟩ := firstN_rows hx0
  by_cases he : x = firstN q.2
  · have hs := hst _ _ h1 hx0
    rw [← he] at hs
    have : ∃ p ∈ q.2.held, heldE q.2 (wouldN q.2 x (wantOf T.waits x)) x p = true := by
      rcases Classical.em (∃ p ∈ q.2.held, heldE q.2 (wouldN q.2 x (wantOf T.waits x)) x p = true) with h | h
      · exact h
      · exfalso
        have hs : goesB q.2 x (wouldN q.2 x (wantOf T.waits x)) = false := hs
        have ht : goesB q.2 x (wouldN q.2 x (wantOf T.waits x)) = true := by
          unfold goesB
          rw [List.all_eq_true]
          intro p hp
          cases hh : heldE q.2 (wouldN q.2 x (wantOf T.waits x)) x p with
          | true => exact absurd ⟨p, hp, hh⟩ h
          | false =>
            unfold heldE at hh
            by_cases hpx : p.1 = x
            · rw [decide_eq_true hpx]; rfl
            · rw [decide_eq_true hpx, Bool.true_and] at hh
              have : bes (sureN p.2) (sureN (wouldN q.2 x (wantOf T.waits x))) = true := by simpa using hh
              rw [this, Bool.or_true]
        rw [ht] at hs; cases hs
    obtain ⟨p, hp, hh⟩ := this
    exact ⟨p.1, ⟨(w.name, q), aGet_mem h1, 0, by rw [hl, ← he]; rfl, .inl ⟨p, hp, rfl, hh⟩⟩, .inr ⟨(w.name, q), aGet_mem h1, List.mem_map_of_mem (f := (·.1)) hp⟩⟩
  · obtain ⟨i, hi⟩ := List.getElem?_of_mem h2
    have hi0 : i ≠ 0 := fun h0 => by
      subst h0
      rw [hl] at hi
      injection hi with hi
      exact he hi.symm
    obtain ⟨w', e1, -⟩ := hN.rows (firstN q.2) (by rw [hl]; exact List.mem_cons_self ..)
    refine ⟨firstN q.2, ⟨(w.name, q), aGet_mem h1, i, hi, .inr ?_⟩, txk_waits e1⟩
    show firstN q.2 ∈ (rowsN q.2).take i
    rw [hl]
    obtain ⟨j, rfl⟩ : ∃ j, i = j + 1 := ⟨i - 1, by omega⟩
    rw [List.take_succ_cons]
    exact List.mem_cons_self ..
theorem edge_txk {T : Tb} {B : Nat} (h : Fine T B) {e : Ed} (he : EdgeT T e) : TxK T e.1 := by
  obtain ⟨p, hp, i, hi, -⟩ := he
  obtain ⟨w, e1, -⟩ := (h.good.nm' (mem_names h.ok.keys hp)).rows _ (List.mem_of_getElem? hi)
  exact txk_waits e1
theorem max_exists {R : Int → Int → Prop} (htr : ∀ a b c, R a b → R b c → R a c) : ∀ (L : List Int), L ≠ [] → (∀ x ∈ L, ¬ R x x) → ∃ x ∈ L, ∀ y ∈ L, ¬ R x y
  | [], h, _ => absurd rfl h
  | a :: t, _, hir => by
    cases t with
    | nil =>
      refine ⟨a, List.mem_cons_self .., fun y hy => ?_⟩
      rw [List.mem_singleton] at hy
      subst hy
      exact hir _ (List.mem_cons_self ..)
    | cons b t =>
      obtain ⟨x, hx, hm⟩ := max_exists htr (b :: t) (by simp) fun x hx => hir x (List.mem_cons_of_mem _ hx)
      rcases Classical.em (R x a) with h | h
      · refine ⟨a, List.mem_cons_self .., fun y hy hr => ?_⟩
        rcases List.mem_cons.1 hy with rfl | hy
        · exact hir _ (List.mem_cons_self ..) hr
        · exact hm y hy (htr _ _ _ h hr)
      · refine ⟨x, List.mem_cons_of_mem _ hx, fun y hy hr => ?_⟩
        rcases List.mem_cons.1 hy with rfl | hy
        · exact h hr
        · exact hm y hy hr
theorem ring_exists {E : List Ed} {L : List Int} (hne : L ≠ []) (h : ∀ x ∈ L, ∃ y ∈ L, (x, y) ∈ E) : ∃ x ∈ L, Path E x x := by
  rcases Classical.em (∃ x ∈ L, Path E x x) with h1 | h1
  · exact h1
  · obtain ⟨x, hx, hm⟩ := max_exists (R := Path E) (fun a b c => Path.trans) L hne fun x hx hp => h1 ⟨x, hx, hp⟩
    obtain ⟨y, hy, he⟩ := h x hx
    exact absurd (.one he) (hm y hy)
end Go.Proofs.YtakifgecgmdjcaaGreat

/- Locks: LockEnds, its pieces. -/
namespace Go.Proofs.YtakifgecgmdjcaaGreat
open Go Xf Go.RowKit
set_option linter.unusedVariables false
set_option linter.unusedSimpArgs false
set_option maxRecDepth 100000

theorem goneL_len {B : Nat} (txn : Int) (all : Bool) : ∀ (l : List (List UInt8)) (T : Tb), okT T B → (goneL txn all l T).2.length ≤ l.length * (2 * B)
  | [], T, h => Nat.zero_le _
  | s :: l, T, h => by
    cases hq : aGet T.names s with
    | none =>
      have e : goneL txn all (s :: l) T = goneL txn all l T := by conv => lhs; unfold goneL; rw [hq]
      rw [e, List.length_cons, Nat.succ_mul]
      have := goneL_len txn all l T h
      omega
    | some q =>
      rw [goneL_cons hq]
      obtain ⟨h1, h2, -⟩ := goneS_ok txn all h hq
      have := goneL_len txn all l _ h1
      show ((goneS T s q txn all).2 ++ (goneL txn all l (goneS T s q txn all).1).2).length ≤ _
      rw [List.length_append, List.length_cons, Nat.succ_mul]
      omega
theorem goneT_len {T : Tb} {B : Nat} (txn : Int) (all : Bool) (h : okT T B) : (goneT T txn all).2.length ≤ B * (2 * B) := by
  have h1 := goneL_len (B := B) txn all (sortS (T.names.map (·.1))) ⟨T.names, aDel T.waits txn⟩ ⟨h.keys, h.wkeys.del, h.len, h.short, h.nm⟩
  have h2 : (sortS (T.names.map (·.1))).length ≤ B := by rw [(sortS_perm _).length_eq, List.length_map]; exact h.len
  exact Nat.le_trans h1 (Nat.mul_le_mul_right _ h2)
section
variable {w : World}
theorem Has_spec {v : Value} {l : List Int} (h : Rd w 1 v l.length (intsV .i64 l)) (hl : l.length ≤ 1000000000) (x : Int) :
    CallsR Tryz.prog 20 #[v, .int .i64 x] w fun u w' => u = .bool (decide (x ∈ l)) ∧ w' = w := by
  apply flotillaref12_Has_sound
  unfold flotillaref12_Has_x flotillaref12_Has_k1
  obtain ⟨A1, c1, rfl, -⟩ := id h
  refine st_loop (fun vs w' => ∃ i : Nat, i ≤ l.length ∧ vs.getD 1 undef = .int .i64 i ∧ w' = w ∧ x ∉ l.take i) (fun vs _ => l.length - (intOf (vs.getD 1 undef)).toNat) ⟨0, Nat.zero_le _, rfl, rfl, by simp⟩ ?_
  rintro dv vs w1 - ⟨i, hi, e1, rfl, hno⟩
  simp (disch := first | assumption | omega) only [e1, PX, BX]
  refine ⟨fun hlt => ?_, fun hge => ?_⟩
  rotate_left
  · obtain rfl : i = l.length := by omega
    rw [List.take_length] at hno
    rw [decide_eq_false hno]
    exact ⟨rfl, trivial⟩
  have hi' : i < l.length := by omega
  obtain ⟨a1, c1', q1, hc⟩ := int_at h hi'
  injection q1 with q1; subst q1
  simp (disch := first | assumption | omega) only [PX, BX, LX, Nat.mul_one]
  refine ⟨fun he => ?_, fun he => ?_⟩
  · rw [decide_eq_true (by rw [← he]; exact List.getElem_mem hi')]
    exact ⟨rfl, trivial⟩
  · simp (disch := omega) only [PX, w64]
    refine ⟨⟨i + 1, by omega, rfl, trivial, fun hm => ?_⟩, ?_⟩
    · rw [List.take_succ_eq_append_getElem hi'] at hm
      rcases List.mem_append.1 hm with hm | hm
      · exact hno hm
      · rw [List.mem_singleton] at hm; exact he hm.symm
    · simp only [List.getD_cons_succ, List.getD_cons_zero, intOf]; omega
theorem gr_at {v : Value} {l : List Gr} {i : Nat} (hr : RdS w grV 3 v l) (hi : i < l.length) : ∃ a c, v = .slice (some a) l.length c ∧ ∀ w', Upd w w' [] → w'.cell? (a.add (i * 3 + 0)) = some (.int .i64 l[i].1) ∧ w'.cell? (a.add (i * 3 + 1)) = some (strV l[i].2.name) ∧ w'.cell? (a.add (i * 3 + 2)) = some (.int .i64 l[i].2.mode) := by
  obtain ⟨A, c, rfl, hm, hrd⟩ := hr
  obtain ⟨a, rfl, hx⟩ := Rd.row (f := grV) (k := 3) (fun _ => rfl) (by omega) hrd hi
  have e : ((i : Nat) : Int).toNat = i := by omega
  rw [e] at hx
  exact ⟨a, c, rfl, fun w' hU => ⟨hx w' hU 0 _ rfl, hx w' hU 1 _ rfl, hx w' hU 2 _ rfl⟩⟩
variable {W w' : World} {ks : List Nat} {F : List (Nat × Obj)} {T : Tb} {g : Nat}
theorem TbAt.rdGr {l : List Gr} {v : Value} {hl : List (Nat × Obj)} (hr : RowH 53 3 v l.length (grsV l) hl) (h : TbAt W ks F T g w) (hs : ∀ p ∈ hl, p ∈ F) (hlen : l.length ≤ 1000000000) : RdS w grV 3 v l := by
  obtain ⟨A, c, rfl⟩ := RowH.sl' hr
  exact ⟨A, c, rfl, Nat.le_trans hlen (by decide), hr.rd (F := []) ⟨by rw [List.append_nil]; rcases hr.2 with ⟨_, _, rfl⟩ | ⟨g', _, _, _, rfl, _⟩ <;> simp, fun p hp => h.owns.2 p (hs p (by simpa using hp))⟩⟩
theorem Path.first {E : List Ed} {a b : Int} (h : Path E a b) : ∃ c, (a, c) ∈ E := by
  induction h with
  | one h => exact ⟨_, h⟩
  | more _ _ ih => exact ih
theorem Ends_k5 {t : Nat} {who : Int} {v27 u6 u7 u2 : Value} {vs : List Value} {again : List Value → World → Prop} {Q : Value → World → Prop} (hT : TbAt W [] F T g w) (hfine : Fine T 60) (hno : ¬ TxK T who) (ht : vs.getD 4 undef = .int .i64 (t : Nat)) (ht6 : t ≤ 60)
    (hk : ∀ w', TbAt W [] F T g w' → again [v27, u6, u7, u2, .int .i64 ((t + 1 : Nat) : Int)] w') : flotillalaw13_LockEnds_k5 (std Tryz.prog) (.pointer (some ⟨g, 0, none⟩)) vs again v27 u6 u7 (.int .i64 who) u2 w Q := by
  unfold flotillalaw13_LockEnds_k5
  refine st_call (Txns_spec hT hfine (by omega)) ?_
  rintro v1 w1 ⟨L, ⟨hL, hrL, hT1, -⟩, hlt, hmem, hLl⟩
  refine st_call (Has_spec (hT1.rdI hrL fun p hp => List.mem_append_left _ hp) (by omega) who) ?_
  rintro _ w2 ⟨rfl, rfl⟩
  rw [decide_eq_false (fun h => hno ((hmem who).1 h))]
  simp (disch := first | assumption | omega) only [ht, PX, BX, w64]
  exact hk w2 (hT1.weak (List.sublist_append_right _ _))
theorem Ends_k4 {t : Nat} {who : Int} {v27 u6 u7 u2 : Value} {vs : List Value} {again : List Value → World → Prop} {Q : Value → World → Prop} (hT : TbAt W [] F T g w) (hfine : Fine T 60) (hst : Stuck T) (ht : vs.getD 4 undef = .int .i64 (t : Nat)) (ht6 : t ≤ 60)
    (hk : ∀ T' w' u2', Fine T' 60 → Stuck T' → (∀ y, TxK T' y → TxK T y ∧ y ≠ who) → TbAt W [] F T' g w' → again [v27, u6, u7, u2', .int .i64 ((t + 1 : Nat) : Int)] w') : flotillalaw13_LockEnds_k4 (std Tryz.prog) (.pointer (some ⟨g, 0, none⟩)) vs again v27 u6 u7 u2 (.int .i64 who) w Q := by
  unfold flotillalaw13_LockEnds_k4
  refine st_call (Free_spec hT hfine.ok (by omega) who) ?_
  obtain ⟨f1, f2, f3, f4⟩ := free_end hfine hst who
  have hglen : (goneT T who true).2.length ≤ 1000000 := Nat.le_trans (goneT_len who true hfine.ok) (by decide)
  generalize goneT T who true = r at f1 f2 f3 f4 hglen
  obtain ⟨T', gs⟩ := r
  rintro v82 w1 ⟨hl, hr, hT1, -⟩
  simp only at f1 f2 f3 f4 hr hT1 hglen
  obtain ⟨A, c, rfl⟩ := RowH.sl' hr
  refine st_loop (fun vs w' => ∃ i : Nat, i ≤ gs.length ∧ vs.getD 1 undef = .int .i64 i ∧ TbAt W [] (hl ++ F) T' g w') (fun vs _ => gs.length - (intOf (vs.getD 1 undef)).toNat) ⟨0, Nat.zero_le _, rfl, hT1⟩ ?_
  rintro dv vs2 w2 - ⟨i, hi, e1, hT2⟩
  simp (disch := first | assumption | omega) only [e1, PX, BX]
  refine ⟨fun hlti => ?_, fun hge => ?_⟩
  rotate_left
  · exact Ends_k5 (hT2.weak (List.sublist_append_right _ _)) f1 (fun h => (f3 _ h).2 rfl) ht ht6 fun w' h => hk T' w' _ f1 f2 f3 h
  have hi' : i < gs.length := by omega
  obtain ⟨b1, b2, b3⟩ := f4 gs[i] (List.getElem_mem hi')
  obtain ⟨a, c', q1, hc⟩ := gr_at (hT2.rdGr hr (fun p hp => List.mem_append_left _ hp) (by omega)) hi'
  injection q1 with q1; subst q1
  have k0 := (hc w2 (Upd.refl w2 [])).1
  simp (disch := first | assumption | omega) only [PX, LX, add_add']
  refine st_call (Waits_spec hT2 gs[i].1) ?_
  rintro _ w3 ⟨rfl, hT3⟩
  simp (disch := first | assumption | omega) only [PX]
  rw [b2]
  refine st_talloc ze_want hT3 ?_
  intro b9 w4 hT4 hb9
  refine st_tstoreN (vs := [strV [], .int .i64 0]) (by rw [sz31]; rfl) hT4 rfl (by simp [Value.oneCell']) (.inr hb9) ?_
  intro w5 hT5
  have hT5 := hT5.weak (List.sublist_cons_self ..)
  have hTd := hT5.upd (Upd.drew w5 [])
  obtain ⟨a', c'', q2, hc2⟩ := gr_at (hTd.rdGr hr (fun p hp => List.mem_append_left _ hp) (by omega)) hi'
  injection q2 with q2; injection q2 with q2; subst q2
  have hne : ∃ w', (fun w' => Upd w5.drew w' []) w' := ⟨_, Upd.refl _ _⟩
  refine st_draw (fun w' => Upd w5.drew w' []) (Upd.refl _ _) ?_
  have g0 : ∀ w', Upd w5.drew w' [] → w'.cell? (a.add (i * 3 + 0)) = some (.int .i64 gs[i].1) := fun w' h => (hc2 w' h).1
  have g1 : ∀ w', Upd w5.drew w' [] → w'.cell? (a.add (i * 3 + 1 + 0)) = some (strV gs[i].2.name) := fun w' h => (hc2 w' h).2.1
  simp (disch := first | exact hne | assumption | omega) only [SX, SLX, add_add', mk_inj]
  rw [bool_dec]
  refine ⟨fun h => absurd h b1, fun _ => ?_⟩
  simp only [Option.isSome_none, BX]
  refine st_call (has_spec hTd f1.ok (by omega) gs[i].1 gs[i].2.name) ?_
  rintro _ w6 ⟨rfl, hT6⟩
  rw [b3]
  have hne2 : ∃ w', (fun _ : World => True) w' := ⟨w6, trivial⟩
  refine st_keepT (fun _ => True) trivial ?_
  simp (disch := first | exact hne2 | assumption | omega) only [SX]
  simp (disch := first | assumption | omega) only [e1, PX, BX, w64, Bool.not_true]
  refine ⟨⟨i + 1, by omega, rfl, hT6⟩, ?_⟩
  simp only [List.getD_cons_succ, List.getD_cons_zero, intOf]; omega
end
end Go.Proofs.YtakifgecgmdjcaaGreat

/- Locks: LockEnds. -/
namespace Go.Proofs.YtakifgecgmdjcaaGreat
open Go Xf Go.RowKit
set_option linter.unusedVariables false
set_option linter.unusedSimpArgs false
set_option maxRecDepth 100000

section
variable {W w w' : World} {F : List (Nat × Obj)} {T : Tb} {g : Nat}
/-- what the loop over all tells -/
structure EndsIn (T : Tb) (L : List Int) (i : Nat) (vic fr : Int) : Prop where
  hvic : vic = 0 ∨ TxK T vic
  hfr : fr = 0 ∨ TxK T fr
  ex : i = 0 ∨ ∃ E : List Ed, ∀ e, e ∈ E ↔ EdgeT T e
  novic : vic = 0 → ∀ x ∈ L.take i, ∀ E : List Ed, (∀ e, e ∈ E ↔ EdgeT T e) → ¬ Path E x x
  nofr : fr = 0 → ∀ x ∈ L.take i, (aGet T.waits x).isSome = true
theorem EndsIn.who {B : Nat} {L : List Int} {vic fr : Int} (h : EndsIn T L L.length vic fr) (hf : Fine T B) (hst : Stuck T) (hL : L ≠ []) (hm : ∀ x, x ∈ L ↔ TxK T x) : ¬ (vic = 0 ∧ fr = 0) := by
  rintro ⟨h1, h2⟩
  have hlen : L.length ≠ 0 := fun h0 => hL (List.eq_nil_of_length_eq_zero h0)
  obtain ⟨E, hE⟩ := h.ex.resolve_left hlen
  have hv := h.novic h1
  have hfr := h.nofr h2
  rw [List.take_length] at hv hfr
  obtain ⟨x, hx, hp⟩ := ring_exists (E := E) hL fun x hx => by
    obtain ⟨w, hw⟩ := Option.isSome_iff_exists.1 (hfr x hx)
    obtain ⟨y, hy, hy2⟩ := wait_edge hf hst hw
    exact ⟨y, (hm y).2 hy2, (hE _).2 hy⟩
  exact hv x hx E hE hp
theorem Ends_k8 {L : List Int} {hL : List (Nat × Obj)} {v27 : Value} {i : Nat} {vic' fr : Int} {vs3 : List Value} {again : List Value → World → Prop} {Q : Value → World → Prop} (hT : TbAt W [] (hL ++ F) T g w) (hrL : RowH 3 1 v27 L.length (intsV .i64 L) hL) (hi : i < L.length) (hL9 : L.length ≤ 1000000) (e2 : vs3.getD 2 undef = .int .i64 (i : Nat)) (e1 : vs3.getD 1 undef = .int .i64 fr)
    (hk : ∀ w' fr', TbAt W [] (hL ++ F) T g w' → ((aGet T.waits L[i]).isSome = true ∧ fr' = fr ∨ fr' = L[i]) → again [.int .i64 vic', .int .i64 fr', .int .i64 ((i + 1 : Nat) : Int)] w') : flotillalaw13_LockEnds_k8 (std Tryz.prog) (.pointer (some ⟨g, 0, none⟩)) v27 vs3 again (.int .i64 vic') w Q := by
  unfold flotillalaw13_LockEnds_k8 flotillalaw13_LockEnds_k7
  obtain ⟨a, c', he1, hc⟩ := int_at (hT.rdI hrL fun p hp => List.mem_append_left _ hp) hi
  subst he1
  simp (disch := first | assumption | omega) only [e2, PX, LX, Nat.mul_one]
  refine st_call (Waits_spec hT L[i]) ?_
  rintro _ w1 ⟨rfl, hT1⟩
  simp (disch := first | assumption | omega) only [PX]
  refine st_talloc ze_want hT1 ?_
  intro b9 w2 hT2 hb9
  generalize (aGet T.waits L[i]).getD ⟨[], 0⟩ = wt
  refine st_tstoreN (vs := [strV wt.name, .int .i64 wt.mode]) (by rw [sz31]; rfl) hT2 rfl (by simp [Value.oneCell']) (.inr hb9) ?_
  intro w3 hT3
  have hT3 := hT3.weak (List.sublist_cons_self ..)
  rw [bool_var]
  refine ⟨fun hno => ?_, fun his => ?_⟩
  · obtain ⟨a', c'', he2, hc2⟩ := int_at (hT3.rdI hrL fun p hp => List.mem_append_left _ hp) hi
    injection he2 with q1 q2 q3
    injection q1 with q1
    subst q1
    simp (disch := first | assumption | omega) only [e1, e2, PX, LX, Nat.mul_one, w64]
    exact hk w3 _ hT3 (.inr rfl)
  · simp (disch := first | assumption | omega) only [e1, e2, PX, w64]
    exact hk w3 _ hT3 (.inl ⟨by simpa using his, rfl⟩)
theorem last_mem {L : List Int} (h : L ≠ []) : L.getLast?.getD 0 ∈ L := by
  rw [List.getLast?_eq_some_getLast h]; exact List.getLast_mem h
theorem LockEnds_spec (W : World) {v0 : Value} {ops : List LOp} (h0 : RdS W opV 4 v0 ops) (hops : ∀ o ∈ ops, okO o) :
    CallsR Tryz.prog 4 #[v0] W fun r w' => r = .bool true ∧ Upd W w' [] := by
  apply flotillalaw13_LockEnds_sound
  unfold flotillalaw13_LockEnds_x
  refine st_call (led_spec h0 (Upd.refl W []) (Owns.nil W)) ?_
  rintro _ w1 ⟨g, T, rfl, hg, hR, hT⟩
  have hopsT : ∀ o ∈ ops.take 60, okO o := fun o ho => hops o (List.mem_of_mem_take ho)
  have hfine : Fine T 60 := (hR.fine hopsT).mono (List.length_take_le ..)
  obtain ⟨hst, M, hM, hMx⟩ := hR.end_ hopsT
  have hM60 : M.length ≤ 60 := Nat.le_trans hM (List.length_take_le ..)
  simp (disch := first | assumption | omega) only [PX, BX]
  refine st_loop (fun vs w' => ∃ (t : Nat) (T : Tb) (M : List Int), vs.getD 4 undef = .int .i64 t ∧ TbAt W [] [] T g w' ∧ Fine T 60 ∧ Stuck T ∧ t + M.length ≤ 60 ∧ ∀ x, TxK T x → x ∈ M) (fun vs _ => 300 - (intOf (vs.getD 4 undef)).toNat) ⟨0, T, M, rfl, hT, hfine, hst, by omega, hMx⟩ ?_
  clear hT hfine hst hM hMx hM60 hR
  clear T M
  rintro dv vs w2 - ⟨t, T, M, et, hT, hfine, hst, htM, hMx⟩
  simp (disch := first | assumption | omega) only [et, PX, BX]
  refine ⟨fun _ => ?_, fun h => absurd (by omega : ((t : Nat) : Int) ≤ 200) h⟩
  refine st_call (Txns_spec hT hfine (by omega)) ?_
  rintro v27 w3 ⟨L, ⟨hL, hrL, hT3, -⟩, hlt, hmem, hLl⟩
  obtain ⟨A, c, hA⟩ := RowH.sl' hrL
  have hlenv : ∀ {w K}, (std Tryz.prog).step (sBuiltin .len #[44] 3 [false] [v27]) w K = K (.int .i64 (L.length : Nat)) w := by rw [hA]; intro w K; simp (disch := first | assumption | omega) only [PX]
  rw [hlenv]
  simp (disch := first | assumption | omega) only [PX, BX]
  refine ⟨fun hz => ?_, fun hnz => ?_⟩
  · have hLn : L = [] := List.eq_nil_of_length_eq_zero (by omega)
    subst hLn
    refine st_call (Edges_spec hT3 hfine (by omega)) ?_
    rintro v w4 ⟨Es, ⟨hl, hr, hT4, -⟩, -, hEs, hEl⟩
    have hEn : Es = [] := by
      cases Es with
      | nil => rfl
      | cons e t =>
        have := edge_txk hfine ((hEs e).1 (List.mem_cons_self ..))
        exact absurd ((hmem _).2 this) (by simp)
    subst hEn
    obtain ⟨A2, c2, rfl⟩ := RowH.sl' hr
    simp (disch := first | assumption | omega) only [PX, BX, List.length_nil]
    refine ⟨fun _ => Turns_lives hT4.1 fun w' h => ⟨rfl, h⟩, fun h => absurd rfl h⟩
  have hLne : L ≠ [] := fun h => hnz (by rw [h]; rfl)
  refine st_loop (fun vs w' => ∃ (i : Nat) (vic fr : Int), i ≤ L.length ∧ vs.getD 2 undef = .int .i64 i ∧ vs.getD 0 undef = .int .i64 vic ∧ vs.getD 1 undef = .int .i64 fr ∧ TbAt W [] (hL ++ []) T g w' ∧ EndsIn T L i vic fr) (fun vs _ => L.length - (intOf (vs.getD 2 undef)).toNat) ⟨0, 0, 0, Nat.zero_le _, rfl, rfl, rfl, hT3, .inl rfl, .inl rfl, .inl rfl, fun _ x hx => by simp at hx, fun _ x hx => by simp at hx⟩ ?_
  rintro dv3 vs3 w4 - ⟨i, vic, fr, hi, e2, e0, e1, hT4, hin⟩
  rw [hlenv]
  simp (disch := first | assumption | omega) only [e2, PX, BX]
  refine ⟨fun hlti => ?_, fun hge => ?_⟩
  · have hi' : i < L.length := by omega
    have htake : L.take (i + 1) = L.take i ++ [L[i]] := List.take_succ_eq_append_getElem hi'
    have htx : TxK T L[i] := (hmem _).1 (List.getElem_mem hi')
    have hin64 := (hfine.txk htx).1
    obtain ⟨a, c', he1, hc⟩ := int_at (hT4.rdI hrL fun p hp => List.mem_append_left _ hp) hi'
    have hidx : ∀ {w K}, (std Tryz.prog).step (sIndexAddr 44 v27 (.int .i64 (i : Nat))) w K = K (.pointer (some (a.add i))) w := by rw [he1]; intro w K; simp (disch := first | assumption | omega) only [PX, Nat.mul_one]
    rw [hidx]
    simp (disch := first | assumption | omega) only [PX, LX]
    refine st_call (Victim_spec hT4 hfine (by omega) L[i]) ?_
    rintro _ w5 ⟨E, L', hE, rfl, ⟨hlt', hR⟩, hT5⟩
    unfold vicV
    simp (disch := first | assumption | omega) only [PX]
    rw [bool_var]
    refine ⟨fun hne => ?_, fun hempty => ?_⟩
    · have hne : L' ≠ [] := fun h => by rw [h] at hne; cases hne
      have hb := last_mem hne
      generalize L'.getLast?.getD 0 = b at hb
      obtain ⟨-, hp⟩ := (hR b).1 hb
      obtain ⟨c2, hc2⟩ := hp.first
      have hbk : TxK T b := edge_txk hfine ((hE _).1 hc2)
      have hb1 := (hfine.txk hbk).1
      refine Ends_k8 hT5 hrL hi' (by omega) e2 e1 fun w' fr' hT' hfr => ?_
      refine ⟨⟨i + 1, b, fr', by omega, rfl, rfl, rfl, hT', .inr hbk, ?_, .inr ⟨E, hE⟩, fun h => by omega, fun h0 x hx => ?_⟩, ?_⟩
      · rcases hfr with ⟨-, rfl⟩ | rfl
        · exact hin.hfr
        · exact .inr htx
      · rcases hfr with ⟨hw, rfl⟩ | rfl
        · rw [htake] at hx
          rcases List.mem_append.1 hx with hx | hx
          · exact hin.nofr h0 x hx
          · rw [List.mem_singleton] at hx; rw [hx]; exact hw
        · omega
      · simp only [List.getD_cons_succ, List.getD_cons_zero, intOf]; omega
    · have hempty : L' = [] := by cases L' with | nil => rfl | cons x t => cases hempty
      subst hempty
      rw [e0]
      refine Ends_k8 hT5 hrL hi' (by omega) e2 e1 fun w' fr' hT' hfr => ?_
      refine ⟨⟨i + 1, vic, fr', by omega, rfl, rfl, rfl, hT', hin.hvic, ?_, .inr ⟨E, hE⟩, fun h0 x hx E' hE' hp => ?_, fun h0 x hx => ?_⟩, ?_⟩
      · rcases hfr with ⟨-, rfl⟩ | rfl
        · exact hin.hfr
        · exact .inr htx
      · rw [htake] at hx
        rcases List.mem_append.1 hx with hx | hx
        · exact hin.novic h0 x hx E' hE' hp
        · rw [List.mem_singleton] at hx
          subst hx
          have hp2 := (Path.congr (fun e => (hE' e).trans (hE e).symm) _ _).1 hp
          have := (hR _).2 ⟨hp2, hp2⟩
          cases this
      · rcases hfr with ⟨hw, rfl⟩ | rfl
        · rw [htake] at hx
          rcases List.mem_append.1 hx with hx | hx
          · exact hin.nofr h0 x hx
          · rw [List.mem_singleton] at hx; rw [hx]; exact hw
        · omega
      · simp only [List.getD_cons_succ, List.getD_cons_zero, intOf]; omega
  · obtain rfl : i = L.length := by omega
    have hwho := hin.who hfine hst hLne hmem
    have hT4' : TbAt W [] [] T g w4 := hT4.weak (List.sublist_append_right _ _)
    have done : ∀ (who : Int) (v27 u6 u7 u2 : Value), TxK T who → flotillalaw13_LockEnds_k4 (std Tryz.prog) (.pointer (some ⟨g, 0, none⟩)) vs (fun vs' w' => (∃ (t : Nat) (T : Tb) (M : List Int), vs'.getD 4 undef = .int .i64 t ∧ TbAt W [] [] T g w' ∧ Fine T 60 ∧ Stuck T ∧ t + M.length ≤ 60 ∧ ∀ x, TxK T x → x ∈ M) ∧ 300 - (intOf (vs'.getD 4 undef)).toNat < 300 - (intOf (Value.int .i64 t)).toNat) v27 u6 u7 u2 (.int .i64 who) w4 fun r w' => r = .bool true ∧ Upd W w' [] := fun who v27 u6 u7 u2 hk => by
      refine Ends_k4 hT4' hfine hst et (by omega) fun T' w' u2' h1 h2 h3 h4 => ?_
      have hwM : who ∈ M := hMx who hk
      refine ⟨⟨t + 1, T', M.filter (fun y => !decide (y = who)), rfl, h4, h1, h2, ?_, fun x hx => ?_⟩, ?_⟩
      · have := outN_lt hwM
        unfold outN at this
        omega
      · obtain ⟨a1, a2⟩ := h3 x hx
        rw [List.mem_filter]
        exact ⟨hMx x a1, by simpa using a2⟩
      · simp only [List.getD_cons_succ, List.getD_cons_zero, intOf]; omega
    unfold flotillalaw13_LockEnds_k2 flotillalaw13_LockEnds_k3
    rw [e0, e1]
    simp (disch := first | assumption | omega) only [PX, BX]
    refine ⟨fun hv0 => ⟨fun hf0 => absurd ⟨hv0, hf0⟩ hwho, fun hf0 => ⟨fun _ => ?_, fun h => absurd hv0 h⟩⟩, fun hv0 => ⟨fun h => absurd h hv0, fun _ => ?_⟩⟩
    · exact done _ _ _ _ _ (hin.hfr.resolve_left hf0)
    · exact done _ _ _ _ _ (hin.hvic.resolve_left hv0)
end
end Go.Proofs.YtakifgecgmdjcaaGreat
