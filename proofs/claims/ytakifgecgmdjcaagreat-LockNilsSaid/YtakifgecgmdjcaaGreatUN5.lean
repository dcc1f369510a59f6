/- Texts of this work, put together: LkAN, LkAO, GrA, GrB, GrC, GrD, LkBA, LkBB, LkBC. -/
import Derived.Test.YtakifgecgmdjcaaGreatUN4
import Derived.ArgAppend
/- Locks: LockTurns. -/
namespace Go.Proofs.YtakifgecgmdjcaaGreat
open Go Xf Go.RowKit
set_option linter.unusedVariables false
set_option linter.unusedSimpArgs false
set_option maxRecDepth 100000

def opBx (b : Nat) (o : LOp) : Nat × Obj := (b, .cells (opV o).toArray 33 (0, 0))
theorem op_cells {w : World} {b : Nat} {o : LOp} (h : w.heap[b]? = some (opBx b o).2) : w.cell? ⟨b, 0, none⟩ = some (.int .i64 o.kind) ∧ w.cell? ⟨b, 1, none⟩ = some (.int .i64 o.txn) ∧ w.cell? ⟨b, 2, none⟩ = some (strV o.want.name) ∧ w.cell? ⟨b, 3, none⟩ = some (.int .i64 o.want.mode) :=
  ⟨(cell_at h).trans rfl, (cell_at h).trans rfl, (cell_at h).trans rfl, (cell_at h).trans rfl⟩
theorem op_boxload {w : World} {b : Nat} {o : LOp} (h : w.heap[b]? = some (opBx b o).2) : (loadVar 33 ⟨b, 0, none⟩).run Tryz.prog w = .ok (.agg (opV o).toArray) w :=
  run_loadVarN (cs := opV o) ag33 (by rw [sz33]; rfl) (cells_read (cs := (opV o).toArray) h)
theorem op_boxwant {w : World} {b : Nat} {o : LOp} (h : w.heap[b]? = some (opBx b o).2) : (loadVar 31 ⟨b, 2, none⟩).run Tryz.prog w = .ok (wtV o.want) w :=
  run_loadVarN (cs := [strV o.want.name, .int .i64 o.want.mode]) ag31 (by rw [sz31]; rfl) fun j v hj => by
    rw [add_mk, cell_at h]
    match j with
    | 0 => exact hj
    | 1 => exact hj
    | j + 2 => simp at hj
theorem Fine.ask {T : Tb} {B : Nat} (h : Fine T B) (new : Nat) (txn : Int) (v : Wt) (ho : in64 txn) : Fine (askT T new txn v).1 (B + 1) := ⟨askT_ok new txn v h.ok, askT_sz new txn v h.sz, askT_good h.good new txn v ho⟩
theorem askT_no {T : Tb} {new : Nat} {txn : Int} {v : Wt} (h : (askT T new txn v).2.2 ≠ 0) : (askT T new txn v).2.1 = false := by
  unfold askT at h ⊢
  by_cases hok : argsOk txn v
  · rw [if_pos hok] at h ⊢
    by_cases hw : (aGet T.waits txn).isSome = true
    · rw [if_pos hw]
    · rw [if_neg hw] at h; exact absurd rfl h
  · rw [if_neg hok]
section
variable {W w w' : World} {F : List (Nat × Obj)} {g : Nat} {T : Tb} {K : Value → World → Prop}
theorem Turns_lives {Q : Value → World → Prop} (hU : Upd W w []) (hQ : ∀ w', Upd W w' [] → Q (.bool true) w') : (std Tryz.prog).calls 8 #[] w Q :=
  st_call (lives_spec hU (Owns.nil w)) fun u w' ⟨h1, h2⟩ => by subst h1; exact hQ w' h2
end
end Go.Proofs.YtakifgecgmdjcaaGreat

/- Locks: LockTurns, put together. -/
namespace Go.Proofs.YtakifgecgmdjcaaGreat
open Go Xf Go.RowKit
set_option linter.unusedVariables false
set_option linter.unusedSimpArgs false
set_option maxRecDepth 100000

end Go.Proofs.YtakifgecgmdjcaaGreat

/- Graphs: the keys of a map of edges; a row of numbers that wait. -/
namespace Go.Proofs.YtakifgecgmdjcaaGreat
open Go Xf Go.RowKit
set_option linter.unusedVariables false
set_option linter.unusedSimpArgs false
set_option maxRecDepth 100000

def keyE (e : Ed) : Value := .agg (edV e).toArray
theorem uEdge : ∃ fs, Tryz.prog.underlying 129 = some (.struct fs) := ⟨Tryz.prog.fieldsOf 129, by kernel_rfl⟩
theorem uGraphMap : Tryz.prog.underlying 125 = some (.map 129 4) := by kernel_rfl
theorem check_ed (e : Bool) (a : Ed) (w : World) : (Instr.checkKey e 10000 129 (keyE a)).run Tryz.prog w = .ok () w := by kernel_rfl
theorem eqIn_ged (a b : Ed) (w : World) : (Op.equalIn 10000 129 (keyE a) (keyE b)).run Tryz.prog w = .ok (decide (a = b)) w := by
  have u3 := Tryz.underlying3
  have a3 := Tryz.isAgg3
  have z3 := Tryz.sizeOf3
  have hS : Tryz.prog.underlying 129 = some (.struct (Tryz.prog.fieldsOf 129)) := by kernel_rfl
  have hp : Tryz.prog.stoodInHeld 129 = false := by kernel_rfl
  have he : (a.1 == b.1 && a.2 == b.2) = decide (a = b) := by
    obtain ⟨a1, a2⟩ := a
    obtain ⟨b1, b2⟩ := b
    by_cases h1 : a1 = b1 <;> by_cases h2 : a2 = b2 <;> simp [h1, h2]
  rw [← he]
  simp only [keyE, edV]
  rw [show (10000 : Nat) = 9999 + 1 from rfl, run_equalIn_agg w 9999 129 _ _ hS hp]
  simp only [Program.fieldsOf, Tryz.underlying129]
  go_simp
  by_cases h1 : a.fst = b.fst <;> by_cases h2 : a.snd = b.snd <;> simp [h1, h2, Prod.ext_iff]
theorem findAsking_ed {ν : Type} {ve : ν → Value} {w : World} (k : Ed) : ∀ (es : List MapEntry) (l : List (Ed × ν)) (i : Nat), es.map (fun e => (e.key, e.val)) = l.map (fun p => (keyE p.1, ve p.2)) →
    (Instr.findAsking 129 (keyE k) es i).run Tryz.prog w = .ok ((aFind l k i).map fun p => (p.1, ve p.2)) w
  | [], [], i, h => rfl
  | [], p :: l, i, h => by simp at h
  | e :: es, [], i, h => by simp at h
  | e :: es, p :: l, i, h => by
    simp only [List.map_cons, List.cons.injEq, Prod.mk.injEq] at h
    obtain ⟨⟨h1, h2⟩, h3⟩ := h
    unfold Instr.findAsking aFind
    have heq : (Op.equal 129 (keyE k) e.key).run Tryz.prog w = .ok (decide (k = p.1)) w := by rw [h1]; exact eqIn_ged k p.1 w
    rw [Sem.run_bind, heq]
    simp only [Result.andThen_ok]
    by_cases he : k = p.1
    · rw [if_pos he, if_pos (decide_eq_true he), h2]; rfl
    · rw [if_neg he, if_neg (by simpa using he)]
      exact findAsking_ed k es l (i + 1) h3
theorem keyE_ok : KeyOk Tryz.prog 129 keyE := by
  refine ⟨fun w e a => check_ed e a w, fun ve w k es l h => ?_, fun a => ?_⟩
  · obtain ⟨fs, hS⟩ := uEdge
    unfold Instr.findKey
    rw [Sem.run_bind, run_underlying' hS]
    simp only [Result.andThen_ok]
    match es, l, h with
    | [], [], h => rfl
    | [], p :: l, h => simp at h
    | e :: es, [], h => simp at h
    | e :: es, p :: l, h =>
      unfold Instr.findNow
      have : Instr.sameNow (.struct fs) (keyE k) e.key = none := rfl
      rw [this]
      exact findAsking_ed k _ _ 0 h
  · simp [keyE, edV, Instr.sameBits]
/-- a row of numbers that may begin behind the first cell of its one block -/
def RowQ (v : Value) (l : List Int) (q : Nat × Obj) : Prop :=
  ∃ off cap cs, v = .slice (some ⟨q.1, off, none⟩) l.length cap ∧ q.2 = .cells cs 3 (0, 0) ∧ l.length ≤ cap ∧ off + cap ≤ cs.size ∧ ∀ i (h : i < l.length), cs[off + i]? = some (.int .i64 l[i])
section
variable {W w w' : World} {ks : List Nat} {F : List (Nat × Obj)} {K : Value → World → Prop} {q : Nat × Obj} {l : List Int} {v : Value}
theorem RowQ.at_ (h : RowQ v l q) (hq : w.heap[q.1]? = some q.2) {i : Nat} (hi : i < l.length) : ∃ off cap, v = .slice (some ⟨q.1, off, none⟩) l.length cap ∧ w.cell? ⟨q.1, off + i, none⟩ = some (.int .i64 l[i]) := by
  obtain ⟨off, cap, cs, rfl, h2, -, -, h6⟩ := h
  rw [h2] at hq
  exact ⟨off, cap, rfl, (cell_at hq).trans (h6 i hi)⟩
/-- the row without its first number -/
theorem RowQ.tail {x : Int} {l : List Int} (h : RowQ v (x :: l) q) : ∃ v', RowQ v' l q ∧ ∀ w : World, (sSlice 44 v (some (.int .i64 1)) none none).run Tryz.prog w = .ok (.value v') w := by
  obtain ⟨off, cap, cs, rfl, h2, h3, h5, h6⟩ := h
  rw [List.length_cons] at h3
  refine ⟨.slice (some ⟨q.1, if cap = 1 then off else off + 1, none⟩) l.length (cap - 1), ⟨_, _, cs, rfl, h2, by omega, by split <;> omega, fun i hi => ?_⟩, fun w => ?_⟩
  · have h7 := h6 (i + 1) (by simp; omega)
    rw [if_neg (by omega)]
    rw [show off + 1 + i = off + (i + 1) by omega, h7]
    rfl
  · rw [run_sliceFrom u44 sz3 (by omega) (by rw [List.length_cons]; omega) (by rw [List.length_cons]; exact h3), List.length_cons]
    have e1 : (1 : Int).toNat = 1 := rfl
    rw [e1, Nat.add_sub_cancel]
    by_cases hc : cap = 1
    · rw [if_pos hc, if_pos hc]
    · rw [if_neg hc, if_neg hc]; rfl
/-- one number more -/
theorem st_push (hr : RowQ v l q) (hl : l.length ≤ 1000000000) (hU : Upd W w ks) (hO : Owns w (q :: F)) (hq : q.1 ∈ ks ∨ W.heap.size ≤ q.1) (x : Int)
    (hk : ∀ v' q' w', RowQ v' (l ++ [x]) q' → Owns w' (q' :: F) → Upd W w' ks → (q'.1 ∈ ks ∨ W.heap.size ≤ q'.1) → K v' w') :
    (std Tryz.prog).step (sBuildSlice 44 1 [(0, .int .i64 x)]) w fun u w => (std Tryz.prog).step (sBuiltin .append #[44, 44] 44 [false, false] [v, u]) w K := by
  refine st_newRow (fun w => row_int x w) hU hO ?_
  intro gr w1 hU1 hO1 hgr
  obtain ⟨inf, e1, e2, e3, e4⟩ := info_int
  obtain ⟨off, cap, cs, rfl, h2, h3, h5, h6⟩ := hr
  obtain ⟨b, ob⟩ := q
  simp only at h2 hq
  subst h2
  have hb1 := hO1.at_ 1 rfl
  have hnew : ∀ j u, [Value.int .i64 x][j]? = some u → w1.cell? ((⟨gr, 0, none⟩ : Addr).add j) = some u := cells_read (cs := #[.int .i64 x]) (hO1.at_ 0 rfl)
  by_cases hroom : l.length + 1 ≤ cap
  · have ha : off + l.length < cs.size := by omega
    have hrun := run_append_room_cells (P := Tryz.prog) w1 44 44 3 inf u44 e1 b off l.length cap ⟨gr, 0, none⟩ 1 1 [.int .i64 x] (by rw [e3]; rfl) hnew (by simp [Value.oneCell']) hroom
      (fun j hj => by
        have : j = 0 := by simpa using hj
        subst this
        rw [e3, Nat.mul_one, Nat.add_zero, cell_at hb1, Array.getElem?_eq_getElem ha]; rfl)
      (fun j hj => frozen_at hb1 (.inr (Nat.zero_le _)))
    rw [e3, Nat.mul_one] at hrun
    have hstep : (sBuiltin .append #[44, 44] 44 [false, false] [.slice (some ⟨b, off, none⟩) l.length cap, .slice (some ⟨gr, 0, none⟩) 1 1]).run Tryz.prog w1 = .ok (.value (.slice (some ⟨b, off, none⟩) (l.length + 1) cap)) (w1.setCells b (off + l.length) [.int .i64 x]) := by
      show (do pure (.value (← Builtin.append_ #[44, 44] 44 #[.slice (some ⟨b, off, none⟩) l.length cap, .slice (some ⟨gr, 0, none⟩) 1 1])) : Sem Next).run Tryz.prog w1 = _
      rw [Sem.run_bind, hrun]; rfl
    rw [step_run hstep]
    have hset : w1.setCells b (off + l.length) [.int .i64 x] = w1.setCell ⟨b, off + l.length, none⟩ (.int .i64 x) := rfl
    rw [hset]
    have hO2 := hO1.setCell (off := off + l.length) 1 rfl (.int .i64 x)
    refine hk _ (b, .cells (cs.setIfInBounds (off + l.length) (.int .i64 x)) 3 (0, 0)) _ ⟨off, cap, _, by rw [List.length_append, List.length_singleton], rfl, by rw [List.length_append, List.length_singleton]; omega, by simpa using h5, fun i hi => ?_⟩ (hO2.sub (List.sublist_cons_self ..)) (hU1.then_ (Upd.setCell _ _ _) fun y hy => by simp at hy; subst hy; exact hq) hq
    rw [List.length_append, List.length_singleton] at hi
    rw [Array.getElem?_setIfInBounds]
    by_cases he : i = l.length
    · subst he; rw [if_pos rfl, if_pos ha]; simp
    · rw [if_neg (by omega), List.getElem_append_left (by omega)]
      exact h6 i (by omega)
  · have hcap : cap = l.length := by omega
    have holds : ∀ j u, (intsV .i64 l)[j]? = some u → w1.cell? ((⟨b, off, none⟩ : Addr).add j) = some u := fun j u hu => by
      unfold intsV at hu
      rw [List.getElem?_map] at hu
      cases hj : l[j]? with
      | none => rw [hj] at hu; cases hu
      | some y =>
        rw [hj] at hu
        obtain ⟨hjl, rfl⟩ := List.getElem?_eq_some_iff.1 hj
        rw [add_mk, cell_at hb1, h6 j hjl]; exact hu
    have hrun := run_append_grow (P := Tryz.prog) w1 44 44 3 inf (.int .i64 0) u44 e1 e2 ⟨b, off, none⟩ l.length cap (intsV .i64 l) (by rw [e3]; unfold intsV; simp) holds ⟨gr, 0, none⟩ 1 1 [.int .i64 x] (by rw [e3]; rfl) hnew (by omega) (by omega) (growslice_fits (by omega) (by rw [e4]; omega))
    have hge := grownCap_ge w1 (l.length + 1) cap 3
    generalize grownCap w1 (l.length + 1) cap 3 = gc at hrun hge
    have hstep : (sBuiltin .append #[44, 44] 44 [false, false] [.slice (some ⟨b, off, none⟩) l.length cap, .slice (some ⟨gr, 0, none⟩) 1 1]).run Tryz.prog w1 = .ok (.value (.slice (some ⟨w1.heap.size, 0, none⟩) (l.length + 1) gc)) (w1.drew.alloc (.cells ((intsV .i64 l).toArray ++ #[Value.int .i64 x] ++ Builtin.zeroCells (Value.int .i64 0).cells (gc - (l.length + 1))) 3)) := by
      show (do pure (.value (← Builtin.append_ #[44, 44] 44 #[.slice (some ⟨b, off, none⟩) l.length cap, .slice (some ⟨gr, 0, none⟩) 1 1])) : Sem Next).run Tryz.prog w1 = _
      rw [Sem.run_bind, hrun]; rfl
    rw [step_run hstep]
    have hz : (Builtin.zeroCells (Value.int .i64 0).cells (gc - (l.length + 1))).size = gc - (l.length + 1) := by rw [size_zeroCells]; show (gc - (l.length + 1)) * 1 = _; omega
    have hO2 := (hO1.ext (Upd.drew w1 [])).alloc (.cells ((intsV .i64 l).toArray ++ #[Value.int .i64 x] ++ Builtin.zeroCells (Value.int .i64 0).cells (gc - (l.length + 1))) 3)
    have hls : (intsV .i64 l).length = l.length := by unfold intsV; simp
    refine hk _ (w1.heap.size, .cells ((intsV .i64 l).toArray ++ #[Value.int .i64 x] ++ Builtin.zeroCells (Value.int .i64 0).cells (gc - (l.length + 1))) 3 (0, 0)) _ ⟨0, gc, _, by rw [List.length_append, List.length_singleton], rfl, by rw [List.length_append, List.length_singleton]; omega, ?_, fun i hi => ?_⟩ (hO2.sub (List.Sublist.cons_cons _ (.cons _ (.cons _ (List.Sublist.refl _))))) (hU1.trans ((Upd.drew w1 _).trans (Upd.alloc _ _ _))) (.inr hU1.size)
    · simp only [Array.size_append, List.size_toArray, hz, hls]
      show 0 + gc ≤ l.length + 1 + (gc - (l.length + 1)); omega
    · rw [List.length_append, List.length_singleton] at hi
      rw [Nat.zero_add, Array.getElem?_append_left (by simp [hls]; omega)]
      have : (intsV .i64 l).toArray ++ #[Value.int .i64 x] = (intsV .i64 (l ++ [x])).toArray := by simp [intsV]
      rw [this]
      unfold intsV
      simp only [List.getElem?_toArray, List.getElem?_map]
      rw [List.getElem?_eq_getElem (by simpa using hi)]; rfl
end
end Go.Proofs.YtakifgecgmdjcaaGreat

/- Graphs: what a thing leads to. -/
namespace Go.Proofs.YtakifgecgmdjcaaGreat
open Go Xf Go.RowKit
set_option linter.unusedVariables false
set_option linter.unusedSimpArgs false
set_option maxRecDepth 100000

abbrev eK (E : List (Ed × Unit)) : List Ed := E.map (·.1)
/-- b is reached from a -/
inductive Path (E : List Ed) : Int → Int → Prop
  | one {a b : Int} : (a, b) ∈ E → Path E a b
  | more {a b c : Int} : Path E a b → (b, c) ∈ E → Path E a c
theorem countP_lt {α : Type} {p q : α → Bool} : ∀ {l : List α}, (∀ x ∈ l, q x = true → p x = true) → ∀ {x : α}, x ∈ l → p x = true → q x = false → l.countP q + 1 ≤ l.countP p
  | [], _, x, hx, _, _ => by cases hx
  | y :: l, h, x, hx, h1, h2 => by
    have hle : l.countP q ≤ l.countP p := List.countP_mono_left fun z hz => h z (List.mem_cons_of_mem _ hz)
    rw [List.countP_cons, List.countP_cons]
    rcases List.mem_cons.1 hx with rfl | hx
    · rw [h1, h2]; simp; omega
    · have := countP_lt (fun z hz => h z (List.mem_cons_of_mem _ hz)) hx h1 h2
      have hy := h y (List.mem_cons_self ..)
      cases hq : q y <;> cases hp : p y <;> simp_all <;> omega
/-- edges whose end was not seen -/
def uns (E : List (Ed × Unit)) (la : List (Int × Unit)) : Nat := E.countP fun p => !(aGet la p.1.2).isSome
theorem uns_set {E : List (Ed × Unit)} {la : List (Int × Unit)} {e : Ed × Unit} (he : e ∈ E) (h : (aGet la e.1.2).isSome = false) : uns E (aSet la e.1.2 ()) + 1 ≤ uns E la := by
  unfold uns
  refine countP_lt (x := e) (fun x hx hq => ?_) he (by rw [h]; rfl) (by rw [aGet_aSet, if_pos rfl]; rfl)
  rw [aGet_aSet] at hq
  split at hq
  · cases hq
  · exact hq
def grO (bm : Nat) : Obj := .cells #[.map (some bm)] 127 (0, 0)
def ReachPost (W : World) (ks : List Nat) (F : List (Nat × Obj)) (E : List Ed) (n : Nat) (a : Int) (u : Value) (w' : World) : Prop :=
  ∃ b o la, u = .map (some b) ∧ MapO keyI uV la o ∧ Keys1 la ∧ (∀ y, y ∈ keysOf la ↔ Path E a y) ∧ la.length ≤ n ∧ Upd W w' ks ∧ Owns w' ((b, o) :: F) ∧ W.heap.size ≤ b
section
variable {W w w' : World} {ks : List Nat} {F : List (Nat × Obj)} {K : Value → World → Prop}
theorem reached_spec {E : List (Ed × Unit)} {bg bm : Nat} {om : Obj} (hm : MapO keyE uV E om) (hE : E.length ≤ 900000000) (hU : Upd W w ks) (hO : Owns w F) (hg : (bg, grO bm) ∈ F) (hbm : (bm, om) ∈ F) (a : Int) :
    CallsR Tryz.prog 91 #[.pointer (some ⟨bg, 0, none⟩), .int .i64 a] w fun u w' => ReachPost W ks F (eK E) E.length a u w' := by
  apply graph_Graph_int_reached_sound
  unfold graph_Graph_int_reached_x
  refine st_makeMap hU hO ?_
  intro ba w1 hU1 hO1 hba
  simp (disch := first | assumption | omega) only [PX, BX]
  refine st_newRow (fun w => row_int a w) hU1 hO1 ?_
  intro gq w2 hU2 hO2 hgq
  have huns : uns E [] ≤ E.length := List.countP_le_length
  let I : Nat → List Value → World → Prop := fun k vs w' => ∃ wt q la oa, wt.length + uns E la = k ∧ k ≤ E.length + 1 ∧ RowQ (vs.getD 2 undef) wt q ∧ MapO keyI uV la oa ∧ Keys1 la ∧ Owns w' (q :: (ba, oa) :: F) ∧ Upd W w' ks ∧ (q.1 ∈ ks ∨ W.heap.size ≤ q.1) ∧ la.length + uns E la ≤ E.length ∧ (∀ y ∈ keysOf la, Path (eK E) a y) ∧ (∀ y ∈ wt, y = a ∨ y ∈ keysOf la) ∧ (∀ x, (x = a ∨ x ∈ keysOf la) → x ∉ wt → ∀ y, (x, y) ∈ eK E → y ∈ keysOf la)
  refine st_loop (fun vs w' => ∃ k, I k vs w') (minK I) ⟨_, [a], (gq, .cells #[.int .i64 a] 3 (0, 0)), [], _, rfl, ?_, ⟨0, 1, _, rfl, rfl, Nat.le_refl _, Nat.le_refl _, fun i hi => ?_⟩, MapO.nil _ _, List.nodup_nil, hO2, hU2, .inr hgq, by simpa using huns, fun y hy => (by cases hy), fun y hy => .inl (by simpa using hy), ?_⟩ ?_
  · show 1 + uns E [] ≤ _; omega
  · have : i = 0 := by simpa using hi
    subst this; rfl
  · rintro x (rfl | hx) hn
    · exact absurd (List.mem_singleton.2 rfl) hn
    · cases hx
  rintro dv vs w3 - hex
  obtain ⟨⟨wt, q, la, oa, hk, hkE, hq, hmA, hk1, hO3, hU3, hqW, hla, hs1, hs2, hcl⟩, -⟩ := minK_spec hex
  generalize minK I vs w3 = k at hk hkE
  clear hex
  obtain ⟨off, cap, cs, ev, -⟩ := id hq
  cases wt with
  | nil =>
    rw [ev]
    simp (disch := first | assumption | omega) only [PX, BX, List.length_nil]
    refine ⟨fun h => absurd h (by decide), fun _ => ?_⟩
    unfold graph_Graph_int_reached_k1
    refine ⟨ba, oa, la, rfl, hmA, hk1, fun y => ⟨hs1 y, fun hp => ?_⟩, by omega, hU3, hO3.sub (List.sublist_cons_self ..), hba⟩
    induction hp with
    | one h => exact hcl _ (.inl rfl) (by simp) _ h
    | more _ h ih => exact hcl _ (.inr ih) (by simp) _ h
  | cons x wt =>
    have h63 : (x :: wt).length ≤ 9223372036854775807 := by omega
    obtain ⟨off', cap', ev', hc0⟩ := hq.at_ (hO3.at_ 0 rfl) (i := 0) (by simp)
    obtain ⟨v2, hq2, hsl⟩ := hq.tail
    rw [ev']
    have hlen1 : (0 : Int) < ((x :: wt).length : Nat) := by simp
    simp (disch := first | assumption | omega) only [PX, BX]
    refine ⟨fun _ => ?_, fun h => absurd hlen1 h⟩
    simp only [Nat.add_zero, List.getElem_cons_zero] at hc0
    have h0n : 0 < (x :: wt).length := by simp
    rw [show (Value.int .i64 0) = .int .i64 ((0 : Nat) : Int) from rfl, px_ix44 h0n]
    simp (disch := first | assumption | omega) only [PX, LX, add_mk, Nat.mul_one, Nat.add_zero]
    rw [← ev', step_run (hsl w3)]
    have cg : w3.cell? ⟨bg, 0, none⟩ = some (.map (some bm)) := (cell_at (hO3.2 (bg, grO bm) (by simp [hg]))).trans rfl
    simp (disch := first | assumption | omega) only [PX, LX, add_mk, Nat.reduceAdd]
    have hin : (bm, om) ∈ q :: (ba, oa) :: F := by simp [hbm]
    obtain ⟨jm, hjm⟩ := List.getElem?_of_mem hin
    refine st_range uGraphMap hU3 hO3 jm hjm hm ?_
    intro r w4 ob hI hU4 hO4 hr
    have hO4 : Owns w4 (q :: (r, ob) :: (ba, oa) :: F) := hO4.perm (List.Perm.swap ..)
    let J : Nat → List Value → World → Prop := fun k2 vs w' => ∃ left ob wt q la oa, left.length = k2 ∧ IterH keyE uV bm om left ob ∧ wt.length + uns E la + 1 ≤ k ∧ RowQ (vs.getD 1 undef) wt q ∧ MapO keyI uV la oa ∧ Keys1 la ∧ Owns w' (q :: (r, ob) :: (ba, oa) :: F) ∧ Upd W w' ks ∧ (q.1 ∈ ks ∨ W.heap.size ≤ q.1) ∧ la.length + uns E la ≤ E.length ∧ (∀ y ∈ keysOf la, Path (eK E) a y) ∧ (∀ y ∈ wt, y = a ∨ y ∈ keysOf la) ∧ (x = a ∨ x ∈ keysOf la) ∧ (∀ p ∈ left, p ∈ E) ∧ (∀ z, (z = a ∨ z ∈ keysOf la) → z ∉ wt → z ≠ x → ∀ y, (z, y) ∈ eK E → y ∈ keysOf la) ∧ (∀ y, (x, y) ∈ eK E → y ∈ keysOf la ∨ (x, y) ∈ eK left)
    refine st_loop (fun vs w' => ∃ k, J k vs w') (minK J) ⟨_, E, ob, wt, q, la, oa, rfl, hI, ?_, hq2, hmA, hk1, hO4, hU4, hqW, hla, hs1, fun y hy => hs2 y (List.mem_cons_of_mem _ hy), hs2 x (List.mem_cons_self ..), fun p hp => hp, fun z hz hn hx y hy => hcl z hz (fun hm => (List.mem_cons.1 hm).elim hx hn) y hy, fun y hy => .inr hy⟩ ?_
    · rw [List.length_cons] at hk; omega
    rintro dv2 vs2 w5 - hex2
    obtain ⟨⟨left, ob5, wt5, q5, la5, oa5, hk5, hI5, hb5, hr5, hm5, hk15, hO5, hU5, hqW5, hla5, hs15, hs25, hxa5, hE5, hcl5, hx5⟩, -⟩ := minK_spec hex2
    generalize minK J vs2 w5 = k2 at hk5
    clear hex2
    have hin5 : (bm, om) ∈ q5 :: (r, ob5) :: (ba, oa5) :: F := by simp [hbm]
    obtain ⟨jm5, hjm5⟩ := List.getElem?_of_mem hin5
    refine st_next hU5 hO5 1 rfl jm5 hjm5 hI5 (.inr hr) ?_ ?_
    · rintro rfl
      rw [px_ext1]
      simp only [BX]
      refine minK_go (I := I) (k' := wt5.length + uns E la5) ⟨wt5, q5, la5, oa5, rfl, by omega, hr5, hm5, hk15, hO5.sub (List.Sublist.cons_cons _ (List.sublist_cons_self ..)), hU5, hqW5, hla5, hs15, hs25, fun z hz hn y hy => ?_⟩ (by omega)
      by_cases hzx : z = x
      · subst hzx
        rcases hx5 y hy with h | h
        · exact h
        · cases h
      · exact hcl5 z hz hn hzx y hy
    · intro e left' w6 ob6 hperm hI6 hent hU6 hO6
      have hO6 : Owns w6 (q5 :: (r, ob6) :: (ba, oa5) :: F) := hO6
      have hlen := hperm.length_eq
      simp only [List.length_cons] at hlen
      have heE : e ∈ E := hE5 e (hperm.mem_iff.1 (List.mem_cons_self ..))
      have hE6 : ∀ p ∈ left', p ∈ E := fun p hp => hE5 p (hperm.mem_iff.1 (List.mem_cons_of_mem _ hp))
      have hx6 : ∀ y, (x, y) ∈ eK E → y ∈ keysOf la5 ∨ (x, y) = e.1 ∨ (x, y) ∈ eK left' := fun y hy => by
        rcases hx5 y hy with h | h
        · exact .inl h
        · obtain ⟨p, hp, hpe⟩ := List.mem_map.1 h
          rcases List.mem_cons.1 (hperm.mem_iff.2 hp) with h2 | h2
          · exact .inr (.inl (by rw [← hpe, h2]))
          · exact .inr (.inr (by rw [← hpe]; exact List.mem_map_of_mem (f := (·.1)) h2))
      simp only [PX, BX]
      rw [step_run (hent w6 (hO6.at_ 1 rfl) (hO6.2 (bm, om) (by simp [hbm])))]
      simp only [PX, BX]
      refine st_alloc ze129 hU6 hO6 ?_
      intro b8 w7 hU7 hO7 hb8
      refine st_storeN (vs := edV e.1) (by rw [sz129]; rfl) hU7 hO7 0 rfl (by show 0 + 2 ≤ 2; decide) (fun u hu => by simp [edV] at hu; rcases hu with rfl | rfl <;> rfl) (.inr hb8) ?_
      intro w8 hU8 hO8
      have hO8 : Owns w8 ((b8, .cells (edV e.1).toArray 129 (0, 0)) :: q5 :: (r, ob6) :: (ba, oa5) :: F) := hO8
      have c0 : w8.cell? ⟨b8, 0, none⟩ = some (.int .i64 e.1.1) := (cell_at (hO8.at_ 0 rfl)).trans rfl
      have c1 : w8.cell? ⟨b8, 1, none⟩ = some (.int .i64 e.1.2) := (cell_at (hO8.at_ 0 rfl)).trans rfl
      simp (disch := first | assumption | omega) only [PX, BX, LX, add_mk, Nat.reduceAdd]
      refine ⟨fun hfx => ?_, fun hfx => ?_⟩
      rotate_left
      · -- another's edge
        refine minK_go (I := J) (k' := left'.length) ⟨left', ob6, wt5, q5, la5, oa5, rfl, hI6, hb5, hr5, hm5, hk15, hO8.sub (List.sublist_cons_self ..), hU8, hqW5, hla5, hs15, hs25, hxa5, hE6, hcl5, fun y hy => ?_⟩ (by omega)
        rcases hx6 y hy with h | h | h
        · exact .inl h
        · exact absurd (by rw [← h]) hfx
        · exact .inr h
      rw [step_run (run_lookup (ve := uV) uAll keyI_ok ze4 (hO8.at_ 3 rfl) hm5 e.1.2 false), if_neg (by decide)]
      have hval : ((aGet la5 e.1.2).map uV).getD (.bool false) = .bool (aGet la5 e.1.2).isSome := by cases aGet la5 e.1.2 <;> rfl
      rw [hval]
      simp (disch := first | assumption | omega) only [PX]
      rw [bool_var]
      refine ⟨fun hno => ?_, fun his => ?_⟩
      rotate_left
      · have his : (aGet la5 e.1.2).isSome = true := by simpa using his
        refine minK_go (I := J) (k' := left'.length) ⟨left', ob6, wt5, q5, la5, oa5, rfl, hI6, hb5, hr5, hm5, hk15, hO8.sub (List.sublist_cons_self ..), hU8, hqW5, hla5, hs15, hs25, hxa5, hE6, hcl5, fun y hy => ?_⟩ (by omega)
        rcases hx6 y hy with h | h | h
        · exact .inl h
        · refine .inl ?_
          have : y = e.1.2 := by rw [← h]
          rw [this]; exact aGet_keys.1 his
        · exact .inr h
      have hno : (aGet la5 e.1.2).isSome = false := by simpa using hno
      simp (disch := first | assumption | omega) only [PX, LX, add_mk, Nat.reduceAdd]
      refine st_mapUpdate (ve := uV) uAll keyI_ok hU8 hO8 3 rfl hm5 (.inr hba) e.1.2 () ?_
      intro w9 oa9 hm9 hU9 hO9
      have hO9 : Owns w9 ((b8, .cells (edV e.1).toArray 129 (0, 0)) :: q5 :: (r, ob6) :: (ba, oa9) :: F) := hO9
      have d1 : w9.cell? ⟨b8, 1, none⟩ = some (.int .i64 e.1.2) := (cell_at (hO9.at_ 0 rfl)).trans rfl
      simp (disch := first | assumption | omega) only [PX, LX, add_mk, Nat.reduceAdd]
      refine st_push hr5 (by omega) hU9 (hO9.sub (List.sublist_cons_self ..)) hqW5 e.1.2 ?_
      intro v' q' w10 hr10 hO10 hU10 hq10
      have hu := uns_set heE hno
      have hnew : ∀ z, z ∈ keysOf (aSet la5 e.1.2 ()) ↔ z = e.1.2 ∨ z ∈ keysOf la5 := fun z => aSet_keys
      have hpe : Path (eK E) a e.1.2 := by
        have h1 : (x, e.1.2) ∈ eK E := by rw [← hfx]; exact List.mem_map_of_mem (f := (·.1)) heE
        rcases hxa5 with h | h
        · rw [h] at h1; exact .one h1
        · exact .more (hs15 x h) h1
      refine minK_go (I := J) (k' := left'.length) ⟨left', ob6, wt5 ++ [e.1.2], q', aSet la5 e.1.2 (), oa9, rfl, hI6, ?_, hr10, hm9, hk15.set, hO10, hU10, hq10, ?_, fun y hy => ?_, fun y hy => ?_, ?_, hE6, fun z hz hn hzx y hy => ?_, fun y hy => ?_⟩ (by omega)
      · rw [List.length_append, List.length_singleton]; omega
      · have := aSet_length e.1.2 () la5
        rw [hno] at this
        simp only [Bool.false_eq_true, if_false] at this
        omega
      · rcases (hnew y).1 hy with h | h
        · rw [h]; exact hpe
        · exact hs15 y h
      · rw [hnew]
        rcases List.mem_append.1 hy with h | h
        · exact (hs25 y h).elim .inl fun h => .inr (.inr h)
        · rw [List.mem_singleton] at h; exact .inr (.inl h)
      · rw [hnew]; exact hxa5.elim .inl fun h => .inr (.inr h)
      · rw [hnew]
        rw [List.mem_append, List.mem_singleton] at hn
        rw [hnew] at hz
        refine .inr (hcl5 z ?_ (fun h => hn (.inl h)) hzx y hy)
        rcases hz with h | h | h
        · exact .inl h
        · exact absurd h fun h => hn (.inr h)
        · exact .inr h
      · rw [hnew]
        rcases hx6 y hy with h | h | h
        · exact .inl (.inr h)
        · exact .inl (.inl (by rw [← h]))
        · exact .inr h
end
end Go.Proofs.YtakifgecgmdjcaaGreat

/- Graphs: rings. -/
namespace Go.Proofs.YtakifgecgmdjcaaGreat
open Go Xf Go.RowKit Go.Sort Go.Shelf
set_option linter.unusedVariables false
set_option linter.unusedSimpArgs false
set_option maxRecDepth 100000

section
variable {W w w' : World} {ks : List Nat} {F : List (Nat × Obj)} {K : Value → World → Prop}
/-- slices.Sort of numbers -/
theorem SortN_spec {hl : List (Nat × Obj)} {v : Value} {l : List Int} (hr : RowH 3 1 v l.length (intsV .i64 l) hl) (hl9 : l.length ≤ 1000000000) (hO : Owns w (hl ++ F)) (hU : Upd W w ks) (hh : ∀ p ∈ hl, p.1 ∈ ks ∨ W.heap.size ≤ p.1) :
    CallsR Tryz.prog 66 #[v] w fun u w' => ∃ h' : List (Nat × Obj), RowH 3 1 v (sortI l).length (intsV .i64 (sortI l)) h' ∧ Owns w' (h' ++ F) ∧ Upd W w' ks ∧ ∀ p ∈ h', p.1 ∈ ks ∨ W.heap.size ≤ p.1 := by
  have hsl : (sortI l).length = l.length := (sortI_perm l).length_eq
  rcases hr.2 with ⟨rfl, h0, rfl⟩ | ⟨gt, cap, cs0, rfl, rfl, hcap, hmax, hsz0, htk0⟩
  · have hl0 : l = [] := List.eq_nil_of_length_eq_zero h0
    subst hl0
    have hcon := AnyM.slices_Sort_int_none Tryz.sortB none 0 w
    change Calls Tryz.prog 66 _ _ _ at hcon
    refine Calls.mono hcon ?_
    rintro e w' ⟨rfl, rfl⟩
    have e0 : sortI [] = [] := by simp [sortI]
    rw [e0]
    exact ⟨_, rfl, [], RowH.nil_ _ _, hO, hU, fun p hp => (by cases hp)⟩
  have hb := hO.at_ 0 (rfl : ([(gt, Obj.cells cs0 3 (0, 0))] ++ F)[0]? = _)
  rw [Nat.mul_one] at hsz0 htk0
  have hget : ∀ j (h : j < l.length), cs0[j]? = some (.int .i64 l[j]) := fun j h => by
    have h1 : (intsV .i64 l)[j]? = some (.int .i64 l[j]) := by unfold intsV; simp [h]
    rw [← htk0, List.getElem?_take, if_pos h] at h1
    simpa using h1
  have hH : Holds (Value.int .i64) w gt 0 l.toArray := by
    intro j hj
    have hj' : j < l.length := by simpa using hj
    refine ⟨?_, frozen_at hb (.inr (Nat.zero_le _))⟩
    rw [cell_at hb, Nat.zero_add, hget j hj', getElem!_pos _ j hj]
    simp
  have hcon := AnyM.slices_Sort_int Tryz.sortB gt 0 cap l w hH (lt_of_some hb) (by omega)
  change Calls Tryz.prog 66 _ _ _ at hcon
  refine Calls.mono hcon ?_
  rintro e w' ⟨rfl, n, os, rfl⟩
  have hgW := hh _ (List.mem_cons_self ..)
  have hS : (l.mergeSort fun x y => decide (x ≤ y)) = sortI l := rfl
  rw [hS]
  have hheap : (grow (putRow (Value.int .i64) (Sort.ahead w n) gt 0 (sortI l).toArray) os).heap[gt]? = some (.cells (putCells (Value.int .i64) 0 (sortI l).toArray cs0) 3 (0, 0)) := by
    have hlt := lt_of_some hb
    unfold grow putRow mapBlock
    show (Array.modify w.heap gt _ ++ os)[gt]? = _
    rw [Array.getElem?_append_left (by simpa using hlt), Array.getElem?_modify, if_pos rfl, hb]
    rfl
  have hother : ∀ k, k < w.heap.size → k ≠ gt → (grow (putRow (Value.int .i64) (Sort.ahead w n) gt 0 (sortI l).toArray) os).heap[k]? = w.heap[k]? := fun k hk hne => by
    unfold grow putRow mapBlock
    show (Array.modify w.heap gt _ ++ os)[k]? = _
    rw [Array.getElem?_append_left (by simpa using hk), Array.getElem?_modify, if_neg (Ne.symm hne)]
  have hUs : Upd w (grow (putRow (Value.int .i64) (Sort.ahead w n) gt 0 (sortI l).toArray) os) [gt] := ⟨rfl, rfl, rfl, by unfold grow putRow mapBlock; simp [Sort.ahead], fun k hk hn => hother k hk (by simpa using hn)⟩
  have hF : Owns w F := hO.sub (List.sublist_append_right _ _)
  have hnd : ∀ p ∈ F, p.1 ≠ gt := fun p hp he => by
    have := hO.1
    rw [List.map_append, List.nodup_append] at this
    exact this.2.2 gt (by simp) p.1 (List.mem_map_of_mem hp) he.symm
  have hcsz : (putCells (Value.int .i64) 0 (sortI l).toArray cs0).size = cap := by unfold putCells; simp [hsz0]
  refine ⟨_, rfl, [(gt, .cells (putCells (Value.int .i64) 0 (sortI l).toArray cs0) 3 (0, 0))], ⟨by unfold intsV; simp, .inr ⟨gt, cap, _, by rw [hsl], rfl, by omega, hmax, by rw [Nat.mul_one]; exact hcsz, ?_⟩⟩, ⟨?_, ?_⟩, hU.then_ hUs (fun x hx => by simp at hx; subst hx; exact hgW), fun p hp => ?_⟩
  · apply List.ext_getElem?
    intro t
    unfold intsV
    rw [Nat.mul_one, List.getElem?_map]
    by_cases ht : t < (sortI l).length
    · rw [List.getElem?_take, if_pos ht, List.getElem?_eq_getElem ht]
      have h1 : t < cs0.size := by rw [hsz0]; omega
      have hs2 : t < (sortI l).toArray.size := by simpa using ht
      rw [Array.getElem?_toList]
      unfold putCells
      rw [Array.getElem?_mapIdx, Array.getElem?_eq_getElem h1, Option.map_some, if_pos ⟨Nat.zero_le _, by omega⟩, Nat.sub_zero, getElem!_pos _ t hs2]
      simp
    · rw [List.getElem?_eq_none (by rw [List.length_take]; omega), List.getElem?_eq_none (by omega)]; rfl
  · rw [List.map_append, List.nodup_append]
    exact ⟨by simp, hF.1, fun a ha b hb he => by
      obtain ⟨p, hp, rfl⟩ := List.mem_map.1 hb
      simp at ha
      exact hnd p hp (by rw [← he, ha])⟩
  · intro p hp
    rcases List.mem_append.1 hp with hp | hp
    · rw [List.mem_singleton] at hp; subst hp; exact hheap
    · rw [hother p.1 (hF.lt hp) (hnd p hp)]; exact hF.2 p hp
  · rw [List.mem_singleton] at hp; subst hp; exact hgW
/-- one number onto a row -/
theorem st_pushH {v : Value} {l : List Int} {hr : List (Nat × Obj)} (hrow : RowH 3 1 v l.length (intsV .i64 l) hr) (hO : Owns w (hr ++ F)) (hU : Upd W w ks) (hm : ∀ p ∈ hr, p.1 ∈ ks ∨ W.heap.size ≤ p.1) (hl : l.length ≤ 1000000000) (x : Int)
    (hk : ∀ v' hr' w', RowH 3 1 v' (l ++ [x]).length (intsV .i64 (l ++ [x])) hr' → Owns w' (hr' ++ F) → Upd W w' ks → (∀ p ∈ hr', p.1 ∈ ks ∨ W.heap.size ≤ p.1) → K v' w') :
    (std Tryz.prog).step (sBuildSlice 44 1 [(0, .int .i64 x)]) w fun u w => (std Tryz.prog).step (sBuiltin .append #[44, 44] 44 [false, false] [v, u]) w K := by
  refine st_newRow (fun w => row_int x w) hU hO ?_
  intro gr w1 hU1 hO1 hgr
  obtain ⟨inf, e1, e2, e3, e4⟩ := info_int
  have hP : Owns w1 (hr ++ ((gr, .cells #[.int .i64 x] 3 (0, 0)) :: F)) := hO1.perm (by
    classical
    refine List.perm_iff_count.2 fun y => ?_
    simp only [List.count_cons, List.count_append]
    omega)
  have hrd : Rd w1 1 (.slice (some ⟨gr, 0, none⟩) 1 1) 1 (intsV .i64 [x]) := ⟨_, 1, rfl, Nat.le_refl _, rfl, fun j u hu => ⟨_, rfl, cells_read (cs := #[.int .i64 x]) (hO1.at_ 0 rfl) j u hu⟩⟩
  have hmx : (1000000001 : Nat) ≤ maxLen := by decide
  refine st_append u44 e1 e2 e3 e4 rfl (by omega) hrow hP hU1 hm hrd (intsV_one _ _) (by omega) (by omega) ?_
  intro v2 w2 hr2 hrow2 hO2 hU2 hm2
  have hrow2 : RowH 3 1 v2 (l ++ [x]).length (intsV .i64 (l ++ [x])) hr2 := by
    rw [List.length_append, List.length_singleton]
    have : intsV .i64 (l ++ [x]) = intsV .i64 l ++ intsV .i64 [x] := by simp [intsV]
    rw [this]; exact hrow2
  exact hk v2 hr2 w2 hrow2 (hO2.sub (List.Sublist.append_left (List.sublist_cons_self ..) _)) hU2 hm2
theorem Leads_spec {E : List (Ed × Unit)} {bg bm : Nat} {om : Obj} (hm : MapO keyE uV E om) (hE : E.length ≤ 900000000) (hU : Upd W w ks) (hO : Owns w F) (hg : (bg, grO bm) ∈ F) (hbm : (bm, om) ∈ F) (a c : Int) :
    CallsR Tryz.prog 92 #[.pointer (some ⟨bg, 0, none⟩), .int .i64 a, .int .i64 c] w fun u w' => ∃ r : Bool, u = .bool r ∧ (r = true ↔ Path (eK E) a c) ∧ Upd W w' ks ∧ Owns w' F := by
  apply graph_Graph_int_Leads_sound
  unfold graph_Graph_int_Leads_x
  refine st_call (reached_spec hm hE hU hO hg hbm a) ?_
  rintro _ w1 ⟨b, o, la, rfl, hmA, hk1, hkey, hlen, hU1, hO1, hb⟩
  rw [step_run (run_lookup (ve := uV) uAll keyI_ok ze4 (hO1.at_ 0 rfl) hmA c false), if_neg (by decide)]
  have hval : ((aGet la c).map uV).getD (.bool false) = .bool (aGet la c).isSome := by cases aGet la c <;> rfl
  rw [hval]
  exact ⟨_, rfl, by rw [aGet_keys]; exact hkey c, hU1, hO1.sub (List.sublist_cons_self ..)⟩
def RingPost (W : World) (ks : List Nat) (F : List (Nat × Obj)) (E : List Ed) (n : Nat) (a : Int) (u : Value) (w' : World) : Prop :=
  ∃ L hl, RowH 3 1 u L.length (intsV .i64 L) hl ∧ Owns w' (hl ++ F) ∧ Upd W w' ks ∧ (∀ p ∈ hl, p.1 ∈ ks ∨ W.heap.size ≤ p.1) ∧ L.Pairwise (· < ·) ∧ (∀ b, b ∈ L ↔ Path E a b ∧ Path E b a) ∧ L.length ≤ n
theorem Ring_spec {E : List (Ed × Unit)} {bg bm : Nat} {om : Obj} (hm : MapO keyE uV E om) (hE : E.length ≤ 900000000) (hU : Upd W w ks) (hO : Owns w F) (hg : (bg, grO bm) ∈ F) (hbm : (bm, om) ∈ F) (a : Int) :
    CallsR Tryz.prog 68 #[.pointer (some ⟨bg, 0, none⟩), .int .i64 a] w fun u w' => RingPost W ks F (eK E) E.length a u w' := by
  apply graph_Graph_int_Ring_sound
  unfold graph_Graph_int_Ring_x
  refine st_call (reached_spec hm hE hU hO hg hbm a) ?_
  rintro _ w1 ⟨bs, os, ls, rfl, hmS, hk1, hkey, hlen, hU1, hO1, hbs⟩
  refine st_range uAll hU1 hO1 0 rfl hmS ?_
  intro r w2 ob hI hU2 hO2 hr
  let I : Nat → List Value → World → Prop := fun k vs w' => ∃ left ob L hl, left.length = k ∧ IterH keyI uV bs os left ob ∧ RowH 3 1 (vs.getD 1 undef) L.length (intsV .i64 L) hl ∧ Owns w' (hl ++ ((r, ob) :: (bs, os) :: F)) ∧ Upd W w' ks ∧ (∀ p ∈ hl, p.1 ∈ ks ∨ W.heap.size ≤ p.1) ∧ (L ++ keysOf left).Nodup ∧ L.length + left.length ≤ E.length ∧ (∀ b, b ∈ L → Path (eK E) a b ∧ Path (eK E) b a) ∧ (∀ b, Path (eK E) a b → Path (eK E) b a → b ∈ L ∨ b ∈ keysOf left) ∧ (∀ b ∈ keysOf left, Path (eK E) a b)
  refine st_loop (fun vs w' => ∃ k, I k vs w') (minK I) ⟨_, ls, ob, [], [], rfl, hI, RowH.nil_ _ _, hO2, hU2, fun p hp => (by cases hp), hk1, by simpa using hlen, fun b hb => (by cases hb), fun b h1 _ => .inr ((hkey b).2 h1), fun b hb => (hkey b).1 hb⟩ ?_
  rintro dv vs w3 - hex
  obtain ⟨⟨left, ob3, L, hl, hk, hI3, hrow, hO3, hU3, hmn, hnd, hln, hsd, hcp, hlf⟩, -⟩ := minK_spec hex
  generalize minK I vs w3 = k at hk
  clear hex
  have hO3' : Owns w3 ((r, ob3) :: (bs, os) :: (hl ++ F)) := hO3.perm (by
    classical
    refine List.perm_iff_count.2 fun y => ?_
    simp only [List.count_cons, List.count_append]
    omega)
  refine st_next hU3 hO3' 0 rfl 1 rfl hI3 (.inr hr) ?_ ?_
  · rintro rfl
    rw [px_ext1]
    simp only [BX]
    unfold graph_Graph_int_Ring_k1
    refine st_call (SortN_spec hrow (by omega) (hO3.sub (List.Sublist.append_left (.cons _ (.cons _ (List.Sublist.refl _))) _)) hU3 hmn) ?_
    rintro _ w4 ⟨h', hr4, hO4, hU4, hm4⟩
    refine ⟨sortI L, h', hr4, hO4, hU4, hm4, sortI_lt (by simpa using hnd), fun b => ?_, by rw [(sortI_perm L).length_eq]; simpa using hln⟩
    rw [(sortI_perm L).mem_iff]
    exact ⟨hsd b, fun ⟨h1, h2⟩ => (hcp b h1 h2).elim id fun h => (by cases h)⟩
  · intro e left' w4 ob4 hperm hI4 hent hU4 hO4
    have hO4 : Owns w4 ((r, ob4) :: (bs, os) :: (hl ++ F)) := hO4
    have hlen2 := hperm.length_eq
    simp only [List.length_cons] at hlen2
    have hpk : (e.1 :: keysOf left').Perm (keysOf left) := hperm.map (fun p : Int × Unit => p.1)
    simp only [PX, BX]
    rw [step_run (hent w4 (hO4.at_ 0 rfl) (hO4.at_ 1 rfl))]
    simp only [PX, BX]
    refine st_call (Leads_spec hm hE hU4 hO4 (List.mem_cons_of_mem _ (List.mem_cons_of_mem _ (List.mem_append_right _ hg))) (List.mem_cons_of_mem _ (List.mem_cons_of_mem _ (List.mem_append_right _ hbm))) e.1 a) ?_
    rintro _ w5 ⟨rb, rfl, hrb, hU5, hO5⟩
    have hO5' : Owns w5 (hl ++ ((r, ob4) :: (bs, os) :: F)) := hO5.perm (by
      classical
      refine List.perm_iff_count.2 fun y => ?_
      simp only [List.count_cons, List.count_append]
      omega)
    have hnd' : (L ++ e.1 :: keysOf left').Nodup := ((hpk.append_left L).nodup_iff).2 hnd
    rw [bool_var]
    refine ⟨fun hT => ?_, fun hF => ?_⟩
    · refine st_pushH hrow hO5' hU5 hmn (by omega) e.1 ?_
      intro v' hr' w6 hrow6 hO6 hU6 hm6
      refine minK_go (I := I) (k' := left'.length) ⟨left', ob4, L ++ [e.1], hr', rfl, hI4, hrow6, hO6, hU6, hm6, by rw [List.append_assoc]; exact hnd', by rw [List.length_append, List.length_singleton]; omega, fun b hb => ?_, fun b h1 h2 => ?_, fun b hb => hlf b (hpk.mem_iff.1 (List.mem_cons_of_mem _ hb))⟩ (by omega)
      · rcases List.mem_append.1 hb with hb | hb
        · exact hsd b hb
        · rw [List.mem_singleton] at hb
          subst hb
          exact ⟨hlf _ (hpk.mem_iff.1 (List.mem_cons_self ..)), hrb.1 hT⟩
      · rcases hcp b h1 h2 with h | h
        · exact .inl (List.mem_append_left _ h)
        · rcases List.mem_cons.1 (hpk.mem_iff.2 h) with h | h
          · exact .inl (List.mem_append_right _ (by rw [h]; exact List.mem_singleton.2 rfl))
          · exact .inr h
    · refine minK_go (I := I) (k' := left'.length) ⟨left', ob4, L, hl, rfl, hI4, hrow, hO5', hU5, hmn, hnd'.sublist (List.Sublist.append_left (List.sublist_cons_self ..) _), by omega, hsd, fun b h1 h2 => ?_, fun b hb => hlf b (hpk.mem_iff.1 (List.mem_cons_of_mem _ hb))⟩ (by omega)
      rcases hcp b h1 h2 with h | h
      · exact .inl h
      · rcases List.mem_cons.1 (hpk.mem_iff.2 h) with h | h
        · rw [h] at h2; exact absurd (hrb.2 h2) (by rw [hF]; exact Bool.false_ne_true)
        · exact .inr h
end
end Go.Proofs.YtakifgecgmdjcaaGreat

/- Graphs: victims; the victim of a table. -/
namespace Go.Proofs.YtakifgecgmdjcaaGreat
open Go Xf Go.RowKit
set_option linter.unusedVariables false
set_option linter.unusedSimpArgs false
set_option maxRecDepth 100000

theorem Path.mono {E E' : List Ed} (h : ∀ e ∈ E, e ∈ E') {a b : Int} (p : Path E a b) : Path E' a b := by
  induction p with
  | one hm => exact .one (h _ hm)
  | more _ hm ih => exact .more ih (h _ hm)
theorem Path.congr {E E' : List Ed} (h : ∀ e, e ∈ E ↔ e ∈ E') (a b : Int) : Path E a b ↔ Path E' a b := ⟨.mono fun e he => (h e).1 he, .mono fun e he => (h e).2 he⟩
theorem Path.trans {E : List Ed} {a b c : Int} (p : Path E a b) (q : Path E b c) : Path E a c := by
  induction q with
  | one hm => exact .more p hm
  | more _ hm ih => exact .more ih hm
theorem Path.cons_ {E : List Ed} {a b c : Int} (h : (a, b) ∈ E) (q : Path E b c) : Path E a c := (Path.one h).trans q
/-- the ring of a thing -/
def RingL (E : List Ed) (a : Int) (L : List Int) : Prop := L.Pairwise (· < ·) ∧ ∀ b, b ∈ L ↔ Path E a b ∧ Path E b a
def vicV (L : List Int) : Value := .tuple #[.int .i64 (L.getLast?.getD 0), .bool (!L.isEmpty)]
section
variable {W w w' : World} {ks : List Nat} {F : List (Nat × Obj)} {K : Value → World → Prop}
theorem gVictim_spec {E : List (Ed × Unit)} {bg bm : Nat} {om : Obj} (hm : MapO keyE uV E om) (hE : E.length ≤ 900000000) (hU : Upd W w ks) (hO : Owns w F) (hg : (bg, grO bm) ∈ F) (hbm : (bm, om) ∈ F) (a : Int) :
    CallsR Tryz.prog 47 #[.pointer (some ⟨bg, 0, none⟩), .int .i64 a] w fun u w' => ∃ L, u = vicV L ∧ RingL (eK E) a L ∧ Upd W w' ks ∧ Owns w' F := by
  apply graph_Graph_int_Victim_sound
  unfold graph_Graph_int_Victim_x
  refine st_call (Ring_spec hm hE hU hO hg hbm a) ?_
  rintro v w1 ⟨L, hl, hr, hO1, hU1, -, hlt, hmem, hlen⟩
  have hrd := hr.rd hO1
  have hOF := hO1.sub (List.sublist_append_right hl F)
  obtain ⟨A, c, rfl⟩ := RowH.sl' hr
  have hc : L.length ≤ c := by
    obtain ⟨A', c', h1, h2, -⟩ := hrd
    injection h1 with _ _ h3
    omega
  simp (disch := first | assumption | omega) only [PX, BX]
  refine ⟨fun h0 => ⟨[], ?_, ⟨List.Pairwise.nil, fun b => ?_⟩, hU1, hOF⟩, fun h0 => ?_⟩
  · rfl
  · rw [← hmem]
    have : L = [] := List.eq_nil_of_length_eq_zero (by omega)
    rw [this]
  · have hpos : 0 < L.length := by omega
    obtain ⟨A', c', h1, -, -, hx⟩ := hrd
    injection h1 with q1 q2 q3
    subst q1 q3
    obtain ⟨a', rfl, ha⟩ := hx (L.length - 1) (.int .i64 L[L.length - 1]) (by unfold intsV; simp [List.getElem?_eq_getElem (show L.length - 1 < L.length by omega)])
    have e : ((L.length : Nat) : Int) - 1 = ((L.length - 1 : Nat) : Int) := by omega
    have hlt' : L.length - 1 < L.length := by omega
    simp (disch := first | assumption | omega) only [PX, LX, w64, e, Nat.mul_one]
    refine ⟨L, ?_, ⟨hlt, hmem⟩, hU1, hOF⟩
    unfold vicV
    have hne : L ≠ [] := fun h => by rw [h] at hpos; exact absurd hpos (by decide)
    rw [List.getLast?_eq_some_getLast hne, List.getLast_eq_getElem hne]
    have : L.isEmpty = false := by cases L; exact absurd rfl hne; rfl
    rw [this]; rfl
theorem build_grf (b : Nat) (w : World) : (sBuild 127 [(0, .map (some b))]).run Tryz.prog w = .ok (.value (.agg #[.map (some b)])) w := by kernel_rfl
theorem gNew_spec (hU : Upd W w ks) (hO : Owns w F) : CallsR Tryz.prog 45 #[] w fun u w' => ∃ bg bm, u = .pointer (some ⟨bg, 0, none⟩) ∧ Upd W w' ks ∧ Owns w' ((bm, .map #[] 0) :: (bg, grO bm) :: F) ∧ W.heap.size ≤ bm ∧ W.heap.size ≤ bg := by
  apply graph_New_int_sound
  unfold graph_New_int_x
  refine st_makeMap hU hO ?_
  intro bm w1 hU1 hO1 hbm
  rw [step_run (build_grf bm w1)]
  refine st_box hU1 hO1 ?_
  intro bg w2 hU2 hO2 hbg
  exact ⟨bg, bm, rfl, hU2, hO2.perm (List.Perm.swap ..), hbm, hbg⟩
theorem build_ged (x y : Int) (w : World) : (sBuild 129 [(0, .int .i64 x), (1, .int .i64 y)]).run Tryz.prog w = .ok (.value (keyE (x, y))) w := by kernel_rfl
theorem gAdd_spec {E : List (Ed × Unit)} {bg bm : Nat} {om : Obj} (hm : MapO keyE uV E om) (hU : Upd W w ks) (hO : Owns w ((bm, om) :: (bg, grO bm) :: F)) (hb : W.heap.size ≤ bm) (x y : Int) :
    CallsR Tryz.prog 46 #[.pointer (some ⟨bg, 0, none⟩), .int .i64 x, .int .i64 y] w fun u w' => ∃ om', MapO keyE uV (aSet E (x, y) ()) om' ∧ Upd W w' ks ∧ Owns w' ((bm, om') :: (bg, grO bm) :: F) := by
  apply graph_Graph_int_Add_sound
  unfold graph_Graph_int_Add_x
  have c0 : w.cell? ⟨bg, 0, none⟩ = some (.map (some bm)) := (cell_at (hO.at_ 1 rfl)).trans rfl
  simp (disch := first | assumption | omega) only [PX, BX, LX, add_mk, Nat.reduceAdd]
  rw [st_mapLen uGraphMap (hO.at_ 0 rfl) hm]
  simp (disch := first | assumption | omega) only [PX, BX, LX, add_mk, Nat.reduceAdd]
  rw [step_run (build_ged x y w)]
  refine st_mapUpdate (ve := uV) uGraphMap keyE_ok hU hO 0 rfl hm (.inr hb) (x, y) () ?_
  intro w1 om1 hm1 hU1 hO1
  have hO1 : Owns w1 ((bm, om1) :: (bg, grO bm) :: F) := hO1
  have d0 : w1.cell? ⟨bg, 0, none⟩ = some (.map (some bm)) := (cell_at (hO1.at_ 1 rfl)).trans rfl
  simp (disch := first | assumption | omega) only [PX, BX, LX, add_mk, Nat.reduceAdd]
  rw [st_mapLen uGraphMap (hO1.at_ 0 rfl) hm1]
  simp (disch := first | assumption | omega) only [PX, BX, LX, add_mk, Nat.reduceAdd]
  exact ⟨om1, hm1, hU1, hO1⟩
theorem Victim_spec {g : Nat} {T : Tb} {B : Nat} (h : TbAt W ks F T g w) (hfine : Fine T B) (hB5 : B ≤ 500) (x : Int) :
    CallsR Tryz.prog 16 #[.pointer (some ⟨g, 0, none⟩), .int .i64 x] w fun u w' => ∃ E L, (∀ e, e ∈ E ↔ EdgeT T e) ∧ u = vicV L ∧ RingL E x L ∧ TbAt W ks F T g w' := by
  apply lock_Table_Victim_sound
  unfold lock_Table_Victim_x
  obtain ⟨hU, hh, hTb, hO, hmine⟩ := h
  refine st_call (gNew_spec hU hO) ?_
  rintro _ w1 ⟨bg, bm, rfl, hU1, hO1, hbm, hbg⟩
  have hT1 : TbAt W ks ((bm, .map #[] 0) :: (bg, grO bm) :: F) T g w1 := ⟨hU1, hh, hTb, hO1.perm (by
    classical
    refine List.perm_iff_count.2 fun y => ?_
    simp only [List.count_cons, List.count_append]
    omega), hmine⟩
  refine st_call (Edges_spec hT1 hfine hB5) ?_
  rintro v w2 ⟨Es, ⟨hl, hr, ⟨hU2, hh2, hTb2, hO2, hmine2⟩, -⟩, -, hEs, hEl⟩
  have hlen2 : Es.length ≤ 1000000000 := by omega
  obtain ⟨A, c, rfl⟩ := RowH.sl' hr
  simp (disch := first | assumption | omega) only [PX, BX]
  refine st_loop (fun vs w' => ∃ (i : Nat) (E : List (Ed × Unit)) (om : Obj), i ≤ Es.length ∧ vs.getD 1 undef = .int .i64 i ∧ MapO keyE uV E om ∧ Upd W w' ks ∧ Owns w' ((bm, om) :: (bg, grO bm) :: (hl ++ (hh2 ++ F))) ∧ E.length ≤ i ∧ ∀ e, e ∈ eK E ↔ e ∈ Es.take i) (fun vs _ => Es.length - (intOf (vs.getD 1 undef)).toNat) ⟨0, [], _, Nat.zero_le _, rfl, MapO.nil _ _, hU2, hO2.perm ?_, Nat.le_refl _, fun e => by simp⟩ ?_
  · classical
    refine List.perm_iff_count.2 fun y => ?_
    simp only [List.count_cons, List.count_append]
    omega
  rintro dv vs w3 - ⟨i, E, om, hi, e1, hmE, hU3, hO3, hEi, hEm⟩
  simp (disch := first | assumption | omega) only [e1, PX, BX]
  refine ⟨fun hlt => ?_, fun hge => ?_⟩
  rotate_left
  · obtain rfl : i = Es.length := by omega
    rw [List.take_length] at hEm
    unfold lock_Table_Victim_k1
    refine st_call (gVictim_spec (bm := bm) hmE (by omega) hU3 hO3 (by simp) (by simp) x) ?_
    rintro _ w4 ⟨L, rfl, hR, hU4, hO4⟩
    unfold vicV
    simp (disch := first | assumption | omega) only [PX]
    refine ⟨eK E, L, fun e => (hEm e).trans (hEs e), rfl, hR, hU4, hh2, hTb2, hO4.sub (.cons _ (.cons _ (List.sublist_append_right _ _))), hmine2⟩
  have hi' : i < Es.length := by omega
  have hOr : Owns w3 (hl ++ ((bm, om) :: (bg, grO bm) :: (hh2 ++ F))) := hO3.perm (by
    classical
    refine List.perm_iff_count.2 fun y => ?_
    simp only [List.count_cons, List.count_append]
    omega)
  obtain ⟨a, c', he, hc⟩ := ed_at (RowH.ed hr hOr hlen2) hi'
  injection he with q1 q2 q3
  subst q1
  simp (disch := first | assumption | omega) only [PX]
  rw [step_run (run_sLoad (hc w3 (Upd.refl w3 [])))]
  refine st_alloc ze78 hU3 hO3 ?_
  intro b8 w4 hU4 hO4 hb8
  refine st_storeN (vs := edV Es[i]) (by rw [sz78]; rfl) hU4 hO4 0 rfl (by show 0 + 2 ≤ 2; decide) (fun u hu => by simp [edV] at hu; rcases hu with rfl | rfl <;> rfl) (.inr hb8) ?_
  intro w5 hU5 hO5
  have hO5 : Owns w5 ((b8, .cells (edV Es[i]).toArray 78 (0, 0)) :: (bm, om) :: (bg, grO bm) :: (hl ++ (hh2 ++ F))) := hO5
  have c0 : w5.cell? ⟨b8, 0, none⟩ = some (.int .i64 Es[i].1) := (cell_at (hO5.at_ 0 rfl)).trans rfl
  have c1 : w5.cell? ⟨b8, 1, none⟩ = some (.int .i64 Es[i].2) := (cell_at (hO5.at_ 0 rfl)).trans rfl
  simp (disch := first | assumption | omega) only [PX, BX, LX, add_mk, Nat.reduceAdd]
  refine st_call (gAdd_spec hmE hU5 (hO5.sub (List.sublist_cons_self ..)) hbm Es[i].1 Es[i].2) ?_
  rintro _ w6 ⟨om6, hm6, hU6, hO6⟩
  simp (disch := first | assumption | omega) only [e1, PX, w64]
  refine ⟨⟨i + 1, _, om6, by omega, rfl, hm6, hU6, hO6, ?_, fun e => ?_⟩, ?_⟩
  · rw [aSet_length]; split <;> omega
  · rw [List.take_succ_eq_append_getElem hi', List.mem_append, List.mem_singleton, ← hEm e]
    unfold eK
    rw [aSet_keys]
    exact ⟨fun h => h.elim .inr .inl, fun h => h.elim .inr .inl⟩
  · simp only [List.getD_cons_succ, List.getD_cons_zero, intOf]; omega
end
end Go.Proofs.YtakifgecgmdjcaaGreat

/- Locks: are two lists the same? -/
namespace Go.Proofs.YtakifgecgmdjcaaGreat
open Go Xf Go.RowKit
set_option linter.unusedVariables false
set_option linter.unusedSimpArgs false
set_option maxRecDepth 100000

theorem eqIn_he (a b : He) (w : World) : (Op.equalIn 10000 104 (.agg (heV a).toArray) (.agg (heV b).toArray)).run Tryz.prog w = .ok (decide (a = b)) w := by
  have u3 := Tryz.underlying29
  have a3 := Tryz.isAgg29
  have z3 := Tryz.sizeOf29
  have u9 := Tryz.underlying9
  have a9 := Tryz.isAgg9
  have z9 := Tryz.sizeOf9
  have hS : Tryz.prog.underlying 104 = some (.struct (Tryz.prog.fieldsOf 104)) := by kernel_rfl
  have hp : Tryz.prog.stoodInHeld 104 = false := by kernel_rfl
  have he : ((⟨a.1.toArray⟩ : ByteArray) == ⟨b.1.toArray⟩ && a.2 == b.2) = decide (a = b) := by
    rw [bytes_beq]
    obtain ⟨a1, a2⟩ := a
    obtain ⟨b1, b2⟩ := b
    by_cases h1 : a1 = b1 <;> by_cases h2 : a2 = b2 <;> simp [h1, h2]
  rw [← he]
  simp only [heV, strV]
  rw [show (10000 : Nat) = 9999 + 1 from rfl, run_equalIn_agg w 9999 104 _ _ hS hp]
  simp only [Program.fieldsOf, Tryz.underlying104]
  go_simp
  by_cases h1 : a.fst = b.fst <;> by_cases h2 : a.snd = b.snd <;> simp [h1, h2, Prod.ext_iff]
theorem hm_he : Tryz.prog.eqGuardType Tryz.prog.depth 104 = false := by kernel_rfl
theorem ne_he (x y : Operand) (a b : He) (w : World) : (sBin .neq 104 x y (.agg (heV a).toArray) (.agg (heV b).toArray)).run Tryz.prog w = .ok (.value (.bool (!decide (a = b)))) w := by
  simp only [sBin, run_sV, Sem.run_bind, run_eqGuard_agg w .neq 104 x y _ _ hm_he, Result.andThen_ok, run_neq_struct, eqIn_he]
section
variable {w : World}
theorem he_load {v : Value} {l : List He} {i : Nat} (hr : RdS w heV 2 v l) (hi : i < l.length) : ∃ a c, v = .slice (some a) l.length c ∧ ∀ w', Upd w w' [] → (loadVar 104 (a.add (i * 2))).run Tryz.prog w' = .ok (.agg (heV l[i]).toArray) w' := by
  obtain ⟨A, c, rfl, hm, hrd⟩ := hr
  obtain ⟨a, rfl, hx⟩ := Rd.row (f := heV) (k := 2) (fun _ => rfl) (by omega) hrd hi
  have e : ((i : Nat) : Int).toNat = i := by omega
  rw [e] at hx
  exact ⟨a, c, rfl, fun w' hU => run_loadVarN (cs := heV l[i]) ag104 (by rw [sz104]; rfl) fun j v hj => by rw [add_add']; exact hx w' hU j v hj⟩
theorem sameEdges_spec {v1 v2 : Value} {l : List Ed} (h1 : RdS w edV 2 v1 l) (h2 : RdS w edV 2 v2 l) (hl : l.length ≤ 1000000000) :
    CallsR Tryz.prog 11 #[v1, v2] w fun u w' => u = .bool true ∧ Upd w w' [] := by
  apply flotillalaw13_sameEdges_sound
  unfold flotillalaw13_sameEdges_x flotillalaw13_sameEdges_k1
  obtain ⟨A1, c1, rfl, -⟩ := id h1
  obtain ⟨A2, c2, rfl, -⟩ := id h2
  simp (disch := first | assumption | omega) only [PX, BX]
  refine ⟨fun h => absurd rfl h, fun _ => ?_⟩
  refine st_loop (fun vs w' => ∃ i : Nat, i ≤ l.length ∧ vs.getD 1 undef = .int .i64 i ∧ Upd w w' []) (fun vs _ => l.length - (intOf (vs.getD 1 undef)).toNat) ⟨0, Nat.zero_le _, rfl, Upd.refl _ _⟩ ?_
  rintro dv vs w1 - ⟨i, hi, e1, hU⟩
  simp (disch := first | assumption | omega) only [e1, PX, BX]
  refine ⟨fun hlt => ?_, fun hge => ⟨trivial, hU⟩⟩
  have hi' : i < l.length := by omega
  obtain ⟨a1, c1', q1, hc1⟩ := ed_at h1 hi'
  injection q1 with q1; subst q1
  obtain ⟨a2, c2', q2, hc2⟩ := ed_at h2 hi'
  injection q2 with q2; subst q2
  have hUd := hU.trans (Upd.drew w1 [])
  have hne : ∃ w', (fun w' => Upd w w' []) w' := ⟨_, hUd⟩
  refine st_draw (fun w' => Upd w w' []) hUd ?_
  simp (disch := first | exact hne | assumption | omega) only [SX]
  rw [stepS_run hne fun w' hs => run_sLoad (hc1 w' hs), stepS_run hne fun w' hs => run_sLoad (hc2 w' hs), stepS_run hne fun w' hs => ne_ed _ _ _ _ _, bool_var]
  refine ⟨fun h => by simp at h, fun _ => ?_⟩
  simp (disch := omega) only [PX, w64]
  refine ⟨⟨i + 1, by omega, rfl, hUd⟩, ?_⟩
  simp only [List.getD_cons_succ, List.getD_cons_zero, intOf]; omega
theorem sameHeld_spec {v1 v2 : Value} {l : List He} (h1 : RdS w heV 2 v1 l) (h2 : RdS w heV 2 v2 l) (hl : l.length ≤ 1000000000) :
    CallsR Tryz.prog 25 #[v1, v2] w fun u w' => u = .bool true ∧ Upd w w' [] := by
  apply flotillalaw13_sameHeld_sound
  unfold flotillalaw13_sameHeld_x flotillalaw13_sameHeld_k1
  obtain ⟨A1, c1, rfl, -⟩ := id h1
  obtain ⟨A2, c2, rfl, -⟩ := id h2
  simp (disch := first | assumption | omega) only [PX, BX]
  refine ⟨fun h => absurd rfl h, fun _ => ?_⟩
  refine st_loop (fun vs w' => ∃ i : Nat, i ≤ l.length ∧ vs.getD 1 undef = .int .i64 i ∧ Upd w w' []) (fun vs _ => l.length - (intOf (vs.getD 1 undef)).toNat) ⟨0, Nat.zero_le _, rfl, Upd.refl _ _⟩ ?_
  rintro dv vs w1 - ⟨i, hi, e1, hU⟩
  simp (disch := first | assumption | omega) only [e1, PX, BX]
  refine ⟨fun hlt => ?_, fun hge => ⟨trivial, hU⟩⟩
  have hi' : i < l.length := by omega
  obtain ⟨a1, c1', q1, hc1⟩ := he_load h1 hi'
  injection q1 with q1; subst q1
  obtain ⟨a2, c2', q2, hc2⟩ := he_load h2 hi'
  injection q2 with q2; subst q2
  have hUd := hU.trans (Upd.drew w1 [])
  have hne : ∃ w', (fun w' => Upd w w' []) w' := ⟨_, hUd⟩
  refine st_draw (fun w' => Upd w w' []) hUd ?_
  simp (disch := first | exact hne | assumption | omega) only [SX]
  rw [stepS_run hne fun w' hs => run_sLoad (hc1 w' hs), stepS_run hne fun w' hs => run_sLoad (hc2 w' hs), stepS_run hne fun w' hs => ne_he _ _ _ _ _, bool_var]
  refine ⟨fun h => by simp at h, fun _ => ?_⟩
  simp (disch := omega) only [PX, w64]
  refine ⟨⟨i + 1, by omega, rfl, hUd⟩, ?_⟩
  simp only [List.getD_cons_succ, List.getD_cons_zero, intOf]; omega
theorem Same_spec {v1 v2 : Value} {l : List Int} (h1 : Rd w 1 v1 l.length (intsV .i64 l)) (h2 : Rd w 1 v2 l.length (intsV .i64 l)) (hl : l.length ≤ 1000000000) :
    CallsR Tryz.prog 24 #[v1, v2] w fun u w' => u = .bool true ∧ Upd w w' [] := by
  apply flotillaref12_Same_sound
  unfold flotillaref12_Same_x flotillaref12_Same_k1
  obtain ⟨A1, c1, rfl, -⟩ := id h1
  obtain ⟨A2, c2, rfl, -⟩ := id h2
  simp (disch := first | assumption | omega) only [PX, BX]
  refine ⟨fun h => absurd rfl h, fun _ => ?_⟩
  refine st_loop (fun vs w' => ∃ i : Nat, i ≤ l.length ∧ vs.getD 1 undef = .int .i64 i ∧ Upd w w' []) (fun vs _ => l.length - (intOf (vs.getD 1 undef)).toNat) ⟨0, Nat.zero_le _, rfl, Upd.refl _ _⟩ ?_
  rintro dv vs w1 - ⟨i, hi, e1, hU⟩
  simp (disch := first | assumption | omega) only [e1, PX, BX]
  refine ⟨fun hlt => ?_, fun hge => ⟨trivial, hU⟩⟩
  have hi' : i < l.length := by omega
  obtain ⟨a1, c1', q1, -⟩ := int_at h1 hi'
  injection q1 with q1; subst q1
  obtain ⟨a2, c2', q2, -⟩ := int_at h2 hi'
  injection q2 with q2; subst q2
  have hc1 : ∀ w', Upd w w' [] → w'.cell? (a1.add i) = some (.int .i64 l[i]) := fun w' hU => by
    obtain ⟨a, c, q, hc⟩ := int_at (h1.mono hU) hi'
    injection q with q; injection q with q; subst q; exact hc
  have hc2 : ∀ w', Upd w w' [] → w'.cell? (a2.add i) = some (.int .i64 l[i]) := fun w' hU => by
    obtain ⟨a, c, q, hc⟩ := int_at (h2.mono hU) hi'
    injection q with q; injection q with q; subst q; exact hc
  have hUd := hU.trans (Upd.drew w1 [])
  have hne : ∃ w', (fun w' => Upd w w' []) w' := ⟨_, hUd⟩
  refine st_draw (fun w' => Upd w w' []) hUd ?_
  simp (disch := first | exact hne | assumption | omega) only [SX, SLX, Nat.mul_one]
  rw [bool_dec]
  refine ⟨fun h => absurd rfl h, fun _ => ?_⟩
  simp (disch := omega) only [PX, w64]
  refine ⟨⟨i + 1, by omega, rfl, hUd⟩, ?_⟩
  simp only [List.getD_cons_succ, List.getD_cons_zero, intOf]; omega
end
end Go.Proofs.YtakifgecgmdjcaaGreat

/- Locks: what a nil table answers. -/
namespace Go.Proofs.YtakifgecgmdjcaaGreat
open Go Xf Go.RowKit
set_option linter.unusedVariables false
set_option linter.unusedSimpArgs false
set_option maxRecDepth 100000

section
variable {w : World}
theorem nAsk_spec (txn : Int) (v : Wt) : CallsR Tryz.prog 21 #[.pointer none, .int .i64 txn, wtV v] w fun u w' => u = .tuple #[.bool false, .int .i64 1] ∧ Upd w w' [] := by
  apply lock_Table_Ask_sound
  unfold lock_Table_Ask_x lock_Table_Ask_k1
  refine st_box (Upd.refl w []) (Owns.nil w) ?_
  intro b w1 hU hO hb
  simp (disch := first | assumption | omega) only [PX, BX]
  exact ⟨trivial, hU⟩
theorem nWaits_spec (x : Int) : CallsR Tryz.prog 17 #[.pointer none, .int .i64 x] w fun u w' => u = .tuple #[wtV ⟨[], 0⟩, .bool false] ∧ Upd w w' [] := by
  apply lock_Table_Waits_sound
  unfold lock_Table_Waits_x
  refine st_alloc ze_want (Upd.refl w []) (Owns.nil w) ?_
  intro b w1 hU hO hb
  simp (disch := first | assumption | omega) only [PX, BX]
  have hbuild : ∀ w : World, (sBuild 31 []).run Tryz.prog w = .ok (.value (wtV ⟨[], 0⟩)) w := fun w => by kernel_rfl
  rw [step_run (hbuild w1)]
  refine st_storeN (vs := [strV [], .int .i64 0]) (by rw [sz31]; rfl) hU hO 0 rfl (by show 0 + 2 ≤ 2; decide) (by simp [Value.oneCell']) (.inr hb) ?_
  intro w2 hU2 hO2
  have hO2 : Owns w2 [wtBx b ⟨[], 0⟩] := hO2
  refine st_loadR (wt_load (hO2.at_ 0 rfl)) ?_
  exact ⟨rfl, hU2⟩
theorem ngone_spec (x : Int) (b : Bool) : CallsR Tryz.prog 48 #[.pointer none, .int .i64 x, .bool b] w fun u w' => u = .slice none 0 0 ∧ Upd w w' [] := by
  apply lock_Table_gone_sound
  unfold lock_Table_gone_x
  simp (disch := first | assumption | omega) only [PX, BX]
  exact ⟨trivial, Upd.refl w []⟩
theorem nFree_spec (x : Int) : CallsR Tryz.prog 18 #[.pointer none, .int .i64 x] w fun u w' => u = .slice none 0 0 ∧ Upd w w' [] := by
  apply lock_Table_Free_sound
  unfold lock_Table_Free_x
  exact st_call (ngone_spec x true) fun _ _ h => h
theorem nCancel_spec (x : Int) : CallsR Tryz.prog 22 #[.pointer none, .int .i64 x] w fun u w' => u = .slice none 0 0 ∧ Upd w w' [] := by
  apply lock_Table_Cancel_sound
  unfold lock_Table_Cancel_x
  exact st_call (ngone_spec x false) fun _ _ h => h
theorem nHeld_spec (x : Int) : CallsR Tryz.prog 23 #[.pointer none, .int .i64 x] w fun u w' => u = .slice none 0 0 ∧ Upd w w' [] := by
  apply lock_Table_Held_sound
  unfold lock_Table_Held_x
  simp (disch := first | assumption | omega) only [PX, BX]
  exact ⟨trivial, Upd.refl w []⟩
theorem nEdges_specO {W : World} {ks : List Nat} {F : List (Nat × Obj)} (hU : Upd W w ks) (hO : Owns w F) : CallsR Tryz.prog 12 #[.pointer none] w fun u w' => u = .slice none 0 0 ∧ Upd W w' ks ∧ Owns w' F := by
  apply lock_Table_Edges_sound
  unfold lock_Table_Edges_x
  refine st_alloc (z := .slice none 0 0) ze39 hU hO ?_
  intro b w1 hU1 hO1 hb
  have c0 : w1.cell? ⟨b, 0, none⟩ = some (.slice none 0 0) := (cell_at (hO1.at_ 0 rfl)).trans rfl
  simp (disch := first | assumption | omega) only [PX, BX]
  refine st_load ag39 c0 ?_
  exact ⟨rfl, hU1, hO1.sub (List.sublist_cons_self ..)⟩
theorem nTxns_spec : CallsR Tryz.prog 15 #[.pointer none] w fun u w' => u = .slice none 0 0 ∧ Upd w w' [] := by
  apply lock_Table_Txns_sound
  unfold lock_Table_Txns_x
  refine st_makeMap (Upd.refl w []) (Owns.nil w) ?_
  intro b w1 hU hO hb
  simp (disch := first | assumption | omega) only [PX, BX]
  exact ⟨trivial, hU⟩
theorem Path.nil_ {a b : Int} : ¬ Path [] a b := fun h => by
  cases h with
  | one h => cases h
  | more _ h => cases h
theorem nVictim_spec (x : Int) : CallsR Tryz.prog 16 #[.pointer none, .int .i64 x] w fun u w' => u = .tuple #[.int .i64 0, .bool false] ∧ Upd w w' [] := by
  apply lock_Table_Victim_sound
  unfold lock_Table_Victim_x
  refine st_call (gNew_spec (Upd.refl w []) (Owns.nil w)) ?_
  rintro _ w1 ⟨bg, bm, rfl, hU1, hO1, hbm, hbg⟩
  refine st_call (nEdges_specO hU1 hO1) ?_
  rintro _ w2 ⟨rfl, hU2, hO2⟩
  simp (disch := first | assumption | omega) only [PX, BX]
  refine st_loop (fun vs w' => vs.getD 1 undef = .int .i64 ((0 : Nat) : Int) ∧ w' = w2) (fun _ _ => 0) ⟨rfl, rfl⟩ ?_
  rintro dv vs w3 - ⟨e1, rfl⟩
  simp (disch := first | assumption | omega) only [e1, PX, BX]
  refine ⟨fun h => absurd h (by omega), fun _ => ?_⟩
  unfold lock_Table_Victim_k1
  refine st_call (gVictim_spec (bm := bm) (MapO.nil _ _) (Nat.zero_le _) hU2 hO2 (by simp) (by simp) x) ?_
  rintro _ w4 ⟨L, rfl, ⟨-, hR⟩, hU4, hO4⟩
  have hL : L = [] := by
    cases L with
    | nil => rfl
    | cons b L => exact absurd ((hR b).1 (List.mem_cons_self ..)).1 Path.nil_
  subst hL
  unfold vicV
  simp (disch := first | assumption | omega) only [PX]
  exact ⟨rfl, hU4⟩
end
end Go.Proofs.YtakifgecgmdjcaaGreat

/- Locks: LockNils. -/
namespace Go.Proofs.YtakifgecgmdjcaaGreat
open Go Xf Go.RowKit
set_option linter.unusedVariables false
set_option linter.unusedSimpArgs false
set_option maxRecDepth 100000

theorem sorted_ext {α : Type} {R : α → α → Prop} (has : ∀ a b, R a b → R b a → False) : ∀ {l1 l2 : List α}, l1.Pairwise R → l2.Pairwise R → (∀ x, x ∈ l1 ↔ x ∈ l2) → l1 = l2
  | [], [], _, _, _ => rfl
  | [], b :: t, _, _, h => absurd ((h b).2 (List.mem_cons_self ..)) (by simp)
  | a :: s, [], _, _, h => absurd ((h a).1 (List.mem_cons_self ..)) (by simp)
  | a :: s, b :: t, h1, h2, h => by
    rw [List.pairwise_cons] at h1 h2
    have hab : a = b := by
      rcases List.mem_cons.1 ((h a).1 (List.mem_cons_self ..)) with e | e
      · exact e
      · rcases List.mem_cons.1 ((h b).2 (List.mem_cons_self ..)) with e' | e'
        · exact e'.symm
        · exact (has _ _ (h1.1 b e') (h2.1 a e)).elim
    subst hab
    rw [sorted_ext has h1.2 h2.2 fun x => ?_]
    have hx := h x
    rw [List.mem_cons, List.mem_cons] at hx
    constructor
    · intro hxs
      rcases hx.1 (.inr hxs) with e | e
      · subst e; exact (has _ _ (h1.1 x hxs) (h1.1 x hxs)).elim
      · exact e
    · intro hxs
      rcases hx.2 (.inr hxs) with e | e
      · subst e; exact (has _ _ (h2.1 x hxs) (h2.1 x hxs)).elim
      · exact e
theorem edLt_as (a b : Ed) (h1 : edLt a b) (h2 : edLt b a) : False := by unfold edLt at *; omega
theorem askT_same {T : Tb} {new : Nat} {txn : Int} {v : Wt} (h : (askT T new txn v).2.2 ≠ 0) : (askT T new txn v).1 = T := by
  unfold askT at h ⊢
  by_cases hok : argsOk txn v
  · rw [if_pos hok] at h ⊢
    by_cases hw : (aGet T.waits txn).isSome = true
    · rw [if_pos hw]
    · rw [if_neg hw] at h; exact absurd rfl h
  · rw [if_neg hok]
section
variable {W w w' : World} {ks : List Nat} {F : List (Nat × Obj)} {T : Tb} {g : Nat}
theorem TbAt.rdEd {l : List Ed} {v : Value} {hl : List (Nat × Obj)} (hr : RowH 78 2 v l.length (edsV l) hl) (h : TbAt W ks F T g w) (hs : ∀ p ∈ hl, p ∈ F) (hlen : l.length ≤ 1000000000) : RdS w edV 2 v l :=
  RowH.ed (F := []) hr ⟨by rw [List.append_nil]; rcases hr.2 with ⟨_, _, rfl⟩ | ⟨g', _, _, _, rfl, _⟩ <;> simp, fun p hp => h.owns.2 p (hs p (by simpa using hp))⟩ hlen
/-- behind the guards -/
theorem Nils_k {B b3 : Nat} {o : LOp} {v82 v84 v88 : Value} {L1 : List Ed} {L2 : List Int} {h1 h2 h3 : List (Nat × Obj)} (hT : TbAt W [] F T g w) (hfine : Fine T B) (hB : B ≤ 400) (ho : okO o) (hb3 : opBx b3 o ∈ F)
    (hr1 : RowH 78 2 v82 L1.length (edsV L1) h1) (hs1 : ∀ p ∈ h1, p ∈ F) (hp1 : L1.Pairwise edLt) (hm1 : ∀ e, e ∈ L1 ↔ EdgeT T e) (hl1 : L1.length ≤ 200000000)
    (hr2 : RowH 3 1 v84 L2.length (intsV .i64 L2) h2) (hs2 : ∀ p ∈ h2, p ∈ F) (hp2 : L2.Pairwise (· < ·)) (hm2 : ∀ x, x ∈ L2 ↔ TxK T x) (hl2 : L2.length ≤ 300000)
    (hr3 : RowH 104 2 v88 (heldT T o.txn).length (hesV (heldT T o.txn)) h3) (hs3 : ∀ p ∈ h3, p ∈ F) :
    (std Tryz.prog).calls 12 #[.pointer (some ⟨g, 0, none⟩)] w fun v105_1 w =>
      (std Tryz.prog).calls 11 #[v105_1, v82] w fun v107_1 w =>
      (std Tryz.prog).bool v107_1
      ((std Tryz.prog).calls 15 #[.pointer (some ⟨g, 0, none⟩)] w fun v111_1 w =>
      (std Tryz.prog).calls 24 #[v111_1, v84] w fun v113_1 w =>
      (std Tryz.prog).bool v113_1
      ((std Tryz.prog).step (sFieldAddr 33 (.pointer (some ⟨b3, 0, none⟩)) 1) w fun v117_1 w =>
      (std Tryz.prog).step (sLoad 3 v117_1) w fun v118_1 w =>
      (std Tryz.prog).calls 23 #[.pointer (some ⟨g, 0, none⟩), v118_1] w fun v119_1 w =>
      (std Tryz.prog).calls 25 #[v119_1, v88] w fun v121_1 w =>
      (std Tryz.prog).bool v121_1
      ((std Tryz.prog).calls 8 #[] w fun v124_1 w =>
      (fun r w' => r = .bool true ∧ Upd W w' []) v124_1 w)
      (flotillalaw13_LockNils_k2 (std Tryz.prog) w fun r w' => r = .bool true ∧ Upd W w' []))
      (flotillalaw13_LockNils_k2 (std Tryz.prog) w fun r w' => r = .bool true ∧ Upd W w' []))
      (flotillalaw13_LockNils_k2 (std Tryz.prog) w fun r w' => r = .bool true ∧ Upd W w' []) := by
  refine st_call (Edges_spec hT hfine (by omega)) ?_
  rintro v w1 ⟨L, ⟨hl, hr, hT1, -⟩, hp, hm, hlen⟩
  obtain rfl : L = L1 := sorted_ext edLt_as hp hp1 fun e => by rw [hm, hm1]
  refine st_call (sameEdges_spec (hT1.rdEd hr (fun p hp => List.mem_append_left _ hp) (by omega)) (hT1.rdEd hr1 (fun p hp => List.mem_append_right _ (hs1 p hp)) (by omega)) (by omega)) ?_
  rintro _ w2 ⟨rfl, hU2⟩
  have hT2 := (hT1.upd hU2).weak (List.sublist_append_right _ _)
  simp only [BX]
  refine st_call (Txns_spec hT2 hfine (by omega)) ?_
  rintro v' w3 ⟨L', ⟨hl', hr', hT3, -⟩, hp', hm', hlen'⟩
  obtain rfl : L' = L2 := sorted_ext (fun a b h1 h2 => by omega) hp' hp2 fun e => by rw [hm', hm2]
  refine st_call (Same_spec (hT3.rdI hr' (fun p hp => List.mem_append_left _ hp)) (hT3.rdI hr2 (fun p hp => List.mem_append_right _ (hs2 p hp))) (by omega)) ?_
  rintro _ w4 ⟨rfl, hU4⟩
  have hT4 := (hT3.upd hU4).weak (List.sublist_append_right _ _)
  obtain ⟨c0, c1, c2, c3⟩ := op_cells (hT4.at_ hb3)
  simp (disch := first | assumption | omega) only [PX, BX, LX, add_mk, Nat.reduceAdd]
  refine st_call (Held_spec hT4 hfine.ok (by omega) o.txn) ?_
  rintro v'' w5 ⟨hl'', hr'', hT5, -⟩
  have hh := heldT_len hfine.ok o.txn
  refine st_call (sameHeld_spec (hT5.rdHe hr'' (fun p hp => List.mem_append_left _ hp) (by omega)) (hT5.rdHe hr3 (fun p hp => List.mem_append_right _ (hs3 p hp)) (by omega)) (by omega)) ?_
  rintro _ w6 ⟨rfl, hU6⟩
  simp only [BX]
  exact Turns_lives (hT5.upd hU6).1 fun w' h => ⟨rfl, h⟩
theorem LockNils_spec (W : World) {v0 : Value} {ops : List LOp} {o : LOp} (h0 : RdS W opV 4 v0 ops) (hops : ∀ o ∈ ops, okO o) (ho : okO o) :
    CallsR Tryz.prog 5 #[v0, .agg (opV o).toArray] W fun r w' => r = .bool true ∧ Upd W w' [] := by
  apply flotillalaw13_LockNils_sound
  unfold flotillalaw13_LockNils_x
  refine st_box (Upd.refl W []) (Owns.nil W) ?_
  intro b3 w0 hU0 hO0 hb3
  have hO0 : Owns w0 [opBx b3 o] := hO0
  have hbuild : ∀ w : World, (sBuild 31 [(0, .string ⟨#[97]⟩), (1, .int .i64 3)]).run Tryz.prog w = .ok (.value (wtV ⟨[97], 3⟩)) w := fun w => by kernel_rfl
  rw [step_run (hbuild w0)]
  refine st_call (nAsk_spec 1 ⟨[97], 3⟩) ?_
  rintro _ w1 ⟨rfl, hU1⟩
  simp (disch := first | assumption | omega) only [PX]
  refine st_call (nWaits_spec 1) ?_
  rintro _ w2 ⟨rfl, hU2⟩
  simp (disch := first | assumption | omega) only [PX]
  refine st_alloc ze_want ((hU0.trans hU1).trans hU2) ((hO0.ext hU1).ext hU2) ?_
  intro b8 w3 hU3 hO3 hb8
  refine st_storeN (vs := [strV [], .int .i64 0]) (by rw [sz31]; rfl) hU3 hO3 0 rfl (by show 0 + 2 ≤ 2; decide) (by simp [Value.oneCell']) (.inr hb8) ?_
  intro w4 hU4 hO4
  have hO4 : Owns w4 [opBx b3 o] := hO4.sub (List.sublist_cons_self ..)
  refine st_call (nVictim_spec 1) ?_
  rintro _ w5 ⟨rfl, hU5⟩
  have w00 : IntKind.wrap .i64 ((0 : Int) + ((0 : Nat) : Int)) = 0 := by decide
  simp (disch := first | assumption | omega) only [PX, BX]
  refine ⟨fun h => absurd rfl h, fun _ => ?_⟩
  refine st_call (nFree_spec 1) ?_
  rintro _ w6 ⟨rfl, hU6⟩
  simp (disch := first | assumption | omega) only [PX, BX, w00]
  refine st_call (nCancel_spec 1) ?_
  rintro _ w7 ⟨rfl, hU7⟩
  simp (disch := first | assumption | omega) only [PX, BX, w00]
  refine st_call (nHeld_spec 1) ?_
  rintro _ w8 ⟨rfl, hU8⟩
  simp (disch := first | assumption | omega) only [PX, BX, w00]
  refine st_call (nEdges_specO ((((hU4.trans hU5).trans hU6).trans hU7).trans hU8) ((((hO4.ext hU5).ext hU6).ext hU7).ext hU8)) ?_
  rintro _ w9 ⟨rfl, hU9, hO9⟩
  simp (disch := first | assumption | omega) only [PX, BX, w00]
  refine st_call nTxns_spec ?_
  rintro _ w10 ⟨rfl, hU10⟩
  simp (disch := first | assumption | omega) only [PX, BX, w00]
  refine ⟨fun h => absurd rfl h, fun _ => ?_⟩
  refine st_call (led_spec h0 (hU9.trans hU10) (hO9.ext hU10)) ?_
  rintro _ w11 ⟨g, T, rfl, hg, hR, hT⟩
  have hfine : Fine T 60 := (hR.fine fun o ho => hops o (List.mem_of_mem_take ho)).mono (List.length_take_le ..)
  simp (disch := first | assumption | omega) only [PX, BX]
  rw [step_run (run_sLoad (op_boxload (hT.at_ (List.mem_cons_self ..))))]
  refine st_call (short_spec o w11) ?_
  rintro _ w12 ⟨rfl, hU12⟩
  have hT2 := hT.upd hU12
  simp (disch := first | assumption | omega) only [PX, BX]
  rw [bool_var]
  refine ⟨fun hs => ?_, fun hs => ?_⟩
  rotate_left
  · exact Turns_lives hT2.1 fun w' h => ⟨rfl, h⟩
  let S : World → Prop := fun w' => w'.cell? ⟨b3, 1, none⟩ = some (.int .i64 o.txn)
  have hS : ∀ {w' : World} {F' : List (Nat × Obj)}, TbAt W [] F' T g w' → opBx b3 o ∈ F' → S w' := fun h hm => (op_cells (h.at_ hm)).2.1
  have hTd := hT2.upd (Upd.drew w12 [])
  have hne : ∃ w', S w' := ⟨_, hS hTd (List.mem_cons_self ..)⟩
  refine st_draw S (hS hTd (List.mem_cons_self ..)) ?_
  have g1 : ∀ w', S w' → w'.cell? ⟨b3, 1, none⟩ = some (.int .i64 o.txn) := fun w' h => h
  simp (disch := first | exact hne | assumption | omega) only [SX, SLX, add_mk, Nat.reduceAdd]
  refine st_call (Edges_spec hTd hfine (by omega)) ?_
  rintro v82 w13 ⟨L1, ⟨h1, hr1, hT3, -⟩, hp1, hm1, hl1⟩
  refine st_same (hS hT3 (by simp)) ?_
  refine st_call (Txns_spec hT3 hfine (by omega)) ?_
  rintro v84 w14 ⟨L2, ⟨h2, hr2, hT4, -⟩, hp2, hm2, hl2⟩
  refine st_same (hS hT4 (by simp)) ?_
  refine st_call (Held_spec hT4 hfine.ok (by omega) o.txn) ?_
  rintro v88 w15 ⟨h3, hr3, hT5, -⟩
  refine st_keepT (fun _ => True) trivial ?_
  have hmem : opBx b3 o ∈ h3 ++ (h2 ++ (h1 ++ [opBx b3 o])) := by simp
  obtain ⟨c0, c1, c2, c3⟩ := op_cells (hT5.at_ hmem)
  simp (disch := first | assumption | omega) only [PX, BX, LX, add_mk, Nat.reduceAdd]
  rw [step_run (run_sLoad (op_boxwant (hT5.at_ hmem)))]
  refine st_call (Ask_spec hT5 _ _ (ask_small hfine.ok (by omega) _) (by unfold shortB at hs; simp at hs; omega)) ?_
  rintro _ w16 ⟨new, rfl, hT6⟩
  have hno := askT_no (T := T) (new := new) (txn := o.txn) (v := o.want)
  have hsm := askT_same (T := T) (new := new) (txn := o.txn) (v := o.want)
  unfold askV
  generalize askT T new o.txn o.want = r at hT6 hno hsm
  obtain ⟨T', got, e⟩ := r
  simp only at hno hsm hT6
  simp (disch := first | assumption | omega) only [PX, BX]
  refine ⟨fun h => Turns_lives hT6.1 fun w' h => ⟨rfl, h⟩, fun he => ?_⟩
  obtain rfl := hsm he
  obtain rfl := hno he
  simp only [BX, Bool.not_false]
  exact Nils_k hT6 hfine (by omega) ho hmem hr1 (fun p hp => by simp [hp]) hp1 hm1 hl1 hr2 (fun p hp => by simp [hp]) hp2 hm2 hl2 hr3 (fun p hp => by simp [hp])
end
end Go.Proofs.YtakifgecgmdjcaaGreat
